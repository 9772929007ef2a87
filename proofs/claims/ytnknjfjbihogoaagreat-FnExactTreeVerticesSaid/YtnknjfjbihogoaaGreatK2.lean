/- Part 2 of an evaluator of the language's code on plain values, with the proof that what it gives is what the code does; no condition. -/
import Derived.Test.YtnknjfjbihogoaaGreatK1
import Derived.Laws.IdiomStrings
import Derived.Laws.StructEq
import Derived.ChangeKeysEq
import Derived.Laws.MakeOwn
import Derived.Great.BuildSlice
import Derived.Laws.CopyRow
set_option linter.all false
/- K, part M: addresses, indices, stretches, conversions. -/
set_option linter.unusedVariables false
set_option linter.unusedSimpArgs false
namespace Go.K
variable [drI : Dr]
section
variable {P : Program} {X : FC} {B : Nat} {M Z0 : BSet} {w0 : World} {σ : St} {a : Act} {w : World} {Z : BSet} {F : Nat → BSet}

theorem fldAt_pair {t : Ty} {q : Ow} {x : t.den} {i : Nat} {u : TV} (h : TV.fldAt t q x i = some u) : ∃ a b, t = .pair a b := by
  cases t <;> simp_all [TV.fldAt]
theorem fldAt_clean : ∀ {t : Ty} {q : Ow} {x : t.den} {i : Nat} {u : TV}, TV.fldAt t q x i = some u → q.clean = true → u.q.clean = true
  | .pair a b, q, x, 0, u, h, hq => by simp only [TV.fldAt, Option.some.injEq] at h; subst h; exact clean_l hq
  | .pair a b, q, x, n + 1, u, h, hq => fldAt_clean (t := b) (by simpa only [TV.fldAt] using h) (clean_r hq)
theorem fields_at : ∀ {fs : List Field} {t : Ty} {o i : Nat} {q : Ow} {x : t.den} {u : TV} {ty : Nat → Option Ty}, fieldsOK ty fs t o = true → TV.fldAt t q x i = some u →
    ∃ f, fs[i]? = some f ∧ ty f.type = some u.t ∧ f.offset = o + fldOff t i
  | [], t, o, i, q, x, u, ty, h, hu => by
    cases t <;> simp_all [fieldsOK, TV.fldAt]
  | f :: fs, t, o, i, q, x, u, ty, h, hu => by
    obtain ⟨t1, t2, rfl⟩ := fldAt_pair hu
    simp only [fieldsOK, Bool.and_eq_true, beq_iff_eq, bne_iff_ne, ne_eq] at h
    cases i with
    | zero =>
      simp only [TV.fldAt, Option.some.injEq] at hu
      subst hu
      exact ⟨f, rfl, h.1.1.2, by simp [h.1.2, fldOff]⟩
    | succ n =>
      simp only [TV.fldAt] at hu
      obtain ⟨g, h1, h2, h3⟩ := fields_at h.2 hu
      exact ⟨g, by simpa using h1, h2, by rw [h3, fldOff]; omega⟩
/-- A field's address. -/
theorem CtxOK.field (K : CtxOK P X) {T : Nat} {t : Ty} (h : X.C.ty T = some t) {q : Ow} {x : t.den} {i : Nat} {u : TV} (hu : TV.fldAt t q x i = some u) (hz : u.t.cells ≠ 0) {ad : Addr} :
    (Instr.fieldAt T (.pointer (some ad)) i).run P w = .ok (.pointer (some (ad.add (fldOff t i)))) w := by
  obtain ⟨t1, t2, rfl⟩ := fldAt_pair hu
  obtain ⟨fs, h1, h2, _⟩ := K.under h
  obtain ⟨f, h3, h4, h5⟩ := fields_at h2 hu
  rw [Nat.zero_add] at h5
  unfold Instr.fieldAt
  rw [Sem.run_bind, run_underlying h1]
  simp only [Result.andThen]
  have h6 : fs[i]? = some f := by simpa using h3
  simp only [h6]
  rw [Sem.run_bind]
  simp only [Instr.sureAddr, Sem.run_pure, Result.andThen]
  rw [Sem.run_bind]
  unfold fieldPlace
  rw [Sem.run_bind, K.sizeOf h4]
  simp only [Result.andThen, hz, if_false, Sem.run_pure, h5]
theorem addr_run {o : Oper} {s : Sem Value} {V : Value} {w' : World} (ho : execOp a.eval o = (s >>= fun v => pure (Next.value v))) (h : s.run P w = .ok V w') : (execOp a.eval o).run P w = .ok (.value V) w' := by
  rw [ho, Sem.run_bind, h]; rfl
theorem add_add (ad : Addr) (hs : ad.spot = none) (m n : Nat) : (ad.add m).add n = ad.add (m + n) := by
  obtain ⟨b, o, s⟩ := ad
  simp only at hs
  subst hs
  rw [add_mem, add_mem, add_mem, Nat.add_assoc]
theorem add_spot (ad : Addr) (hs : ad.spot = none) (m : Nat) : (ad.add m).spot = none := by
  unfold Addr.add; split
  · exact hs
  · rfl
theorem CellsAt.midA {w : World} {ad : Addr} (hs : ad.spot = none) {p c r : List Value} (h : CellsAt w ad (p ++ c ++ r)) : CellsAt w (ad.add p.length) c := by
  obtain ⟨b, o, s⟩ := ad
  simp only at hs
  subst hs
  rw [add_mem]
  exact h.mid
/-- One element of many. -/
theorem ElemsRep.get {α : Type} {k : Nat} {R : α → List Value → BSet → Prop} (hk : ∀ x cs F, R x cs F → cs.length = k) (d : α) {xs : List α} {cs : List Value} {Fo : BSet} {n : Nat} (h : ElemsRep R xs cs Fo) (hn : n < xs.length) :
    ∃ p c r Fc, cs = p ++ c ++ r ∧ p.length = n * k ∧ R (xs.getD n d) c Fc ∧ ∀ b, Fc b → Fo b := by
  induction xs generalizing n cs Fo with
  | nil => simp at hn
  | cons x xs ih =>
    obtain ⟨c1, c2, F1, F2, rfl, h1, h2, j⟩ := h
    cases n with
    | zero => exact ⟨[], c1, c2, F1, by simp, by simp, h1, fun b hb => j.left hb⟩
    | succ n =>
      obtain ⟨p, c, r, Fc, rfl, e1, e2, e3⟩ := ih h2 (by simpa using hn)
      exact ⟨c1 ++ p, c, r, Fc, by simp, by rw [List.length_append, hk _ _ _ h1, e1, Nat.add_mul]; omega, by simpa using e2, fun b hb => j.right (e3 b hb)⟩

theorem fieldAddr_ok (K : CtxOK P X) (I : Inv B M Z0 w0 σ a w Z F) {o : Oper} {T f : Nat} {x : Operand} (ho : o.op = .fieldAddr T x f) : OpOK P B M Z0 w0 σ a w o (opFieldAddr X.C o.dst T x f) := by
  intro out hv u hu Q
  have hex : execOp a.eval o = (Instr.fieldAt T (a.eval x) f >>= fun v => pure (Next.value v)) := by unfold execOp; rw [ho]
  obtain ⟨e, he, hv⟩ := Rd.bind_some hv
  obtain ⟨Fo, h3, h4⟩ := opd_ref I he
  split at hv
  · rename_i t y
    split at hv
    · rename_i tv htv
      split at hv
      · rename_i hT
        obtain ⟨ad, cells, hV, hs, hz, hc, hr⟩ := VRep.ptrFr h3
        obtain ⟨pre, ci, post, Fi, Fr, rfl, hlen, hj, hri, hput⟩ := hr.fld htv
        have hri' : Rep w Z tv.t .fr tv.x ci (fun _ => False) := by
          have h8 := hri.toFr (fldAt_clean htv rfl)
          have e := (h8.e0 rfl).eq
          rw [e] at h8; exact h8
        refine ok_val I (addr_run hex (by rw [hV]; exact K.field hT.1 htv hT.2)) (VRep.ofPtr (add_spot _ hs _) (by rw [add_block]; exact hz) ?_ hri') hv hu Q
        rw [← hlen]
        exact hc.midA hs
      · cases hv
    · cases hv
  · obtain ⟨pl, h5, hv⟩ := Rd.bind_some hv
    split at hv
    · rename_i r v p
      obtain ⟨st, h6, hv⟩ := Rd.bind_some hv
      obtain ⟨s, tv⟩ := st
      obtain ⟨rfl, hver, c, hc, hp⟩ := place_val h6
      simp only at hv
      split at hv
      · rename_i u' hu'
        split at hv
        · rename_i hT
          obtain ⟨b, of, Fu, cs, e1, e2, e3, e4, e5, _⟩ := ptr_at I h5 hver hc hp
          have hrun := K.field (w := w) (ad := ⟨b, of, none⟩) hT.1 (i := f) hu' hT.2
          refine ok_plain I (addr_run hex (by rw [e2]; exact hrun)) (e := .pref r v (p ++ [.fld f])) (fun _ h => h) ⟨Nat.le_of_eq hver.symm, fun _ => ⟨fun c' hc' => ?_, fun g f' c' hf => ?_⟩⟩ hv hu Q
          · rw [hc] at hc'
            cases hc'
            refine ⟨pathOK_append p hp e3 trivial, ⟨u', by rw [path_append p hp]; exact hu'⟩, b, of + fldOff tv.t f, pathLoc_append p hp e1 hu' rfl, ?_⟩
            rw [add_mem]
          · rw [hf] at hc; cases hc
        · cases hv
      · cases hv
    · cases hv

theorem indexAt_sl (K : CtxOK P X) {T Te : Nat} {e : Ty} (hT : X.C.ty T = some (.sl Te e)) {ad : Addr} {n c : Nat} {kd : IntKind} {i : Int} (h0 : 0 ≤ i) (h1 : i < n) :
    (Instr.indexAt T (.slice (some ad) n c) (.int kd i)).run P w = .ok (.pointer (some (ad.add (i.toNat * e.cells)))) w := by
  obtain ⟨h2, h3, h4⟩ := K.under hT
  unfold Instr.indexAt
  simp only [Sem.run_bind, asIntOf, Sem.run_pure, Result.andThen, run_underlying h2, h0, h1, and_self, if_true, K.sizeOf h3]
theorem indexAt_arr (K : CtxOK P X) {T : Nat} {e : Ty} {m : Nat} (hT : X.C.ty T = some (.arr m e)) {ad : Addr} {kd : IntKind} {i : Int} (h0 : 0 ≤ i) (h1 : i < m) :
    (Instr.indexAt T (.pointer (some ad)) (.int kd i)).run P w = .ok (.pointer (some (ad.add (i.toNat * e.cells)))) w := by
  obtain ⟨Te, h2, h3⟩ := K.under hT
  unfold Instr.indexAt
  simp only [Sem.run_bind, asIntOf, Sem.run_pure, Result.andThen, run_underlying h2, Instr.sureAddr, h0, h1, and_self, if_true, K.sizeOf h3]

theorem indexAddr_ok (K : CtxOK P X) (I : Inv B M Z0 w0 σ a w Z F) {o : Oper} {T : Nat} {x i : Operand} (ho : o.op = .indexAddr T x i) : OpOK P B M Z0 w0 σ a w o (opIndexAddr X.C o.dst T x i) := by
  intro out hv u hu Q
  have hex : execOp a.eval o = (Instr.indexAt T (a.eval x) (a.eval i) >>= fun v => pure (Next.value v)) := by unfold execOp; rw [ho]
  obtain ⟨e, he, hv⟩ := Rd.bind_some hv
  obtain ⟨n, hn, hv1⟩ := Rd.bind_some hv
  replace hv := hv1
  clear hv1
  obtain ⟨kd, hi⟩ := rdInt_ok I hn
  obtain ⟨Fo, h3, h4⟩ := opd_ref I he
  split at hv
  · rename_i Te t xs
    split at hv
    · rename_i hT
      have key : ∀ h0 : (decide (0 ≤ n) && decide (n < xs.length)) = true, ∃ ad cells, (execOp a.eval o).run P w = .ok (.value (.pointer (some (ad : Addr)))) w ∧ ad.spot = none ∧ Z ad.block ∧ CellsAt w ad cells ∧ Rep w Z t .fr (xs.getD n.toNat t.zero) cells (fun _ => False) := by
        intro h0
        simp only [Bool.and_eq_true, decide_eq_true_eq] at h0
        obtain ⟨A, c, cells, hV, _, _, hA, hE⟩ := VRep.slFr h3
        have hne : xs ≠ [] := by rintro rfl; simp at h0; omega
        obtain ⟨ad, rfl, hs, hz, hc⟩ := hA hne
        obtain ⟨p, ci, r, Fc, rfl, h5, h6, h7⟩ := hE.get (fun _ _ _ h => h.length) t.zero (n := n.toNat) (by omega)
        have hF : Fc = fun _ => False := funext fun b => by simpa using h7 b
        subst hF
        refine ⟨ad.add (n.toNat * t.cells), ci, addr_run hex (by rw [hV, hi]; exact indexAt_sl K hT h0.1 h0.2), add_spot _ hs _, by rw [add_block]; exact hz, ?_, h6⟩
        rw [← h5]; exact hc.midA hs
      obtain ⟨d, hd, rfl⟩ := putIf_val hv
      obtain ⟨hb, rfl⟩ := run_br hu
      obtain ⟨ad, cells, h5, h6, h7, h8, h9⟩ := key hb
      exact ok_val I h5 (VRep.ofPtr h6 h7 h8 h9) (out := .done [(d, ⟨(σ.at d).ver + 1, .val (.ptr t) .fr (xs.getD n.toNat t.zero)⟩)]) (by rw [hd]; rfl) rfl Q
    · cases hv
  · rename_i m t xs
    split at hv
    · rename_i hT
      obtain ⟨d, hd, rfl⟩ := putIf_val hv
      obtain ⟨hb, rfl⟩ := run_br hu
      simp only [Bool.and_eq_true, decide_eq_true_eq] at hb
      obtain ⟨ad, cells, hV, hs, hz, hc, hr⟩ := VRep.ptrFr h3
      rcases hr with ⟨_, hl, hE, _⟩ | ⟨h, _⟩
      · obtain ⟨p, ci, r, Fc, rfl, h5, h6, h7⟩ := hE.get (fun _ _ _ h => h.length) t.zero (n := n.toNat) (by omega)
        have hF : Fc = fun _ => False := funext fun b => by simpa using h7 b
        subst hF
        refine ok_val I (addr_run hex (by rw [hV, hi]; exact indexAt_arr K hT hb.1 hb.2)) (VRep.ofPtr (t := t) (x := xs.getD n.toNat t.zero) (add_spot _ hs _) (by rw [add_block]; exact hz) ?_ h6) (out := .done [(d, ⟨(σ.at d).ver + 1, .val (.ptr t) .fr (xs.getD n.toNat t.zero)⟩)]) (by rw [hd]; rfl) rfl Q
        rw [← h5]; exact hc.midA hs
      · cases h
    · cases hv
  · rename_i r v p lo hi'
    obtain ⟨st, h6, hv⟩ := Rd.bind_some hv
    obtain ⟨s, tv⟩ := st
    obtain ⟨rfl, hver, c, hc, hp⟩ := place_val h6
    simp only at hv
    split at hv
    · rename_i Te t q xs
      split at hv
      · rename_i hT
        obtain ⟨d, hd, rfl⟩ := putIf_val hv
        obtain ⟨hb, rfl⟩ := run_br hu
        simp only [Bool.and_eq_true, decide_eq_true_eq] at hb
        obtain ⟨e1, T', te, q', ys, l, H, e2, e3, e4, e5⟩ := h4.2 hver c hc
        rw [hp] at e2
        simp only [Option.some.injEq] at e2
        cases e2
        obtain ⟨Fu, cells, Fe, ho', hE, _⟩ := sl_at I hc e1 hp e3 e4
        obtain ⟨h7, h8, A, m1, cap1, A', c1, rfl, hV, h9, h10, h11⟩ := e5
        have hwl : (windowed xs (some (lo, hi'))).length = hi' - lo := by simp only [windowed, List.length_drop, List.length_take]; omega
        rw [hwl] at hb
        obtain ⟨ad, rfl, rfl⟩ := h11.1 (by omega)
        obtain ⟨A2, c2, hA2, _, _, hcell⟩ := own_cells ho'
        simp only [Value.slice.injEq] at hA2
        obtain ⟨hA2, rfl, rfl⟩ := hA2
        obtain ⟨g, hg, hob, hca⟩ := hcell (by omega)
        rw [← hA2] at hg
        simp only [Option.some.injEq] at hg
        subst hg
        refine ok_plain I (addr_run hex (by rw [hV, hi]; exact indexAt_sl K hT hb.1 (by omega))) (e := .pref r v (p ++ [.idx (lo + n.toNat)])) (fun _ h => h) ⟨Nat.le_of_eq hver.symm, fun _ => ⟨fun c' hc' => ?_, fun g f' c' hf => ?_⟩⟩
          (out := .done [(d, ⟨(σ.at d).ver + 1, .pref r v (p ++ [.idx (lo + n.toNat)])⟩)]) (by rw [hd]; rfl) rfl Q
        · rw [hc] at hc'
          cases hc'
          have hst : StepOK ⟨.sl Te t, .own q, xs⟩ (.idx (lo + n.toNat)) := by simp only [StepOK]; omega
          refine ⟨pathOK_append p hp e1 hst, ⟨_, by rw [path_append p hp]; rfl⟩, g, 0 + (lo + n.toNat) * t.cells, pathLoc_append p hp e3 rfl ?_, ?_⟩
          · simp only [stepLoc, e4]
          · rw [add_add _ rfl, add_mem, Nat.add_mul]
        · rw [hf] at hc; cases hc
      · cases hv
    · cases hv
  · obtain ⟨ps, h5, hv⟩ := Rd.bind_some hv
    split at hv
    · rename_i r v p
      obtain ⟨st, h6, hv⟩ := Rd.bind_some hv
      obtain ⟨s, tv⟩ := st
      obtain ⟨rfl, hver, c, hc, hp⟩ := place_val h6
      simp only at hv
      split at hv
      · rename_i Te t q xs
        split at hv
        · rename_i hT
          obtain ⟨d, hd, rfl⟩ := putIf_val hv
          obtain ⟨hb, rfl⟩ := run_br hu
          simp only [Bool.and_eq_true, decide_eq_true_eq] at hb
          obtain ⟨e1, T', te, q', ys, l, e2, e3, e4⟩ := asSl_ok I h5 hver hc
          rw [hp] at e2
          simp only [Option.some.injEq] at e2
          cases e2
          obtain ⟨Fu, cells, Fe, ho', hE, _⟩ := sl_at I hc e1 hp e3 e4
          obtain ⟨A2, c2, hA2, _, _, hcell⟩ := own_cells ho'
          obtain ⟨g, rfl, hob, hca⟩ := hcell (by omega)
          refine ok_plain I (addr_run hex (by rw [hA2, hi]; exact indexAt_sl K hT hb.1 hb.2)) (e := .pref r v (p ++ [.idx n.toNat])) (fun _ h => h) ⟨Nat.le_of_eq hver.symm, fun _ => ⟨fun c' hc' => ?_, fun g f' c' hf => ?_⟩⟩
            (out := .done [(d, ⟨(σ.at d).ver + 1, .pref r v (p ++ [.idx n.toNat])⟩)]) (by rw [hd]; rfl) rfl Q
          · rw [hc] at hc'
            cases hc'
            have hst : StepOK ⟨.sl Te t, .own q, xs⟩ (.idx n.toNat) := by simp only [StepOK]; omega
            refine ⟨pathOK_append p hp e1 hst, ⟨_, by rw [path_append p hp]; rfl⟩, g, 0 + n.toNat * t.cells, pathLoc_append p hp e3 rfl ?_, ?_⟩
            · simp only [stepLoc, e4, hA2]
            · rw [add_mem]
          · rw [hf] at hc; cases hc
        · cases hv
      · cases hv
    · obtain ⟨pl, h5', hv⟩ := Rd.bind_some hv
      split at hv
      · rename_i r v p
        obtain ⟨st, h6, hv⟩ := Rd.bind_some hv
        obtain ⟨s, tv⟩ := st
        obtain ⟨rfl, hver, c, hc, hp⟩ := place_val h6
        simp only at hv
        split at hv
        · rename_i m t q xs
          split at hv
          · rename_i hT
            obtain ⟨d, hd, rfl⟩ := putIf_val hv
            obtain ⟨hb, rfl⟩ := run_br hu
            simp only [Bool.and_eq_true, decide_eq_true_eq] at hb
            obtain ⟨b, of, Fu, cs, e1, e2, e3, e4, e5, _⟩ := ptr_at I h5' hver hc hp
            refine ok_plain I (addr_run hex (by rw [e2, hi]; exact indexAt_arr K hT.1 hb.1 hb.2)) (e := .pref r v (p ++ [.idx n.toNat])) (fun _ h => h) ⟨Nat.le_of_eq hver.symm, fun _ => ⟨fun c' hc' => ?_, fun g f' c' hf => ?_⟩⟩
              (out := .done [(d, ⟨(σ.at d).ver + 1, .pref r v (p ++ [.idx n.toNat])⟩)]) (by rw [hd]; rfl) rfl Q
            · rw [hc] at hc'
              cases hc'
              have hst : StepOK ⟨.arr m t, q, xs⟩ (.idx n.toNat) := by simp only [StepOK]; omega
              have hstep : (TV.mk (.arr m t) q xs).step (.idx n.toNat) = some ⟨t, .fr, xs.getD n.toNat t.zero⟩ := by simp [TV.step, hT.2]
              refine ⟨pathOK_append p hp e3 hst, ⟨_, by rw [path_append p hp]; exact hstep⟩, b, of + n.toNat * t.cells, pathLoc_append p hp e1 hstep rfl, ?_⟩
              rw [add_mem]
            · rw [hf] at hc; cases hc
          · cases hv
        · cases hv
      · cases hv
end
end Go.K

/- K, part N: indices, stretches, conversions. -/
set_option linter.unusedVariables false
set_option linter.unusedSimpArgs false
namespace Go.K
variable [drI : Dr]
section
variable {P : Program} {X : FC} {B : Nat} {M Z0 : BSet} {w0 : World} {σ : St} {a : Act} {w : World} {Z : BSet} {F : Nat → BSet}

theorem ElemsRep.split {α : Type} {R : α → List Value → BSet → Prop} : ∀ {xs ys : List α} {cs : List Value} {Fo : BSet}, ElemsRep R (xs ++ ys) cs Fo →
    ∃ c1 c2 F1 F2, cs = c1 ++ c2 ∧ ElemsRep R xs c1 F1 ∧ ElemsRep R ys c2 F2 ∧ Join Fo F1 F2
  | [], ys, cs, Fo, h => ⟨[], cs, fun _ => False, Fo, rfl, ⟨rfl, fun _ h => h⟩, h, fun b => by simp, fun b h => h.elim⟩
  | x :: xs, ys, cs, Fo, h => by
    obtain ⟨c1, c2, F1, F2, rfl, h1, h2, j⟩ := h
    obtain ⟨d1, d2, G1, G2, rfl, h3, h4, j2⟩ := ElemsRep.split h2
    refine ⟨c1 ++ d1, d2, fun b => F1 b ∨ G1 b, G2, by simp, ⟨c1, d1, F1, G1, rfl, h1, h3, fun b => Iff.rfl, fun b hb hb' => j.2 b hb (j2.left hb')⟩, h4, fun b => ?_, fun b hb hb' => ?_⟩
    · rw [j.1 b, j2.1 b]; constructor
      · rintro (h | h | h)
        · exact .inl (.inl h)
        · exact .inl (.inr h)
        · exact .inr h
      · rintro ((h | h) | h)
        · exact .inl h
        · exact .inr (.inl h)
        · exact .inr (.inr h)
    · rcases hb with hb | hb
      · exact j.2 b hb (j2.right hb')
      · exact j2.2 b hb hb'
theorem ElemsRep.append {α : Type} {R : α → List Value → BSet → Prop} : ∀ {xs ys : List α} {c1 c2 : List Value} {F1 F2 Fo : BSet}, ElemsRep R xs c1 F1 → ElemsRep R ys c2 F2 → Join Fo F1 F2 → ElemsRep R (xs ++ ys) (c1 ++ c2) Fo
  | [], ys, c1, c2, F1, F2, Fo, h1, h2, j => by
    obtain ⟨rfl, h0⟩ := h1
    have : Fo = F2 := funext fun b => propext ⟨fun h => ((j.1 b).1 h).elim (fun h => (h0 b h).elim) id, fun h => j.right h⟩
    rw [this]; exact h2
  | x :: xs, ys, c1, c2, F1, F2, Fo, h1, h2, j => by
    obtain ⟨d1, d2, G1, G2, rfl, h3, h4, j2⟩ := h1
    refine ⟨d1, d2 ++ c2, G1, fun b => G2 b ∨ F2 b, by simp, h3, h4.append h2 ⟨fun b => Iff.rfl, fun b hb hb' => j.2 b (j2.right hb) hb'⟩, fun b => ?_, fun b hb hb' => ?_⟩
    · rw [j.1 b, j2.1 b]; constructor
      · rintro ((h | h) | h)
        · exact .inl h
        · exact .inr (.inl h)
        · exact .inr (.inr h)
      · rintro (h | h | h)
        · exact .inl (.inl h)
        · exact .inl (.inr h)
        · exact .inr h
    · rcases hb' with hb' | hb'
      · exact j2.2 b hb hb'
      · exact j.2 b (j2.left hb) hb'
/-- A stretch of the elements. -/
theorem ElemsRep.seg {α : Type} {k : Nat} {R : α → List Value → BSet → Prop} (hk : ∀ x cs F, R x cs F → cs.length = k) {xs : List α} {cs : List Value} {Fo : BSet} (h : ElemsRep R xs cs Fo) {l n : Nat} (hl : l ≤ n) (hn : n ≤ xs.length) :
    ∃ p c r Fc, cs = p ++ c ++ r ∧ p.length = l * k ∧ ElemsRep R ((xs.take n).drop l) c Fc ∧ ∀ b, Fc b → Fo b := by
  have e : xs = (xs.take n).take l ++ ((xs.take n).drop l ++ xs.drop n) := by
    rw [← List.append_assoc, List.take_append_drop, List.take_append_drop]
  rw [e] at h
  obtain ⟨c1, c2, F1, F2, rfl, h1, h2, j1⟩ := h.split
  obtain ⟨d1, d2, G1, G2, rfl, h3, h4, j2⟩ := h2.split
  refine ⟨c1, d1, d2, G1, by simp, ?_, h3, fun b hb => j1.right (j2.left hb)⟩
  rw [h1.length hk, List.length_take, List.length_take]
  congr 1; omega

/-- The value of a slice operand that is read: header and cells. -/
theorem rdSl_ok (I : Inv B M Z0 w0 σ a w Z F) {V : Value} {e : Ent} {Fo : BSet} (he : EntOK w Z e V Fo) (hr : RefNew σ a w e V) {s : SlR} (h : (rdSl e).val σ = some s) :
    ∃ A c cells Fe, V = .slice A s.xs.length c ∧ s.xs.length ≤ c ∧ c ≤ maxLen ∧ (s.xs ≠ [] → ∃ ad, A = some ad ∧ ad.spot = none ∧ CellsAt w ad cells) ∧ ElemsRep (fun y => Rep w Z s.e s.q y) s.xs cells Fe := by
  unfold rdSl at h
  split at h
  · rename_i T t q x
    have h0 := he.1
    rw [he.scalar rfl] at h0
    split at h
    · simp only [Rd.val, Option.some.injEq] at h
      subst h
      rename_i hq
      obtain ⟨A, c, cells, hV, h1, h2, h3, h4⟩ := (he.toFr hq).slFr
      exact ⟨A, c, cells, _, hV, h1, h2, fun hx => let ⟨ad, e1, e2, _, e3⟩ := h3 hx; ⟨ad, e1, e2, e3⟩, h4⟩
    · split at h
      · rename_i q
        simp only [Rd.val, Option.some.injEq] at h
        subst h
        obtain ⟨V', cells, Fe, hV, ho, hE, _⟩ := h0
        simp only [List.cons.injEq, and_true] at hV
        rw [hV]
        obtain ⟨A, c, hV', h1, h2, h3⟩ := own_cells ho
        refine ⟨A, c, cells, Fe, hV', h1, h2, fun hx => ?_, hE⟩
        obtain ⟨g, e1, _, e2⟩ := h3 (List.length_pos_iff.2 hx)
        exact ⟨_, e1, rfl, e2⟩
      · cases h
  · rename_i r v p win
    obtain ⟨pl, h1, h2⟩ := Rd.bind_some h
    obtain ⟨root, tv⟩ := pl
    obtain ⟨rfl, hv, c, hc, hu⟩ := place_val h1
    obtain ⟨hp, T, te, q, xs, l, H, h3, h4, h5, h6⟩ := hr.2 hv c hc
    rw [hu] at h3
    simp only [Option.some.injEq] at h3
    subst h3
    simp only [Rd.val, Option.some.injEq] at h2
    subst h2
    obtain ⟨Fu, cells, Fe, ho, hE, _⟩ := sl_at I hc hp hu h4 h5
    obtain ⟨A, c1, hH, h7, h8, h9⟩ := own_cells ho
    cases win with
    | none =>
      simp only [WinRep] at h6
      subst h6
      refine ⟨A, c1, cells, Fe, hH, h7, h8, fun hx => ?_, hE⟩
      obtain ⟨g, e1, _, e2⟩ := h9 (List.length_pos_iff.2 hx)
      exact ⟨_, e1, rfl, e2⟩
    | some wn =>
      obtain ⟨lo, hi⟩ := wn
      obtain ⟨h10, h11, A1, m1, cap1, A', c2, h12, rfl, h13, h14, h15, _⟩ := h6
      rw [hH] at h12
      simp only [Value.slice.injEq] at h12
      obtain ⟨rfl, rfl, rfl⟩ := h12
      have hwl : (windowed xs (some (lo, hi))).length = hi - lo := by simp only [windowed, List.length_drop, List.length_take]; omega
      obtain ⟨p', ci, r', Fc, rfl, e1, e2, e3⟩ := hE.seg (fun _ _ _ h => h.length) h10 h11
      refine ⟨A', c2, ci, Fc, by rw [hwl], by rw [hwl]; exact h13, h14, fun hx => ?_, e2⟩
      have hlt : lo < hi := by
        have := List.length_pos_iff.2 hx
        rw [hwl] at this
        omega
      obtain ⟨ad, e4, e5⟩ := h15 hlt
      obtain ⟨g, e6, _, e7⟩ := h9 (by omega)
      rw [e6] at e4
      simp only [Option.some.injEq] at e4
      subst e4
      refine ⟨_, e5, add_spot _ rfl _, ?_⟩
      rw [← e1]
      exact e7.midA rfl
  · cases h

theorem nilCheck_ok (I : Inv B M Z0 w0 σ a w Z F) {C : Ctx} {o : Oper} {x : Operand} (ho : o.op = .nilCheck x) : OpOK P B M Z0 w0 σ a w o (opNilCheck C o.dst x) := by
  intro out hv u hu Q
  obtain ⟨e, he, hv1⟩ := Rd.bind_some hv
  replace hv := hv1
  clear hv1
  obtain ⟨Fo, h3, h4⟩ := opd_ref I he
  have ptr : ∀ ad : Addr, a.eval x = .pointer (some ad) → (execOp a.eval o).run P w = .ok (.value (a.eval x)) w := by
    intro ad hx
    unfold execOp
    rw [ho]
    simp only [hx]
    rfl
  split at hv
  · rename_i t y
    obtain ⟨ad, cells, hV, hs, hz, hc, hr⟩ := VRep.ptrFr h3
    refine ok_val I (ptr ad hV) ?_ hv hu Q
    exact h3.toFr rfl
  · rename_i g f c
    obtain ⟨h0, fs, cs, hV, h1, h2⟩ := h3
    refine ok_plain I (e := .fnl g f c) ?_ ⟨fun _ h => h, fs, cs, hV, h1, h2⟩ h4 hv hu Q
    unfold execOp
    rw [ho]
    simp only [hV]
    rfl
  · obtain ⟨pl, h5, hv1⟩ := Rd.bind_some hv
    replace hv := hv1
    clear hv1
    split at hv
    · rename_i r v p
      obtain ⟨st, h6, hv1⟩ := Rd.bind_some hv
      obtain ⟨s, tv⟩ := st
      obtain ⟨rfl, hver, c, hc, hp⟩ := place_val h6
      obtain ⟨b, of, Fu, cs, e1, e2, e3, e4, e5, _⟩ := ptr_at I h5 hver hc hp
      refine ok_plain I (ptr _ e2) (e := .pref r v p) (fun _ h => h) ⟨Nat.le_of_eq hver.symm, fun _ => ⟨fun c' hc' => ?_, fun g f' c' hf => ?_⟩⟩ hv1 hu Q
      · rw [hc] at hc'
        cases hc'
        exact ⟨e3, ⟨tv, hp⟩, b, of, e1, e2⟩
      · rw [hf] at hc; cases hc
    · cases hv

theorem index_str {s : List UInt8} {n : Int} (h0 : 0 ≤ n) (h1 : n < s.length) {T : Nat} {k : IntKind} (hT : P.underlying T = some .string) :
    (Instr.index T (.string ⟨s.toArray⟩) (.int k n)).run P w = .ok (.int .u8 (((s.getD n.toNat 0).toNat : Nat) : Int)) w := by
  unfold Instr.index
  simp only [Sem.run_bind, asIntOf, Sem.run_pure, Result.andThen, run_underlying hT, h0, if_true]
  have : (ByteArray.mk s.toArray)[n.toNat]? = some (s.getD n.toNat 0) := by
    have hl : n.toNat < s.length := by omega
    have hs : n.toNat < (ByteArray.mk s.toArray).size := by rw [run_str_len]; exact hl
    rw [getElem?_pos (ByteArray.mk s.toArray) n.toNat hs]
    simp [List.getD, hl, ByteArray.getElem_eq_getElem_data]
  rw [this]
  rfl
theorem CtxOK.part (K : CtxOK P X) {T : Nat} {t : Ty} (h : X.C.ty T = some t) {p c r : List Value} {q : Ow} {x : t.den} {Fo : BSet} (hr : Rep w Z t q x c Fo) :
    ∃ V, (part T (p ++ c ++ r).toArray p.length).run P w = .ok V w ∧ VRep w Z t q x V Fo := by
  unfold Go.part
  rw [Sem.run_bind, K.isAgg h]
  simp only [Result.andThen]
  have hl := hr.length
  cases hagg : t.isAgg with
  | true =>
    refine ⟨.agg c.toArray, ?_, ⟨by simpa [Value.cells] using hr, by simp [hagg]⟩⟩
    simp only [if_true]
    rw [Sem.run_bind, K.sizeOf h]
    simp only [Result.andThen, Sem.run_pure]
    congr 2
    rw [← hl]
    simp [List.drop_append, List.take_append]
  | false =>
    rw [cells_one hagg] at hl
    match c, hl with
    | [V], _ =>
      refine ⟨V, ?_, .mk1 hagg ?_ hr⟩
      · simp [Sem.run_pure]
      · rintro cs rfl
        have := hr.one (.agg cs) (by simp); simp [Value.oneCell'] at this
theorem index_ok (K : CtxOK P X) (I : Inv B M Z0 w0 σ a w Z F) {o : Oper} {T : Nat} {x i : Operand} (ho : o.op = .index T x i) : OpOK P B M Z0 w0 σ a w o (opIndex X.C o.dst T x i) := by
  intro out hv u hu Q
  have hex : execOp a.eval o = (Instr.index T (a.eval x) (a.eval i) >>= fun v => pure (Next.value v)) := by unfold execOp; rw [ho]
  obtain ⟨e, he, hv⟩ := Rd.bind_some hv
  obtain ⟨n, hn, hv1⟩ := Rd.bind_some hv
  replace hv := hv1
  clear hv1
  obtain ⟨kd, hi⟩ := rdInt_ok I hn
  obtain ⟨Fo, h3, h4⟩ := opd_ref I he
  split at hv
  · rename_i s
    split at hv
    · rename_i hT
      obtain ⟨d, hd, rfl⟩ := putIf_val hv
      obtain ⟨hb, rfl⟩ := run_br hu
      simp only [Bool.and_eq_true, decide_eq_true_eq] at hb
      exact ok_val I (addr_run hex (by rw [VRep.str (by simp) h3, hi]; exact index_str hb.1 hb.2 (K.under hT))) (VRep.ofInt _ _) (out := .done [(d, ⟨(σ.at d).ver + 1, .val (.int .u8) .fr (((s.getD n.toNat 0).toNat : Nat) : Int)⟩)]) (by rw [hd]; rfl) rfl Q
    · cases hv
  · rename_i m t xs
    split at hv
    · rename_i hT
      obtain ⟨d, hd, rfl⟩ := putIf_val hv
      obtain ⟨hb, rfl⟩ := run_br hu
      simp only [Bool.and_eq_true, decide_eq_true_eq] at hb
      obtain ⟨cs, hV, hr⟩ := eagg h3 rfl
      rcases hr with ⟨_, hl, hE, _⟩ | ⟨h, _⟩
      · obtain ⟨p, ci, r, Fc, hcs, h5, h6, h7⟩ := hE.get (fun _ _ _ h => h.length) t.zero (n := n.toNat) (by omega)
        have hF : Fc = fun _ => False := funext fun b => by simpa using h7 b
        subst hF
        obtain ⟨Te, h8, h9⟩ := K.under hT
        obtain ⟨V, h10, h11⟩ := K.part (p := p) (r := r) h9 h6
        refine ok_val I (addr_run hex ?_) h11 (out := .done [(d, ⟨(σ.at d).ver + 1, .val t .fr (xs.getD n.toNat t.zero)⟩)]) (by rw [hd]; rfl) rfl Q
        rw [hV, hi]
        unfold Instr.index
        simp only [Sem.run_bind, asIntOf, Sem.run_pure, Result.andThen, run_underlying h8, hb.1, hb.2, and_self, if_true, K.sizeOf h9]
        rw [← h5, ← Array.toArray_toList (xs := cs), hcs]
        exact h10
      · cases h
    · cases hv
  · cases hv
end
end Go.K

/- K, part O: stretches, conversions, functions as values. -/
set_option linter.unusedVariables false
set_option linter.unusedSimpArgs false
namespace Go.K
variable [drI : Dr]
section
variable {P : Program} {X : FC} {B : Nat} {M Z0 : BSet} {w0 : World} {σ : St} {a : Act} {w : World} {Z : BSet} {F : Nat → BSet}

theorem optInt_ok (I : Inv B M Z0 w0 σ a w Z F) {C : Ctx} {x : Option Operand} {d n : Int} (h : (optInt C x d).val σ = some n) : (x.map a.eval = none ∧ n = d) ∨ ∃ k, x.map a.eval = some (.int k n) := by
  cases x with
  | none => simp only [optInt, Rd.val, Option.some.injEq] at h; exact .inl ⟨rfl, h.symm⟩
  | some o => obtain ⟨k, hk⟩ := rdInt_ok I h; exact .inr ⟨k, by simp [hk]⟩
theorem run_bounds {s : Bool} {len cap : Nat} {lo hi : Option Value} {l h : Int} (hlo : (lo = none ∧ l = 0) ∨ ∃ k, lo = some (.int k l)) (hhi : (hi = none ∧ h = len) ∨ ∃ k, hi = some (.int k h))
    (h0 : 0 ≤ l) (h1 : l ≤ h) (h2 : h ≤ cap) : (Instr.sliceBounds s len cap lo hi none).run P w = .ok (l.toNat, h.toNat, cap) w := by
  have e1 : l ≤ (h.toNat : Int) := by omega
  have e2 : 0 ≤ h := by omega
  have hb : ∀ (k : IntKind) (c : BoundsCode), (Instr.sliceBound (.int k h) cap c).run P w = .ok h.toNat w := by
    intro k c
    unfold Instr.sliceBound
    simp only [Sem.run_bind, asIntOf, Sem.run_pure, Result.andThen, e2, h2, and_self, if_true]
  have hl : ∀ (k : IntKind) (c : BoundsCode), (Instr.sliceBound (.int k l) h.toNat c).run P w = .ok l.toNat w := by
    intro k c
    unfold Instr.sliceBound
    simp only [Sem.run_bind, asIntOf, Sem.run_pure, Result.andThen, h0, e1, and_self, if_true]
  unfold Instr.sliceBounds
  rcases hlo with ⟨rfl, rfl⟩ | ⟨k, rfl⟩ <;> rcases hhi with ⟨rfl, rfl⟩ | ⟨k', rfl⟩ <;>
    simp only [Sem.run_bind, Sem.run_pure, Result.andThen, hb, hl, Int.toNat_natCast, Int.toNat_zero, Option.isSome_none, Bool.false_eq_true, if_false]
  have := hl k BoundsCode.sliceB
  simp only [Int.toNat_natCast] at this
  rw [this]
theorem okRange_iff {l h : Int} {n : Nat} (hb : okRange l h n = true) : 0 ≤ l ∧ l ≤ h ∧ h ≤ n := by
  simp only [okRange, Bool.and_eq_true, decide_eq_true_eq] at hb; exact ⟨hb.1.1, hb.1.2, hb.2⟩
theorem slice_str {T : Nat} (hT : P.underlying T = some .string) {s : List UInt8} {lo hi : Option Value} {l h : Int} (hlo : (lo = none ∧ l = 0) ∨ ∃ k, lo = some (.int k l)) (hhi : (hi = none ∧ h = s.length) ∨ ∃ k, hi = some (.int k h))
    (hb : okRange l h s.length = true) : (Instr.sliceAt T (.string ⟨s.toArray⟩) lo hi none).run P w = .ok (.string ⟨((s.take h.toNat).drop l.toNat).toArray⟩) w := by
  obtain ⟨h0, h1, h2⟩ := okRange_iff hb
  unfold Instr.sliceAt Instr.slice
  simp only [Sem.run_bind, run_underlying hT, Result.andThen, Option.isSome_none, Bool.false_eq_true, if_false, run_str_len]
  rw [run_bounds hlo hhi h0 h1 h2]
  simp only [Sem.run_pure]
  congr 2
  apply ByteArray.ext
  apply Array.ext'
  simp [ByteArray.data_extract, List.take_drop]
  rw [show l.toNat + (h.toNat - l.toNat) = h.toNat by omega]
theorem slice_sl (K : CtxOK P X) {T Te : Nat} {e : Ty} (hT : X.C.ty T = some (.sl Te e)) {A : Option Addr} {n c : Nat} (hc : n ≤ c) {lo hi : Option Value} {l h : Int} (hlo : (lo = none ∧ l = 0) ∨ ∃ k, lo = some (.int k l)) (hhi : (hi = none ∧ h = n) ∨ ∃ k, hi = some (.int k h))
    (hb : okRange l h n = true) : (Instr.sliceAt T (.slice A n c) lo hi none).run P w = .ok (.slice (if c = l.toNat then A else A.map (·.add (l.toNat * e.cells))) (h.toNat - l.toNat) (c - l.toNat)) w := by
  obtain ⟨h0, h1, h2⟩ := okRange_iff hb
  obtain ⟨e1, e2, _⟩ := K.under hT
  unfold Instr.sliceAt Instr.slice
  simp only [Sem.run_bind, run_underlying e1, Result.andThen]
  rw [run_bounds hlo hhi h0 h1 (by omega)]
  simp only [Sem.run_bind, K.sizeOf e2, Result.andThen, Sem.run_pure]

theorem slice_arr (K : CtxOK P X) {T : Nat} {e : Ty} {m : Nat} (hT : X.C.ty T = some (.arr m e)) {ad : Addr} {lo hi : Option Value} {l h : Int} (hlo : (lo = none ∧ l = 0) ∨ ∃ k, lo = some (.int k l)) (hhi : (hi = none ∧ h = m) ∨ ∃ k, hi = some (.int k h))
    (hb : okRange l h m = true) : (Instr.sliceAt T (.pointer (some ad)) lo hi none).run P w = .ok (.slice (some (if m = l.toNat then ad else ad.add (l.toNat * e.cells))) (h.toNat - l.toNat) (m - l.toNat)) w := by
  obtain ⟨h0, h1, h2⟩ := okRange_iff hb
  obtain ⟨Te, e1, e2⟩ := K.under hT
  unfold Instr.sliceAt
  simp only [Sem.run_bind, run_underlying e1, Result.andThen, Instr.sureAddr, Sem.run_pure]
  rw [run_bounds hlo hhi h0 h1 (by omega)]
  simp only [Sem.run_bind, K.sizeOf e2, Result.andThen, Sem.run_pure]
theorem slice_ok (K : CtxOK P X) (I : Inv B M Z0 w0 σ a w Z F) {o : Oper} {T : Nat} {x : Operand} {lo hi mx : Option Operand} (ho : o.op = .slice T x lo hi mx) : OpOK P B M Z0 w0 σ a w o (opSlice X.C o.dst T x lo hi mx) := by
  intro out hv u hu Q
  unfold opSlice at hv
  split at hv
  · cases hv
  rename_i hmx
  have hmx' : mx = none := by cases mx <;> simp_all
  subst hmx'
  have hex : execOp a.eval o = (Instr.sliceAt T (a.eval x) (lo.map a.eval) (hi.map a.eval) none >>= fun v => pure (Next.value v)) := by unfold execOp; rw [ho]; rfl
  obtain ⟨e, he, hv1⟩ := Rd.bind_some hv
  replace hv := hv1
  clear hv1
  obtain ⟨Fo, h3, h4⟩ := opd_ref I he
  split at hv
  · rename_i s
    obtain ⟨l, hl, hv1⟩ := Rd.bind_some hv
    obtain ⟨h, hh, hv2⟩ := Rd.bind_some hv1
    split at hv2
    · rename_i hT
      obtain ⟨d, hd, rfl⟩ := putIf_val hv2
      obtain ⟨hb, rfl⟩ := run_br hu
      exact ok_val I (addr_run hex (by rw [VRep.str (by simp) h3]; exact slice_str (K.under hT) (optInt_ok I hl) (optInt_ok I hh) hb)) (VRep.ofStr _) (out := .done [(d, ⟨(σ.at d).ver + 1, .val .str .fr ((s.take h.toNat).drop l.toNat)⟩)]) (by rw [hd]; rfl) rfl Q
    · cases hv2
  · rename_i Te e s
    obtain ⟨l, hl, hv1⟩ := Rd.bind_some hv
    obtain ⟨h, hh, hv2⟩ := Rd.bind_some hv1
    split at hv2
    · rename_i hT
      obtain ⟨d, hd, rfl⟩ := putIf_val hv2
      obtain ⟨hb, rfl⟩ := run_br hu
      obtain ⟨h0, h1, h2⟩ := okRange_iff hb
      obtain ⟨A, c, cells, hV, h5, h6, h7, h8⟩ := VRep.slFr h3
      obtain ⟨p', ci, r', Fc, rfl, e1, e2, e3⟩ := h8.seg (fun _ _ _ h => h.length) (l := l.toNat) (n := h.toNat) (by omega) (by omega)
      have hF : Fc = fun _ => False := funext fun b => by simpa using e3 b
      subst hF
      have hlen : ((s.take h.toNat).drop l.toNat).length = h.toNat - l.toNat := by simp only [List.length_drop, List.length_take]; omega
      refine ok_val I (addr_run hex (by rw [hV]; exact slice_sl K hT h5 (optInt_ok I hl) (optInt_ok I hh) hb)) (t := .sl Te e) (x := (s.take h.toNat).drop l.toNat) ?_
        (out := .done [(d, ⟨(σ.at d).ver + 1, .val (.sl Te e) .fr ((s.take h.toNat).drop l.toNat)⟩)]) (by rw [hd]; rfl) rfl Q
      refine .mk1 rfl (by simp) ⟨_, _, ci, by rw [hlen], fun _ h => h, by rw [hlen]; omega, by omega, fun hx => ?_, e2⟩
      have hpos := List.length_pos_iff.2 hx
      rw [hlen] at hpos
      have hne : s ≠ [] := by rintro rfl; simp at h2; omega
      obtain ⟨ad, rfl, e5, e6, e7⟩ := h7 hne
      have hcl : ¬ c = l.toNat := by omega
      refine ⟨ad.add (l.toNat * e.cells), by simp [hcl], add_spot _ e5 _, by rw [add_block]; exact e6, ?_⟩
      rw [← e1]; exact e7.midA e5
    · cases hv2
  · rename_i m e s
    obtain ⟨l, hl, hv1⟩ := Rd.bind_some hv
    obtain ⟨h, hh, hv2⟩ := Rd.bind_some hv1
    split at hv2
    · rename_i hT
      obtain ⟨d, hd, rfl⟩ := putIf_val hv2
      obtain ⟨hb, rfl⟩ := run_br hu
      obtain ⟨h0, h1, h2⟩ := okRange_iff hb
      obtain ⟨ad, cells, hV, hs, hz, hc, hr⟩ := VRep.ptrFr h3
      rcases hr with ⟨_, hm, hE, _⟩ | ⟨hq, _⟩
      rotate_left
      · cases hq
      obtain ⟨p', ci, r', Fc, rfl, e1, e2, e3⟩ := hE.seg (fun _ _ _ h => h.length) (l := l.toNat) (n := h.toNat) (by omega) (by omega)
      have hF : Fc = fun _ => False := funext fun b => by simpa using e3 b
      subst hF
      have hlen : ((s.take h.toNat).drop l.toNat).length = h.toNat - l.toNat := by simp only [List.length_drop, List.length_take]; omega
      refine ok_val I (addr_run hex (by rw [hV]; exact slice_arr K hT.1 (optInt_ok I hl) (optInt_ok I hh) hb)) (t := .sl ((X.C.ice 999997).headD 0) e) (x := (s.take h.toNat).drop l.toNat) ?_
        (out := .done [(d, ⟨(σ.at d).ver + 1, .val (.sl ((X.C.ice 999997).headD 0) e) .fr ((s.take h.toNat).drop l.toNat)⟩)]) (by rw [hd]; rfl) rfl Q
      refine .mk1 rfl (by simp) ⟨_, _, ci, by rw [hlen], fun _ h => h, by rw [hlen]; omega, Nat.le_trans (Nat.sub_le _ _) (Nat.le_trans hT.2 (by decide)), fun hx => ?_, e2⟩
      have hpos := List.length_pos_iff.2 hx
      rw [hlen] at hpos
      have hcl : ¬ m = l.toNat := by omega
      refine ⟨ad.add (l.toNat * e.cells), by simp [hcl], add_spot _ hs _, by rw [add_block]; exact hz, ?_⟩
      rw [← e1]; exact hc.midA hs
    · cases hv2
  · rename_i r v p lo' hi'
    obtain ⟨st, h6, hv1⟩ := Rd.bind_some hv
    obtain ⟨s, tv⟩ := st
    obtain ⟨rfl, hver, c, hc, hp⟩ := place_val h6
    simp only at hv1
    split at hv1
    · rename_i Te t q xs
      obtain ⟨l, hl, hv2⟩ := Rd.bind_some hv1
      obtain ⟨h, hh, hv3⟩ := Rd.bind_some hv2
      split at hv3
      · rename_i hT
        obtain ⟨d, hd, rfl⟩ := putIf_val hv3
        obtain ⟨hb, rfl⟩ := run_br hu
        obtain ⟨h0, h1, h2⟩ := okRange_iff hb
        obtain ⟨e1, T', te, q', ys, l', H, e2, e3, e4, e5⟩ := h4.2 hver c hc
        rw [hp] at e2
        simp only [Option.some.injEq] at e2
        cases e2
        obtain ⟨Fu, cells, Fe, ho', hE, _⟩ := sl_at I hc e1 hp e3 e4
        obtain ⟨h7, h8, A, m1, cap1, A', c1, rfl, hV, h9, h10, h11, h12⟩ := e5
        obtain ⟨A2, c2, hA2, _, _, hcell⟩ := own_cells ho'
        simp only [Value.slice.injEq] at hA2
        obtain ⟨rfl, rfl, rfl⟩ := hA2
        refine ok_plain I (addr_run hex (by rw [hV]; exact slice_sl K hT h9 (optInt_ok I hl) (optInt_ok I hh) hb)) (e := .sref r v p (some (lo' + l.toNat, lo' + h.toNat))) (fun _ h => h) ⟨Nat.le_of_eq hver.symm, fun _ => ?_⟩
          (out := .done [(d, ⟨(σ.at d).ver + 1, .sref r v p (some (lo' + l.toNat, lo' + h.toNat))⟩)]) (by rw [hd]; rfl) rfl Q
        intro c' hc'
        rw [hc] at hc'
        cases hc'
        refine ⟨e1, Te, t, q, xs, l', _, hp, e3, e4, ⟨by omega, by omega, A, _, _, _, _, rfl, by rw [show lo' + h.toNat - (lo' + l.toNat) = h.toNat - l.toNat by omega], by omega, by omega, fun hlt => ?_, fun h00 => ?_⟩⟩
        rotate_left
        · obtain ⟨ha, hc1⟩ := h12 (by omega)
          subst ha; subst hc1
          have hl0 : l.toNat = 0 := by omega
          rw [hl0]
          refine ⟨?_, rfl⟩
          split
          · rfl
          · cases A' with
            | none => rfl
            | some ad => simp only [Option.map_some, Nat.zero_mul, Option.some.injEq]; unfold Addr.add; rfl
        obtain ⟨ad, rfl, rfl⟩ := h11 (by omega)
        obtain ⟨g, hg, _⟩ := hcell (by omega)
        simp only [Option.some.injEq] at hg
        subst hg
        have hcl : ¬ c1 = l.toNat := by omega
        refine ⟨_, rfl, ?_⟩
        simp only [hcl, if_false, Option.map_some, Option.some.injEq]
        rw [add_add _ rfl, Nat.add_mul]
      · cases hv3
    · cases hv1
  · obtain ⟨ps, h5, hv1⟩ := Rd.bind_some hv
    split at hv1
    · rename_i r v p
      obtain ⟨st, h6, hv2⟩ := Rd.bind_some hv1
      obtain ⟨s, tv⟩ := st
      obtain ⟨rfl, hver, c, hc, hp⟩ := place_val h6
      simp only at hv2
      split at hv2
      · rename_i Te t q xs
        obtain ⟨l, hl, hv3⟩ := Rd.bind_some hv2
        obtain ⟨h, hh, hv4⟩ := Rd.bind_some hv3
        split at hv4
        · rename_i hT
          obtain ⟨d, hd, rfl⟩ := putIf_val hv4
          obtain ⟨hb, rfl⟩ := run_br hu
          obtain ⟨h0, h1, h2⟩ := okRange_iff hb
          obtain ⟨e1, T', te, q', ys, l', e2, e3, e4⟩ := asSl_ok I h5 hver hc
          rw [hp] at e2
          simp only [Option.some.injEq] at e2
          cases e2
          obtain ⟨Fu, cells, Fe, ho', hE, _⟩ := sl_at I hc e1 hp e3 e4
          obtain ⟨A, c1, hA2, h9, h10, hcell⟩ := own_cells ho'
          refine ok_plain I (addr_run hex (by rw [hA2]; exact slice_sl K hT h9 (optInt_ok I hl) (optInt_ok I hh) hb)) (e := .sref r v p (some (l.toNat, h.toNat))) (fun _ h => h) ⟨Nat.le_of_eq hver.symm, fun _ => ?_⟩
            (out := .done [(d, ⟨(σ.at d).ver + 1, .sref r v p (some (l.toNat, h.toNat))⟩)]) (by rw [hd]; rfl) rfl Q
          intro c' hc'
          rw [hc] at hc'
          cases hc'
          refine ⟨e1, Te, t, q, xs, l', _, hp, e3, e4, ⟨by omega, by omega, A, _, _, _, _, hA2, rfl, by omega, by omega, fun hlt => ?_, fun h00 => ?_⟩⟩
          rotate_left
          · rw [h00]
            refine ⟨?_, rfl⟩
            split
            · rfl
            · cases A with
              | none => rfl
              | some ad => simp only [Option.map_some, Nat.zero_mul, Option.some.injEq]; unfold Addr.add; rfl
          obtain ⟨g, rfl, _⟩ := hcell (by omega)
          have hcl : ¬ c1 = l.toNat := by omega
          exact ⟨_, rfl, by simp [hcl]⟩
        · cases hv4
      · cases hv2
    · cases hv1
end
end Go.K

/- K, part P: arguments that are read; conversions; functions as values. -/
set_option linter.unusedVariables false
set_option linter.unusedSimpArgs false
namespace Go.K
variable [drI : Dr]
section
variable {P : Program} {X : FC} {B : Nat} {M Z0 : BSet} {w0 : World} {σ : St} {a : Act} {w : World} {Z : BSet} {F : Nat → BSet}

/-- What is frozen where some roots are borrowed. -/
def ZB (Z : BSet) (F : Nat → BSet) (bs : List Nat) : BSet := fun b => Z b ∨ ∃ r ∈ bs, F r b
theorem zb_nil : ZB Z F [] = Z := funext fun b => by simp [ZB]
theorem FRep.mono {w : World} {Z Z' : BSet} (h : ∀ b, Z b → Z' b) {a : Arg} {V : Value} (hf : FRep w Z a V) : FRep w Z' a V := hf.frame fun b hb => ⟨h b hb, rfl⟩
theorem FReps.mono {w : World} {Z Z' : BSet} (h : ∀ b, Z b → Z' b) {a : List Arg} {V : List Value} (hf : FReps w Z a V) : FReps w Z' a V := hf.frame fun b hb => ⟨h b hb, rfl⟩
theorem VRep.fr0 {t : Ty} {x : t.den} {V : Value} {Fo : BSet} (h : VRep w Z t .fr x V Fo) : VRep w Z t .fr x V (fun _ => False) := h.toFr rfl
/-- A captured variable, read. -/
theorem capRd_ok (I : Inv B M Z0 w0 σ a w Z F) {c : Cap} {V : Value} (h1 : ∀ a, c = .arg a → FRep w Z a V) (h2 : ∀ r v, c = .root r v → (σ.at r).ver = v → V = tm a r) {as : Arg} {bs : List Nat}
    (h : (capRd c).val σ = some (as, bs)) : FRep w (ZB Z F bs) as V := by
  cases c with
  | arg x =>
    simp only [capRd, Rd.val, Option.some.injEq, Prod.mk.injEq] at h
    obtain ⟨rfl, rfl⟩ := h
    rw [zb_nil]; exact h1 x rfl
  | root r v =>
    simp only [capRd, Rd.val] at h
    split at h
    · rename_i hv
      have hV := h2 r v rfl hv
      subst hV
      have he := I.ent r
      split at h
      · rename_i g f c hr
        simp only [Rd.val, Option.some.injEq, Prod.mk.injEq] at h
        obtain ⟨rfl, rfl⟩ := h
        rw [hr] at he
        obtain ⟨b, T, V', hV, hh, hf, hb⟩ := he
        rw [hV]
        refine .pfn rfl (.inr ⟨r, by simp, (hb b).2 rfl⟩) ?_ (hf.mono fun b h => .inl h)
        unfold World.cell?
        simp only [hh]
        rfl
      · rename_i t q x hr
        split at h
        · rename_i hq
          simp only [Rd.val, Option.some.injEq, Prod.mk.injEq] at h
          obtain ⟨rfl, rfl⟩ := h
          rw [hr] at he
          exact .v (he.freeze (fun b h => .inl h) (by simpa [Ow.whole] using hq) (fun b hb => .inr ⟨r, by simp, hb⟩))
        · cases h
      · cases h
    · cases h
theorem capsRd_ok (I : Inv B M Z0 w0 σ a w Z F) : ∀ {cs : List Cap} {Vs : List Value} {as : List Arg} {bs : List Nat}, CapsOK w Z cs Vs → (∀ (i r v : Nat), cs[i]? = some (Cap.root r v) → (σ.at r).ver = v → Vs[i]? = some (tm a r)) →
    (capsRd cs).val σ = some (as, bs) → FReps w (ZB Z F bs) as Vs
  | [], Vs, as, bs, h1, h2, h => by
    simp only [capsRd, Rd.val, Option.some.injEq, Prod.mk.injEq] at h
    obtain ⟨rfl, rfl⟩ := h
    simp only [CapsOK] at h1
    subst h1
    exact .nil
  | c :: cs, Vs, as, bs, h1, h2, h => by
    obtain ⟨V, Vs', rfl, h3, h4⟩ := h1
    obtain ⟨⟨x, b1⟩, h5, h⟩ := Rd.bind_some h
    obtain ⟨⟨xs, b2⟩, h6, h⟩ := Rd.bind_some h
    simp only [Rd.val, Option.some.injEq, Prod.mk.injEq] at h
    obtain ⟨rfl, rfl⟩ := h
    have h7 := capRd_ok I h3 (fun r v hr hv => by have := h2 0 r v (by rw [hr]; rfl) hv; simpa using this) h5
    have h8 := capsRd_ok I h4 (fun i r v hi hv => by have := h2 (i + 1) r v (by simpa using hi) hv; simpa using this) h6
    exact .cons (h7.mono fun b hb => hb.imp id fun ⟨r, hr, hb⟩ => ⟨r, List.mem_append_left _ hr, hb⟩) (h8.mono fun b hb => hb.imp id fun ⟨r, hr, hb⟩ => ⟨r, List.mem_append_right _ hr, hb⟩)

theorem argRd_ok (I : Inv B M Z0 w0 σ a w Z F) {C : Ctx} {T : Nat} {o : Operand} {as : Arg} {bs : List Nat} (h : (argRd C T o).val σ = some (as, bs)) : FRep w (ZB Z F bs) as (a.eval o) := by
  obtain ⟨e, he, h⟩ := Rd.bind_some h
  have hor := opd_ok I he
  obtain ⟨Fo, h3, h4⟩ := opd_ref I he
  cases e with
  | val t q x =>
    simp only at h
    split at h
    · rename_i hq
      simp only [Rd.val, Option.some.injEq, Prod.mk.injEq] at h
      obtain ⟨rfl, rfl⟩ := h
      rw [zb_nil]; exact .v (VRep.toFr hq h3)
    · split at h
      · rename_i hq
        rcases hor with ⟨r, rfl, _, h5⟩ | ⟨hn, h5, _⟩
        · simp only [Rd.val, Option.some.injEq, Prod.mk.injEq] at h
          obtain ⟨rfl, rfl⟩ := h
          exact .v (VRep.freeze (fun b h => .inl h) hq (fun b hb => .inr ⟨r, by simp, hb⟩) h5)
        · split at h
          · exact absurd rfl (hn _)
          · simp only [Rd.val, Option.some.injEq, Prod.mk.injEq] at h
            obtain ⟨rfl, rfl⟩ := h
            exact .v (VRep.freeze (fun b h => .inl h) hq (fun b hb => hb.elim) h5)
          · cases h
      · cases h
  | sref r v p win =>
    simp only at h
    obtain ⟨⟨s, tv⟩, h6, h⟩ := Rd.bind_some h
    obtain ⟨rfl, hver, c, hc, hp⟩ := place_val h6
    simp only at h
    split at h
    · rename_i Te t q xs
      split at h
      · rename_i hq
        simp only [Rd.val, Option.some.injEq, Prod.mk.injEq] at h
        obtain ⟨rfl, rfl⟩ := h
        obtain ⟨e1, T', te, q', ys, l, H, e2, e3, e4, e5⟩ := h4.2 hver c hc
        rw [hp] at e2
        simp only [Option.some.injEq] at e2
        cases e2
        obtain ⟨Fu, cells, Fe, ho', hE, hFu, hFe, hsub⟩ := sl_at I hc e1 hp e3 e4
        obtain ⟨A, c1, hA2, h9, h10, hcell⟩ := own_cells ho'
        have hfrz : ElemsRep (fun y => Rep w (ZB Z F [r]) t .fr y) xs cells (fun _ => False) :=
          (hE.monoF (S := Fe) (R' := fun y cs _ => Rep w (ZB Z F [r]) t .fr y cs (fun _ => False)) (fun x cs F' hs hr => hr.freeze (fun b h => .inl h) hq (fun b hb => .inr ⟨r, by simp, hsub b ((hFu b).2 (.inr (hs b hb)))⟩)) (fun _ h => h)).toFalse
        have hblk : 0 < xs.length → ∃ g, A = some ⟨g, 0, none⟩ ∧ ZB Z F [r] g ∧ CellsAt w ⟨g, 0, none⟩ cells := fun hp => by
          obtain ⟨g, e6, e7, e8⟩ := hcell hp
          exact ⟨g, e6, .inr ⟨r, by simp, hsub g ((hFu g).2 (.inl e7))⟩, e8⟩
        cases win with
        | none =>
          simp only [WinRep] at e5
          rw [e5, hA2]
          refine .v (.mk1 rfl (by simp) ⟨A, c1, cells, rfl, fun _ h => h, h9, h10, fun hx => ?_, hfrz⟩)
          obtain ⟨g, e6, e7, e8⟩ := hblk (List.length_pos_iff.2 hx)
          exact ⟨_, e6, rfl, e7, e8⟩
        | some wn =>
          obtain ⟨lo, hi⟩ := wn
          obtain ⟨h10, h11, A1, m1, cap1, A', c2, h12, hV, h13, h14, h15, _⟩ := e5
          rw [hA2] at h12
          simp only [Value.slice.injEq] at h12
          obtain ⟨rfl, rfl, rfl⟩ := h12
          have hwl : (windowed xs (some (lo, hi))).length = hi - lo := by simp only [windowed, List.length_drop, List.length_take]; omega
          obtain ⟨p', ci, r', Fc, rfl, e6, e7, e8⟩ := hfrz.seg (fun _ _ _ h => h.length) h10 h11
          have hF : Fc = fun _ => False := funext fun b => by simpa using e8 b
          subst hF
          rw [hV]
          refine .v (.mk1 rfl (by simp) ⟨A', c2, ci, by rw [hwl], fun _ h => h, by rw [hwl]; exact h13, h14, fun hx => ?_, e7⟩)
          have hlt : lo < hi := by
            have := List.length_pos_iff.2 hx
            rw [hwl] at this
            omega
          obtain ⟨ad, e9, e10⟩ := h15 hlt
          obtain ⟨g, e11, e12, e13⟩ := hblk (by omega)
          rw [e11] at e9
          simp only [Option.some.injEq] at e9
          subst e9
          refine ⟨_, e10, add_spot _ rfl _, by rw [add_block]; exact e12, ?_⟩
          rw [← e6]
          exact e13.midA rfl
      · cases h
    · cases h
  | pref r v p =>
    simp only at h
    obtain ⟨⟨s, tv⟩, h6, h⟩ := Rd.bind_some h
    obtain ⟨rfl, hver, c, hc, hp⟩ := place_val h6
    simp only at h
    split at h
    · rename_i hq
      simp only [Rd.val, Option.some.injEq, Prod.mk.injEq] at h
      obtain ⟨rfl, rfl⟩ := h
      rcases hor with ⟨t, rfl, het, h5⟩ | ⟨hn, h5, h7⟩
      · have hptr : (asPtr (.tmp t)).val σ = some (some (r, v, p)) := by simp only [asPtr, Rd.val, ← het]
        obtain ⟨b, of, Fu, cs, e1, e2, e3, e4, e5, e6, e7⟩ := ptr_at I hptr hver hc hp
        rw [e2]
        exact .v (.ofPtr rfl (.inr ⟨r, by simp, e6⟩) e4 (e5.freeze (fun b h => .inl h) hq (fun b hb => .inr ⟨r, by simp, e7 b hb⟩)))
      · rcases h7 with ⟨t, q, y, h7, _⟩ | ⟨f, _, h7⟩ <;> cases h7
    · cases h
  | fnl g f c =>
    simp only at h
    obtain ⟨⟨cs, rs⟩, h6, h⟩ := Rd.bind_some h
    simp only [Rd.val, Option.some.injEq, Prod.mk.injEq] at h
    obtain ⟨rfl, rfl⟩ := h
    obtain ⟨h0, fs, vs, hV, h1, h2⟩ := h3
    have h8 := capsRd_ok I h2 (fun i r v hi hv => by
      obtain ⟨_, h9⟩ := h4 i r v hi
      obtain ⟨fs', cs', e1, e2⟩ := h9 hv
      rw [hV] at e1
      simp only [Value.func.injEq] at e1
      rw [← e1.2.2] at e2
      simpa using e2) h6
    rw [hV]
    exact .fn (h1.mono fun b h => .inl h) h8
  | pfn g f c =>
    simp only [Rd.val, Option.some.injEq, Prod.mk.injEq] at h
    obtain ⟨rfl, rfl⟩ := h
    rw [zb_nil]; exact h3.1
  | un => cases h
  | undf => cases h
  | fbox g f c => cases h
  | tup xs => cases h
  | tref r v xs => cases h

theorem firsts_ok (I : Inv B M Z0 w0 σ a w Z F) {C : Ctx} : ∀ {xs : List Operand} {as : List Arg}, (firsts C xs).val σ = some as → FReps w Z as (xs.map a.eval)
  | [], as, h => by simp only [firsts, Rd.val, Option.some.injEq] at h; subst h; exact .nil
  | x :: xs, as, h => by
    obtain ⟨⟨y, b⟩, h1, h⟩ := Rd.bind_some h
    obtain ⟨ys, h2, h⟩ := Rd.bind_some h
    split at h
    · rename_i hb
      simp only [Rd.val, Option.some.injEq] at h
      subst h
      have h3 := argRd_ok I h1
      have : b = [] := by simpa using hb
      subst this
      rw [zb_nil] at h3
      exact .cons h3 (firsts_ok I h2)
    · cases h
/-- A captured place. -/
def capOKat (σ : St) (a : Act) (c : Cap) (V : Value) : Prop := ∀ r v, c = .root r v → v ≤ (σ.at r).ver ∧ ((σ.at r).ver = v → V = tm a r)
theorem captured_ok (I : Inv B M Z0 w0 σ a w Z F) {C : Ctx} : ∀ {xs : List Operand} {cs : List Cap}, (captured C xs).val σ = some cs → CapsOK w Z cs (xs.map a.eval) ∧ ∀ (i r v : Nat), cs[i]? = some (Cap.root r v) → v ≤ (σ.at r).ver ∧ ((σ.at r).ver = v → (xs.map a.eval)[i]? = some (tm a r))
  | [], cs, h => by simp only [captured, Rd.val, Option.some.injEq] at h; subst h; exact ⟨rfl, fun i r v h => by simp at h⟩
  | x :: xs, cs, h => by
    obtain ⟨e, h1, h⟩ := Rd.bind_some h
    obtain ⟨l, h3, h'⟩ := Rd.bind_some h
    clear h
    obtain ⟨Fo, h4, h5⟩ := opd_ref I h1
    obtain ⟨ih1, ih2⟩ := captured_ok I h3
    have fin : ∀ c : Cap, (∀ a', c = .arg a' → FRep w Z a' (a.eval x)) → capOKat σ a c (a.eval x) → cs = c :: l →
        CapsOK w Z cs ((x :: xs).map a.eval) ∧ ∀ (i r v : Nat), cs[i]? = some (Cap.root r v) → v ≤ (σ.at r).ver ∧ ((σ.at r).ver = v → ((x :: xs).map a.eval)[i]? = some (tm a r)) := by
      rintro c hc1 hc2 rfl
      refine ⟨⟨a.eval x, _, rfl, hc1, ih1⟩, fun i r v hi => ?_⟩
      cases i with
      | zero =>
        simp only [List.getElem?_cons_zero, Option.some.injEq] at hi
        obtain ⟨h6, h7⟩ := hc2 r v hi
        exact ⟨h6, fun hv => by simp [h7 hv]⟩
      | succ i => simpa using ih2 i r v (by simpa using hi)
    have root : ∀ t, x = .tmp t → cs = .root t (σ.at t).ver :: l →
        CapsOK w Z cs ((x :: xs).map a.eval) ∧ ∀ (i r v : Nat), cs[i]? = some (Cap.root r v) → v ≤ (σ.at r).ver ∧ ((σ.at r).ver = v → ((x :: xs).map a.eval)[i]? = some (tm a r)) := by
      rintro t rfl h
      refine fin (.root t (σ.at t).ver) (fun a' ha => by cases ha) ?_ h
      intro r v hr
      cases hr
      exact ⟨Nat.le_refl _, fun _ => rfl⟩
    split at h'
    · split at h'
      · simp only [Rd.val, Option.some.injEq] at h'
        exact root _ rfl h'.symm
      · cases h'
    · split at h'
      · simp only [Rd.val, Option.some.injEq] at h'
        exact root _ rfl h'.symm
      · cases h'
    · rename_i t y
      simp only [Rd.val, Option.some.injEq] at h'
      exact fin _ (fun a' ha => by cases ha; exact .v h4.fr0) (fun r v hr => by cases hr) h'.symm
    · rename_i g f c
      simp only [Rd.val, Option.some.injEq] at h'
      exact fin _ (fun a' ha => by cases ha; exact h4.1) (fun r v hr => by cases hr) h'.symm
    · cases h'
theorem makeFunc_ok (I : Inv B M Z0 w0 σ a w Z F) {C : Ctx} {o : Oper} {fn : Fn} {first caps : Array Operand} (ho : o.op = .makeFunc fn first caps) : OpOK P B M Z0 w0 σ a w o (opMakeFunc C o.dst fn first.toList caps.toList) := by
  intro out hv u hu Q
  unfold opMakeFunc at hv
  split at hv
  · rename_i g
    obtain ⟨as, h1, hv1⟩ := Rd.bind_some hv
    obtain ⟨l, h2, hv2⟩ := Rd.bind_some hv1
    have h3 := firsts_ok I h1
    obtain ⟨h4, h5⟩ := captured_ok I h2
    refine ok_plain I (e := .fnl g as l) (V := .func (.func g) (first.map a.eval) (caps.map a.eval)) ?_ ⟨fun _ h => h, _, _, ?_, h3, h4⟩ ?_ hv2 hu Q
    · unfold execOp
      rw [ho]
      rfl
    · rw [← Array.toList_map, ← Array.toList_map, Array.toArray_toList, Array.toArray_toList]
    · intro i r v hi
      obtain ⟨h6, h7⟩ := h5 i r v hi
      refine ⟨h6, fun hv => ⟨_, _, rfl, ?_⟩⟩
      have := h7 hv
      simpa using this
  · cases hv

theorem ArgsRep.take {w : World} {Z : BSet} : ∀ {xs : List Arg} {vs : List Value} {Fo : BSet} {i : Nat} {t : Ty} {q : Ow} {y : t.den}, ArgsRep w Z xs vs Fo → xs[i]? = some (.v t q y) →
    ∃ V Fi Fr, vs[i]? = some V ∧ VRep w Z t q y V Fi ∧ ArgsRep w Z (xs.set i .gone) vs Fr ∧ Join Fo Fi Fr
  | [], vs, Fo, i, t, q, y, h, hi => by simp at hi
  | x :: xs, vs, Fo, 0, t, q, y, h, hi => by
    simp only [List.getElem?_cons_zero, Option.some.injEq] at hi
    subst hi
    obtain ⟨V, Vs, F1, F2, rfl, h1, h2, j⟩ := h
    exact ⟨V, F1, F2, rfl, h1, ⟨V, Vs, fun _ => False, F2, rfl, fun _ h => h, h2, fun b => by simp, fun b h => h.elim⟩, j⟩
  | x :: xs, vs, Fo, i + 1, t, q, y, h, hi => by
    simp only [List.getElem?_cons_succ] at hi
    obtain ⟨V, Vs, F1, F2, rfl, h1, h2, j⟩ := h
    obtain ⟨V', Fi, Fr, e1, e2, e3, e4⟩ := ArgsRep.take h2 hi
    refine ⟨V', Fi, fun b => F1 b ∨ Fr b, by simpa using e1, e2, ⟨V, Vs, F1, Fr, rfl, h1, e3, fun b => Iff.rfl, fun b hb hb' => j.2 b hb (e4.right hb')⟩, fun b => ?_, fun b hb hb' => ?_⟩
    · rw [j.1 b, e4.1 b]; constructor
      · rintro (h | h | h)
        · exact .inr (.inl h)
        · exact .inl h
        · exact .inr (.inr h)
      · rintro (h | h | h)
        · exact .inr (.inl h)
        · exact .inl h
        · exact .inr (.inr h)
    · rcases hb' with hb' | hb'
      · exact j.2 b hb' (e4.left hb)
      · exact e4.2 b hb hb'
/-- What is owned is taken out of a tuple. -/
theorem extract_own (I : Inv B M Z0 w0 σ a w Z F) {o : Oper} {r i : Nat} {xs : List Arg} {t : Ty} {q : Ow} {y : t.den} {V : Value} {vs : Array Value} {Fi Fr : BSet} (hr : (σ.at r).e = .tup xs) (hV : tm a r = .tuple vs)
    (e2 : VRep w Z t q y V Fi) (e3 : ArgsRep w Z (xs.set i .gone) vs.toList Fr) (e4 : Join (F r) Fi Fr) (hrun : (execOp a.eval o).run P w = .ok (.value V) w) (hdr : ¬ o.dst = some r)
    {out : Out Upd} (hv : (put o.dst (.val t q y) [(r, ⟨(σ.at r).ver + 1, .tup (xs.set i .gone)⟩)]).val σ = some out) {u : Upd} (hu : out.run = some u) (Q : Exit → Act → World → Prop) : o.wp P a w (fun a' w' => Good B M Z0 w0 (σ.upd u) a' w') Q := by
  obtain ⟨d, hd, rfl⟩ := put_val hv
  simp only [Out.run, Option.some.injEq, List.cons_append, List.nil_append] at hu
  subst hu
  have hne : r ≠ d := fun e => hdr (by rw [hd, e])
  refine wp_value hrun ?_
  rw [hd]
  have hrl : r < σ.length := by
    rcases Nat.lt_or_ge r σ.length with h | h
    · exact h
    · rw [at_ge h] at hr; cases hr
  have hat : ∀ t', (σ.upd [(r, ⟨(σ.at r).ver + 1, .tup (xs.set i .gone)⟩), (d, ⟨(σ.at d).ver + 1, .val t q y⟩)]).at t' = if t' = d ∧ d < σ.length then ⟨(σ.at d).ver + 1, .val t q y⟩ else if t' = r then ⟨(σ.at r).ver + 1, .tup (xs.set i .gone)⟩ else σ.at t' := by
    intro t'
    simp only [St.upd]
    rw [at_set, at_set, List.length_set]
    simp [hrl]
  refine ⟨Z, fun t' => if t' = d ∧ d < σ.length then Fi else if t' = r then Fr else F t', I.change (fun t' => t' = r ∨ (t' = d ∧ d < σ.length)) (by rw [put_size, I.len, length_upd]) (by rw [put_defers]; exact I.defers) ?_ (Ext.refl _ _) (fun _ h => h) (fun b hb => ⟨(I.z b hb).2, .inl hb⟩) ?_ ?_ ?_ ?_ ?_⟩
  · intro t' ht'
    simp only [not_or] at ht'
    refine ⟨by rw [hat]; simp only [ht'.1, ht'.2, if_false], by rw [tm_put, I.len]; simp only [ht'.2, if_false], by simp only [ht'.1, ht'.2, if_false]⟩
  · intro t' ht'
    rw [hat, tm_put, I.len]
    by_cases hc : t' = d ∧ d < σ.length
    · simp only [hc, and_self, if_true]; exact e2
    · have h2 := ht'.resolve_right hc
      simp only [hc, if_false, h2, if_true]
      simp only [hne, false_and, if_false]
      exact ⟨vs, hV, e3⟩
  · intro t' ht'
    refine RefOK.ofPlain ?_
    rw [hat]
    by_cases hc : t' = d ∧ d < σ.length
    · simp only [hc, and_self, if_true]; rfl
    · have h2 := ht'.resolve_right hc
      simp only [hc, if_false, h2, if_true]
      simp only [hne, false_and, if_false]
      rfl
  · intro t' ht' b hb
    have hFr : F r b → ¬ Z b ∧ b < w.heap.size ∧ ((∃ c, (c = r ∨ (c = d ∧ d < σ.length)) ∧ F c b) ∨ w.heap.size ≤ b) := fun h => ⟨(I.own r b h).1, (I.own r b h).2.2, .inl ⟨r, .inl rfl, h⟩⟩
    by_cases hc : t' = d ∧ d < σ.length
    · simp only [hc, and_self, if_true] at hb
      exact hFr (e4.left hb)
    · have h2 := ht'.resolve_right hc
      subst h2
      simp only [hne, false_and, if_false, if_true] at hb
      exact hFr (e4.right hb)
  · intro t1 t2 h1 h2 b hb1 hb2
    by_cases h3 : t1 = d ∧ d < σ.length <;> by_cases h4 : t2 = d ∧ d < σ.length
    · rw [h3.1, h4.1]
    · have h5 := h2.resolve_right h4
      subst h5
      simp only [h3, and_self, if_true] at hb1
      simp only [hne, false_and, if_false, if_true] at hb2
      exact (e4.2 b hb1 hb2).elim
    · have h5 := h1.resolve_right h3
      subst h5
      simp only [h4, and_self, if_true] at hb2
      simp only [hne, false_and, if_false, if_true] at hb1
      exact (e4.2 b hb2 hb1).elim
    · rw [h1.resolve_right h3, h2.resolve_right h4]
  · intro r' hr'
    left
    rw [hat]
    by_cases hc : r' = d ∧ d < σ.length
    · obtain ⟨rfl, hc⟩ := hc
      simp only [hc, and_self, if_true]; exact Nat.lt_succ_self _
    · have h2 := hr'.resolve_right hc
      subst h2
      simp only [hne, false_and, if_false, if_true]; exact Nat.lt_succ_self _
theorem extract_ok (I : Inv B M Z0 w0 σ a w Z F) {o : Oper} {x : Operand} {i : Nat} (ho : o.op = .extract x i) : OpOK P B M Z0 w0 σ a w o (opExtract o.dst x i) := by
  intro out hv u hu Q
  have hex : execOp a.eval o = (Instr.extract (a.eval x) i >>= fun v => pure (Next.value v)) := by unfold execOp; rw [ho]
  unfold opExtract at hv
  split at hv
  · rename_i r
    simp only [Rd.val] at hv
    split at hv
    · rename_i xs hr
      have he := I.ent r
      rw [hr] at he
      obtain ⟨vs, hV, hA⟩ := he
      split at hv
      · rename_i t q y hi
        obtain ⟨V, Fi, Fr, e1, e2, e3, e4⟩ := hA.take hi
        have hrun : (execOp a.eval o).run P w = .ok (.value V) w := by
          refine addr_run hex ?_
          show (Instr.extract (tm a r) i).run P w = _
          rw [hV]
          unfold Instr.extract
          have : vs[i]? = some V := by simpa using e1
          simp only [this]
          rfl
        split at hv
        · rename_i hq
          exact ok_val I hrun (e2.toFr hq) hv hu Q
        · split at hv
          · cases hv
          · rename_i hdr
            exact extract_own I hr hV e2 e3 e4 hrun hdr hv hu Q
      · cases hv
    · rename_i r' v xs hr
      have he := I.ent r
      have hR := I.ref r
      unfold RefOK at hR
      rw [hr] at he hR
      rcases he.2 with hxs | ⟨vs, hV, hA⟩
      · subst hxs
        simp only [List.getElem?_nil] at hv
        cases hv
      have hrun : ∀ V, vs.toList[i]? = some V → (execOp a.eval o).run P w = .ok (.value V) w := by
        intro V e1
        refine addr_run hex ?_
        show (Instr.extract (tm a r) i).run P w = _
        rw [hV]
        unfold Instr.extract
        have : vs[i]? = some V := by simpa using e1
        simp only [this]
        rfl
      split at hv
      · rename_i t q y hi
        obtain ⟨V, Fi, Fr, e1, e2, e3, e4⟩ := hA.take hi
        split at hv
        · rename_i hq
          exact ok_val I (hrun V e1) (e2.toFr hq) hv hu Q
        · cases hv
      · simp only [Rd.val] at hv
        split at hv
        · rename_i hver
          split at hv
          · rename_i ys hr'
            have he' := I.ent r'
            rw [hr'] at he'
            obtain ⟨vs', hV', hA'⟩ := he'
            have hvv : vs' = vs := by
              have := hR.2 hver
              rw [hV, hV'] at this
              simpa using this.symm
            subst hvv
            split at hv
            · rename_i t q y hi
              obtain ⟨V, Fi, Fr, e1, e2, e3, e4⟩ := hA'.take hi
              split at hv
              · cases hv
              · split at hv
                · cases hv
                · rename_i hdr
                  exact extract_own I hr' hV' e2 e3 e4 (hrun V e1) hdr hv hu Q
            · cases hv
          · cases hv
        · cases hv
      · cases hv
    · cases hv
  · cases hv
end
end Go.K

/- K, part Q: conversions; binary operations. -/
set_option linter.unusedVariables false
set_option linter.unusedSimpArgs false
namespace Go.K
variable [drI : Dr]
section
variable {P : Program} {X : FC} {B : Nat} {M Z0 : BSet} {w0 : World} {σ : St} {a : Act} {w : World} {Z : BSet} {F : Nat → BSet}

theorem VRep.noAgg {t : Ty} {q : Ow} {x : t.den} {V : Value} {Fo : BSet} (h : VRep w Z t q x V Fo) (ht : t.isAgg = true) : ∃ cs, V = .agg cs := h.2.1 ht
theorem beq_str (x y : List UInt8) : ((ByteArray.mk x.toArray).toList == (ByteArray.mk y.toArray).toList) = (x == y) := by rw [toList_mk, toList_mk]
mutual
/-- Equality, as the model tells it. -/
theorem eq_ok (K : CtxOK P X) : ∀ (t : Ty) {T d : Nat} {x y : t.den} {V V' : Value} {F1 F2 : BSet}, X.C.ty T = some t → comparable t = true → t ≠ .unit → t.dep ≤ d → VRep w Z t .fr x V F1 → VRep w Z t .fr y V' F2 →
    (Op.equalIn d T V V').run P w = .ok (eqB t x y) w
  | .int k, T, d, x, y, V, V', F1, F2, hT, hc, hu, hd, h1, h2 => by
    rw [h1.int (by simp), h2.int (by simp)]
    obtain ⟨d, rfl⟩ : ∃ e, d = e + 1 := ⟨d - 1, by simp only [Ty.dep] at hd; omega⟩
    exact run_equalIn_int w d T k k x y (K.under hT)
  | .bool, T, d, x, y, V, V', F1, F2, hT, hc, hu, hd, h1, h2 => by
    rw [h1.bool (by simp), h2.bool (by simp)]
    obtain ⟨d, rfl⟩ : ∃ e, d = e + 1 := ⟨d - 1, by simp only [Ty.dep] at hd; omega⟩
    exact run_equalIn_bool' w d T x y (K.under hT)
  | .str, T, d, x, y, V, V', F1, F2, hT, hc, hu, hd, h1, h2 => by
    rw [h1.str (by simp), h2.str (by simp)]
    obtain ⟨d, rfl⟩ : ∃ e, d = e + 1 := ⟨d - 1, by simp only [Ty.dep] at hd; omega⟩
    rw [run_equalIn_string w d T _ _ (K.under hT), beq_str]; rfl
  | .unit, T, d, x, y, V, V', F1, F2, hT, hc, hu, hd, h1, h2 => absurd rfl hu
  | .pair t1 t2, T, d, x, y, V, V', F1, F2, hT, hc, hu, hd, h1, h2 => by
    obtain ⟨xs, rfl, r1⟩ := eagg h1 rfl
    obtain ⟨ys, rfl, r2⟩ := eagg h2 rfl
    obtain ⟨fs, e1, e2, e3, e4⟩ := K.under hT
    obtain ⟨d, rfl⟩ : ∃ e, d = e + 1 := ⟨d - 1, by
      have : 1 ≤ (Ty.pair t1 t2).dep := by simp only [Ty.dep]; omega
      omega⟩
    have hfs : P.fieldsOf T = fs := by unfold Program.fieldsOf; rw [e1]
    rw [run_equalIn_struct w d T xs ys (by rw [hfs]; exact e1) e3, hfs]
    exact eqFields_ok K (.pair t1 t2) e2 hc hd (px := []) (py := []) rfl rfl (by simp) (by simp) r1 r2
  | .sl _ _, T, d, x, y, V, V', F1, F2, hT, hc, hu, hd, h1, h2 => by simp [comparable] at hc
  | .ptr _, T, d, x, y, V, V', F1, F2, hT, hc, hu, hd, h1, h2 => by simp [comparable] at hc
  | .mp _ _, T, d, x, y, V, V', F1, F2, hT, hc, hu, hd, h1, h2 => by simp [comparable] at hc
  | .arr n e, T, d, x, y, V, V', F1, F2, hT, hc, hu, hd, h1, h2 => by
    obtain ⟨xs, rfl, r1⟩ := eagg h1 rfl
    obtain ⟨ys, rfl, r2⟩ := eagg h2 rfl
    obtain ⟨Te, e1, e2⟩ := K.under hT
    simp only [comparable, Bool.and_eq_true, bne_iff_ne, ne_eq] at hc
    obtain ⟨d, rfl⟩ : ∃ e, d = e + 1 := ⟨d - 1, by simp only [Ty.dep] at hd; omega⟩
    simp only [Ty.dep] at hd
    obtain ⟨i, hi, hsz, _⟩ := K.size e2
    have hco : P.cellsOf Te = e.cells := by simp [Program.cellsOf, hi, hsz]
    rw [run_equalIn_array w d xs ys e1 hi, hco, List.range_eq_range']
    rcases r1 with ⟨_, l1, r1, _⟩ | ⟨h, _⟩
    rotate_left
    · cases h
    rcases r2 with ⟨_, l2, r2, _⟩ | ⟨h, _⟩
    rotate_left
    · cases h
    have items : ∀ (n k : Nat) {x y : List e.den} {px py cx cy : List Value} {G1 G2 : BSet}, x.length = n → y.length = n → px.length = k * e.cells → py.length = k * e.cells → xs.toList = px ++ cx → ys.toList = py ++ cy →
        ElemsRep (fun z => Rep w Z e .fr z) x cx G1 → ElemsRep (fun z => Rep w Z e .fr z) y cy G2 → (Op.eqItems d Te e.cells xs ys (List.range' k n)).run P w = .ok (eqL (eqB e) x y) w := by
      intro n
      induction n with
      | zero =>
        intro k x y px py cx cy G1 G2 lx ly _ _ _ _ _ _
        rw [List.eq_nil_of_length_eq_zero lx, List.eq_nil_of_length_eq_zero ly]
        rfl
      | succ n ih =>
        intro k x y px py cx cy G1 G2 lx ly p1 p2 e3 e4 q1 q2
        cases x with
        | nil => simp at lx
        | cons x1 x =>
        cases y with
        | nil => simp at ly
        | cons y1 y =>
        obtain ⟨c1, c2, H1, H2, rfl, a1, a2, _⟩ := q1
        obtain ⟨d1, d2, K1, K2, rfl, b1, b2, _⟩ := q2
        obtain ⟨V, v1, v2⟩ := K.part (w := w) e2 (p := px) (r := c2) a1
        obtain ⟨V', u1, u2⟩ := K.part (w := w) e2 (p := py) (r := d2) b1
        have hx : xs = (px ++ c1 ++ c2).toArray := by rw [← Array.toArray_toList (xs := xs), e3, List.append_assoc]
        have hy : ys = (py ++ d1 ++ d2).toArray := by rw [← Array.toArray_toList (xs := ys), e4, List.append_assoc]
        rw [List.range'_succ]
        simp only [Op.eqItems]
        rw [Sem.run_bind, hx, ← p1, v1]
        simp only [Result.andThen]
        rw [Sem.run_bind, hy, p1, ← p2, u1]
        simp only [Result.andThen]
        rw [Sem.run_bind, eq_ok K e e2 hc.2 hc.1 (by omega) v2 u2]
        simp only [Result.andThen, eqL]
        rw [← hx, ← hy]
        cases hb : eqB e x1 y1 with
        | false => rfl
        | true =>
          simp only [Bool.not_true, Bool.false_eq_true, if_false, Bool.true_and]
          refine ih (k + 1) (px := px ++ c1) (py := py ++ d1) (by simpa using lx) (by simpa using ly) ?_ ?_ (by rw [e3, List.append_assoc]) (by rw [e4, List.append_assoc]) a2 b2
          · rw [List.length_append, a1.length, p1, Nat.add_mul, Nat.one_mul]
          · rw [List.length_append, b1.length, p2, Nat.add_mul, Nat.one_mul]
    exact items n 0 (px := []) (py := []) l1 l2 (by simp) (by simp) rfl rfl r1 r2
theorem eqFields_ok (K : CtxOK P X) : ∀ (t : Ty) {d o : Nat} {fs : List Field} {x y : t.den} {xs ys : Array Value} {px py cx cy : List Value} {F1 F2 : BSet}, fieldsOK X.C.ty fs t o = true → comparable t = true → t.dep ≤ d + 1 →
    px.length = o → py.length = o → xs.toList = px ++ cx → ys.toList = py ++ cy → Rep w Z t .fr x cx F1 → Rep w Z t .fr y cy F2 → (Op.eqFields d xs ys fs).run P w = .ok (eqB t x y) w
  | .unit, d, o, fs, x, y, xs, ys, px, py, cx, cy, F1, F2, hf, hc, hd, e1, e2, e3, e4, r1, r2 => by
    cases fs with
    | nil => rfl
    | cons f fs => simp [fieldsOK] at hf
  | .pair t1 t2, d, o, fs, x, y, xs, ys, px, py, cx, cy, F1, F2, hf, hc, hd, e1, e2, e3, e4, r1, r2 => by
    cases fs with
    | nil => simp [fieldsOK] at hf
    | cons f fs =>
      simp only [fieldsOK, Bool.and_eq_true, beq_iff_eq, bne_iff_ne, ne_eq] at hf
      obtain ⟨⟨⟨hn, hty⟩, ho⟩, hf⟩ := hf
      simp only [comparable, Bool.and_eq_true, bne_iff_ne, ne_eq] at hc
      obtain ⟨c1, c2, G1, G2, rfl, a1, a2, _⟩ := r1
      obtain ⟨d1, d2, H1, H2, rfl, b1, b2, _⟩ := r2
      obtain ⟨V, v1, v2⟩ := K.part (w := w) hty (p := px) (r := c2) a1
      obtain ⟨V', u1, u2⟩ := K.part (w := w) hty (p := py) (r := d2) b1
      have hx : xs = (px ++ c1 ++ c2).toArray := by rw [← Array.toArray_toList (xs := xs), e3, List.append_assoc]
      have hy : ys = (py ++ d1 ++ d2).toArray := by rw [← Array.toArray_toList (xs := ys), e4, List.append_assoc]
      simp only [Op.eqFields, hn, not_false_eq_true, if_true, ne_eq]
      simp only [Ty.dep] at hd
      rw [Sem.run_bind, hx, ho, show o = px.length from e1.symm, v1]
      simp only [Result.andThen]
      rw [Sem.run_bind, hy, show px.length = py.length by omega, u1]
      simp only [Result.andThen]
      rw [Sem.run_bind, eq_ok K t1 hty hc.1.2 hc.1.1 (by omega) v2 u2]
      simp only [Result.andThen, eqB]
      cases hb : eqB t1 x.1 y.1 with
      | false => rfl
      | true =>
        simp only [Bool.not_true, Bool.false_eq_true, if_false, Bool.true_and]
        refine eqFields_ok K t2 hf hc.2 (by omega) (px := px ++ c1) (py := py ++ d1) ?_ ?_ rfl rfl a2 b2
        · rw [List.length_append, a1.length]; omega
        · rw [List.length_append, b1.length]; omega
  | .int _, d, o, fs, x, y, xs, ys, px, py, cx, cy, F1, F2, hf, _, _, _, _, _, _, _, _ => by cases fs <;> simp [fieldsOK] at hf
  | .bool, d, o, fs, x, y, xs, ys, px, py, cx, cy, F1, F2, hf, _, _, _, _, _, _, _, _ => by cases fs <;> simp [fieldsOK] at hf
  | .str, d, o, fs, x, y, xs, ys, px, py, cx, cy, F1, F2, hf, _, _, _, _, _, _, _, _ => by cases fs <;> simp [fieldsOK] at hf
  | .sl _ _, d, o, fs, x, y, xs, ys, px, py, cx, cy, F1, F2, hf, _, _, _, _, _, _, _, _ => by cases fs <;> simp [fieldsOK] at hf
  | .ptr _, d, o, fs, x, y, xs, ys, px, py, cx, cy, F1, F2, hf, _, _, _, _, _, _, _, _ => by cases fs <;> simp [fieldsOK] at hf
  | .arr _ _, d, o, fs, x, y, xs, ys, px, py, cx, cy, F1, F2, hf, _, _, _, _, _, _, _, _ => by cases fs <;> simp [fieldsOK] at hf
  | .mp _ _, d, o, fs, x, y, xs, ys, px, py, cx, cy, F1, F2, hf, _, _, _, _, _, _, _, _ => by cases fs <;> simp [fieldsOK] at hf
end
theorem eqB_bool (x y : Bool) : eqB .bool x y = (x == y) := rfl
theorem bool_eq {T : Nat} (hT : P.underlying T = some .bool) (x y : Bool) : (Op.equal T (.bool x) (.bool y)).run P w = .ok (x == y) w := run_equalIn_bool' w 9999 T x y hT

theorem bin_ok (K : CtxOK P X) (I : Inv B M Z0 w0 σ a w Z F) {o : Oper} {op : BinOp} {T T2 : Nat} {x y : Operand} (ho : o.op = .binOp op T x y T2) : OpOK P B M Z0 w0 σ a w o (opBin X.C o.dst op T x y) := by
  intro out hv u hu Q
  obtain ⟨ex, h1, hv1⟩ := Rd.bind_some hv
  obtain ⟨ey, h2, hv2⟩ := Rd.bind_some hv1
  clear hv hv1
  cases ex with
  | val t q xv =>
    cases ey with
    | val t' q' yv =>
      simp only at hv2
      split at hv2
      · rename_i hq
        obtain ⟨hq1, hq2, hT⟩ := hq
        obtain ⟨F1, h3⟩ := opd_val I h1
        obtain ⟨F2, h4⟩ := opd_val I h2
        replace h3 := h3.toFr hq1
        replace h4 := h4.toFr hq2
        have key : ∀ c tv, kBin op t xv t' yv = some (c, tv) → c.getD true = true → ∃ V, (execOp a.eval o).run P w = .ok (.value V) w ∧ VRep w Z tv.t .fr tv.x V (fun _ => False) := by
          intro c tv hk hc
          cases t with
          | int k =>
            cases t' with
            | int k' =>
              have e1 := h3.int (by simp)
              have e2 := h4.int (by simp)
              simp only [kBin] at hk
              split at hk
              · rename_i hop
                obtain ⟨V, h5, h6⟩ := kShift_ok (P := P) (w := w) (Z := Z) (T := T) (k' := k') hk hc
                exact ⟨V, bin_run ho (by rw [e1, e2]; exact eqGuard_int) (by rw [e1, e2]; exact h5), h6⟩
              · rename_i hop
                split at hk
                · rename_i hk'
                  subst hk'
                  have := kInt_ok (P := P) (w := w) (Z := Z) (T := T) hop hk
                  simp only at this
                  obtain ⟨V, h5, h6⟩ := this hc
                  exact ⟨V, bin_run ho (by rw [e1, e2]; exact eqGuard_int) (by rw [e1, e2]; exact h5), h6⟩
                · cases hk
            | _ => cases hk
          | str =>
            cases t' with
            | str =>
              have e1 := h3.str (by simp)
              have e2 := h4.str (by simp)
              simp only [kBin] at hk
              obtain ⟨V, h5, h6⟩ := kStr_ok (P := P) (w := w) (Z := Z) (T := T) hk hc
              exact ⟨V, bin_run ho (by rw [e1, e2]; exact eqGuard_str) (by rw [e1, e2]; exact h5), h6⟩
            | _ => cases hk
          | bool =>
            cases t' with
            | bool =>
              have e1 := h3.bool (by simp)
              have e2 := h4.bool (by simp)
              have e3 := bool_eq (w := w) (K.under hT) xv yv
              simp only [kBin] at hk
              split at hk
              · simp only [Option.some.injEq, Prod.mk.injEq] at hk
                obtain ⟨rfl, rfl⟩ := hk
                refine ⟨_, bin_run ho (by rw [e1, e2]; exact eqGuard_bool) ?_, VRep.ofBool _⟩
                rw [e1, e2]
                simp only [binOp]
                rw [Sem.run_bind, e3]; rfl
              · simp only [Option.some.injEq, Prod.mk.injEq] at hk
                obtain ⟨rfl, rfl⟩ := hk
                refine ⟨_, bin_run ho (by rw [e1, e2]; exact eqGuard_bool) ?_, VRep.ofBool _⟩
                rw [e1, e2]
                simp only [binOp]
                rw [Sem.run_bind, e3]; rfl
              · cases hk
            | _ => cases hk
          | pair t1 t2 =>
            simp only [kBin] at hk
            split at hk
            · rename_i he
              subst he
              split at hk
              · rename_i hcmp
                simp only [Bool.and_eq_true, decide_eq_true_eq] at hcmp
                obtain ⟨xs, hx, _⟩ := eagg h3 rfl
                obtain ⟨ys, hy, _⟩ := eagg h4 rfl
                obtain ⟨fs, e1, e2, e3, e4⟩ := K.under hT
                have e5 := eq_ok (w := w) K (.pair t1 t2) hT hcmp.1 (by simp) hcmp.2 h3 h4
                rw [hx, hy] at e5
                split at hk
                · simp only [Option.some.injEq, Prod.mk.injEq] at hk
                  obtain ⟨rfl, rfl⟩ := hk
                  refine ⟨_, bin_run ho (by rw [hx, hy]; exact run_eqGuard_agg w _ _ _ _ _ _ e4) ?_, VRep.ofBool _⟩
                  rw [hx, hy, run_eql_struct, e5]; rfl
                · simp only [Option.some.injEq, Prod.mk.injEq] at hk
                  obtain ⟨rfl, rfl⟩ := hk
                  refine ⟨_, bin_run ho (by rw [hx, hy]; exact run_eqGuard_agg w _ _ _ _ _ _ e4) ?_, VRep.ofBool _⟩
                  rw [hx, hy, run_neq_struct, e5]; rfl
                · cases hk
              · cases hk
            · cases hk
          | arr n e =>
            simp only [kBin] at hk
            split at hk
            · rename_i he
              subst he
              split at hk
              · rename_i hcmp
                simp only [Bool.and_eq_true, decide_eq_true_eq] at hcmp
                obtain ⟨xs, hx, _⟩ := eagg h3 rfl
                obtain ⟨ys, hy, _⟩ := eagg h4 rfl
                have e4 := K.arrGuard hT
                have e5 := eq_ok (w := w) K (.arr n e) hT hcmp.1 (by simp) hcmp.2 h3 h4
                rw [hx, hy] at e5
                split at hk
                · simp only [Option.some.injEq, Prod.mk.injEq] at hk
                  obtain ⟨rfl, rfl⟩ := hk
                  refine ⟨_, bin_run ho (by rw [hx, hy]; exact run_eqGuard_agg w _ _ _ _ _ _ e4) ?_, VRep.ofBool _⟩
                  rw [hx, hy, run_eql_struct, e5]; rfl
                · simp only [Option.some.injEq, Prod.mk.injEq] at hk
                  obtain ⟨rfl, rfl⟩ := hk
                  refine ⟨_, bin_run ho (by rw [hx, hy]; exact run_eqGuard_agg w _ _ _ _ _ _ e4) ?_, VRep.ofBool _⟩
                  rw [hx, hy, run_neq_struct, e5]; rfl
                · cases hk
              · cases hk
            · cases hk
          | _ => cases hk
        split at hv2
        · rename_i tv hk
          obtain ⟨V, h5, h6⟩ := key none tv hk rfl
          exact ok_val I h5 h6 hv2 hu Q
        · rename_i b tv hk
          obtain ⟨d, hd, rfl⟩ := putIf_val hv2
          obtain ⟨hb, rfl⟩ := run_br hu
          obtain ⟨V, h5, h6⟩ := key (some b) tv hk hb
          exact ok_val I h5 h6 (out := .done [(d, ⟨(σ.at d).ver + 1, .val tv.t .fr tv.x⟩)]) (by rw [hd]; rfl) rfl Q
        · cases hv2
      · cases hv2
    | _ => cases hv2
  | _ => cases hv2
end
end Go.K

/- K, part R: conversions; new variables. -/
set_option linter.unusedVariables false
set_option linter.unusedSimpArgs false
namespace Go.K
variable [drI : Dr]
section
variable {P : Program} {X : FC} {B : Nat} {M Z0 : BSet} {w0 : World} {σ : St} {a : Act} {w : World} {Z : BSet} {F : Nat → BSet}

theorem bytes_cells {w : World} {Z : BSet} {q : Ow} (hq : q.clean = true) : ∀ {xs : List Int} {cs : List Value} {Fo : BSet}, ElemsRep (fun y => Rep w Z (.int .u8) q y) xs cs Fo → cs = xs.map (Value.int .u8)
  | [], cs, Fo, h => h.1
  | x :: xs, cs, Fo, h => by
    obtain ⟨c1, c2, F1, F2, rfl, h1, h2, _⟩ := h
    rcases h1 with ⟨_, rfl, _⟩ | ⟨rfl, _⟩
    · rw [bytes_cells hq h2]; rfl
    · cases hq
theorem utf8_ascii {n : Int} (h0 : 0 ≤ n) (h1 : n < 128) : Utf8.encode n = ⟨[UInt8.ofNat n.toNat].toArray⟩ := by
  unfold Utf8.encode
  have hv : Utf8.valid n = true := by
    unfold Utf8.valid
    simp only [Bool.and_eq_true, decide_eq_true_eq, Bool.or_eq_true, Bool.not_eq_true']
    first | omega | (constructor <;> omega) | simp; omega
  have : n.toNat < 128 := by omega
  simp [hv, this]
theorem Ext.grown {w w' : World} (ho : w'.os = w.os) (ht : w'.tape = w.tape) (hout : w'.output = w.output) (hs : w.heap.size ≤ w'.heap.size) (hb : ∀ b, b < w.heap.size → w'.heap[b]? = w.heap[b]?) (hd : Dr.le w.drawn w'.drawn) : Ext w w' (fun _ => False) :=
  ⟨ho, ht, hout, hs, fun b h _ => hb b h, hd⟩
theorem Ext.alloc (w : World) (o : Obj) : Ext w (w.alloc o) (fun _ => False) :=
  ⟨rfl, rfl, rfl, by simp, fun b h _ => heap_alloc_old w o h, Dr.refl _⟩
theorem Ext.drewAlloc (w : World) (o : Obj) : Ext w (w.drew.alloc o) (fun _ => False) :=
  ⟨rfl, rfl, rfl, by simp, fun b h _ => heap_alloc_old w.drew o h, Dr.of_le (Nat.le_succ _)⟩

theorem bytes_elems {w : World} {Z : BSet} : ∀ s : List UInt8, ElemsRep (fun y => Rep w Z (.int .u8) .fr y) (s.map fun b => ((b.toNat : Nat) : Int)) (s.map (fun b => Value.int .u8 ((b.toNat : Nat) : Int))) (fun _ => False)
  | [] => ⟨rfl, fun _ h => h⟩
  | b :: s => ⟨[_], _, _, _, rfl, .inl ⟨by simp, rfl, fun _ h => h⟩, bytes_elems s, Join.none⟩
theorem cellsAt_block {w : World} {g : Nat} {cs : Array Value} {T : TypeId} {fz : Nat × Nat} (h : w.heap[g]? = some (.cells cs T fz)) : CellsAt w ⟨g, 0, none⟩ cs.toList := by
  intro j u hj
  rw [add_mem]
  unfold World.cell?
  simp only [h]
  simpa using hj
theorem CellsAt.pre {w : World} {ad : Addr} {c r : List Value} (h : CellsAt w ad (c ++ r)) : CellsAt w ad c := by
  intro j u hj
  refine h j u ?_
  rw [List.getElem?_append_left]
  · exact hj
  · rcases Nat.lt_or_ge j c.length with h | h
    · exact h
    · rw [List.getElem?_eq_none h] at hj; cases hj
theorem convert_ok (K : CtxOK P X) (I : Inv B M Z0 w0 σ a w Z F) {o : Oper} {S D : Nat} {x : Operand} (ho : o.op = .convert S D x) : OpOK P B M Z0 w0 σ a w o (opConvert X.C o.dst S D x) := by
  intro out hv u hu Q
  obtain ⟨e, he, hv1⟩ := Rd.bind_some hv
  replace hv := hv1
  clear hv1
  obtain ⟨Fo, h3, h4⟩ := opd_ref I he
  split at hv
  · rename_i k0 k hS hD
    split at hv
    · rename_i k1 n
      refine ok_val I (conv_run ho (V := .int k (k.wrap n)) ?_) (VRep.ofInt _ _) hv hu Q
      rw [VRep.int (by simp) h3]
      unfold convert
      rw [Sem.run_bind, run_underlying (K.under hS)]
      simp only [Result.andThen]
      rw [Sem.run_bind, run_underlying (K.under hD)]
      rfl
    · cases hv
  · rename_i hS hD
    split at hv
    · rename_i s
      refine ok_val I (conv_run ho (V := .string ⟨s.toArray⟩) ?_) (VRep.ofStr _) hv hu Q
      rw [VRep.str (by simp) h3]
      unfold convert
      rw [Sem.run_bind, run_underlying (K.under hS)]
      simp only [Result.andThen]
      rw [Sem.run_bind, run_underlying (K.under hD)]
      rfl
    · cases hv
  · rename_i k0 hS hD
    split at hv
    · rename_i n
      obtain ⟨d, hd, rfl⟩ := putIf_val hv
      obtain ⟨hb, rfl⟩ := run_br hu
      simp only [Bool.and_eq_true, decide_eq_true_eq] at hb
      refine ok_val I (conv_run ho (V := .string ⟨[UInt8.ofNat n.toNat].toArray⟩) ?_) (VRep.ofStr _) (out := .done [(d, ⟨(σ.at d).ver + 1, .val .str .fr [UInt8.ofNat n.toNat]⟩)]) (by rw [hd]; rfl) rfl Q
      rw [VRep.int (by simp) h3]
      unfold convert
      rw [Sem.run_bind, run_underlying (K.under hS)]
      simp only [Result.andThen]
      rw [Sem.run_bind, run_underlying (K.under hD)]
      simp only [Result.andThen, Conv.intToString, utf8_ascii hb.1 hb.2, Sem.run_pure]
    · cases hv
  · rename_i Te hS hD
    obtain ⟨s, h5, hv1⟩ := Rd.bind_some hv
    obtain ⟨A, c, cells, Fe, h6, h7, h8, h9, h10⟩ := rdSl_ok I h3 h4 h5
    split at hv1
    · rename_i Te' q xs
      split at hv1
      · rename_i hq
        have hcs := bytes_cells hq.2 h10
        obtain ⟨e1, e2, _⟩ := K.under hS
        refine ok_val I (conv_run ho (V := .string (strOfNums xs)) ?_) (VRep.ofStr _) hv1 hu Q
        rw [h6]
        cases xs with
        | nil =>
          cases A with
          | none => exact run_convert_bytes_nil w S Te e1 (K.under e2) _ _ D (K.under hD)
          | some ad =>
            rw [run_convert_bytes_string w S D Te _ _ c e1 (K.under e2) (K.under hD)]
            have : ad = ad := rfl
            unfold Conv.bytesToString
            rw [Sem.run_bind]
            rfl
        | cons y ys =>
          obtain ⟨ad, rfl, hs, hcell⟩ := h9 (by simp)
          obtain ⟨b, of, sp⟩ := ad
          simp only at hs
          subst hs
          refine run_convert_bytes_arg w S Te e1 (K.under e2) b of _ c (y :: ys) rfl (fun i hi => ?_) D (K.under hD)
          have := hcell i (.int .u8 ((y :: ys).getD i 0)) (by
            rw [hcs]
            simp only [List.getElem?_map]
            rw [List.getElem?_eq_getElem hi]
            simp [List.getD, List.getElem?_eq_getElem hi])
          rwa [add_mem] at this
      · cases hv1
    · cases hv1
  · rename_i Te hS hD
    split at hv
    · rename_i s
      obtain ⟨d, hd, rfl⟩ := putIf_val hv
      obtain ⟨hb, rfl⟩ := run_br hu
      simp only [decide_eq_true_eq] at hb
      obtain ⟨e1, e2, _⟩ := K.under hD
      have hrun := run_bytes_of_string (P := P) w S D Te ⟨s.toArray⟩ (K.under hS) e1 (K.under e2)
      rw [← VRep.str (by simp) h3] at hrun
      have hsz : (ByteArray.mk s.toArray).size = s.length := run_str_len s
      rw [hsz] at hrun
      have hge := grownCap_ge w s.length 0 Te
      have hle := grownCap_le_maxLen w s.length 0 Te (by simp only [maxLen]; omega)
      refine ok_putN (Fe := fun _ => False) (e := .val (.sl Te (.int .u8)) .fr (s.map fun b => ((b.toNat : Nat) : Int))) I (more := []) hd (conv_run ho hrun) eaten_nil rfl (by simp) (Ext.drewAlloc w _) (fun b => b = w.heap.size) (fun b hb => by subst hb; exact ⟨Nat.le_refl _, by simp⟩) ?_ (fun b h => h.elim) trivial Q
      refine .mk1 rfl (by simp) ⟨_, _, s.map (fun b => Value.int .u8 ((b.toNat : Nat) : Int)), by simp, fun _ h => h, by simpa using hge, hle, fun hx => ⟨⟨w.heap.size, 0, none⟩, rfl, rfl, .inr (.inr rfl), fun j v hj => ?_⟩, ?_⟩
      · have h7 := cellsAt_block (w := w.drew.alloc (.cells (bytesRow ⟨s.toArray⟩ (grownCap w s.length 0 Te)) Te ((bytesRow ⟨s.toArray⟩ (grownCap w s.length 0 Te)).size, (bytesRow ⟨s.toArray⟩ (grownCap w s.length 0 Te)).size + 1))) (heap_alloc_new w.drew _)
        have h8 : (bytesRow ⟨s.toArray⟩ (grownCap w s.length 0 Te)).toList = s.map (fun b => Value.int .u8 ((b.toNat : Nat) : Int)) ++ List.replicate (grownCap w s.length 0 Te - (ByteArray.mk s.toArray).size) (.int .u8 0) := by simp [bytesRow]
        rw [h8] at h7
        exact h7.pre j v hj
      · exact bytes_elems s
    · cases hv
  · cases hv
end
end Go.K

/- K, part S: new variables, new slices; what is given away. -/
set_option linter.unusedVariables false
set_option linter.unusedSimpArgs false
namespace Go.K
variable [drI : Dr]
section
variable {P : Program} {X : FC} {B : Nat} {M Z0 : BSet} {w0 : World} {σ : St} {a : Act} {w : World} {Z : BSet} {F : Nat → BSet}

theorem valueEq_ok {a b : Value} (h : valueEq a b = true) : a = b := by
  unfold valueEq at h
  split at h
  · simp only [Bool.and_eq_true, beq_iff_eq] at h; rw [h.1, h.2]
  · simp only [beq_iff_eq] at h; rw [h]
  · simp only [beq_iff_eq] at h
    rename_i s s'
    congr 1
    exact ByteArray.ext (Array.ext' h)
  · rfl
  · rfl
  · cases h
theorem cellsEq_ok : ∀ {a b : List Value}, cellsEq a b = true → a = b
  | [], [], _ => rfl
  | x :: xs, y :: ys, h => by
    simp only [cellsEq, Bool.and_eq_true] at h
    rw [valueEq_ok h.1, cellsEq_ok h.2]
  | [], _ :: _, h => by simp [cellsEq] at h
  | _ :: _, [], h => by simp [cellsEq] at h
theorem elems_replicate {α : Type} {R : α → List Value → BSet → Prop} {x : α} {cs : List Value} (h : R x cs (fun _ => False)) : ∀ n, ElemsRep R (List.replicate n x) (List.replicate n cs).flatten (fun _ => False)
  | 0 => ⟨rfl, fun _ h => h⟩
  | n + 1 => ⟨cs, _, _, _, rfl, h, elems_replicate h n, Join.none⟩
theorem zero_rep (w : World) (Z : BSet) : ∀ {t : Ty} {q : Ow}, t.hasZero = true → hintOK t q = true → Rep w Z t q t.zero (zcells t) (fun _ => False)
  | .int k, q, _, hq => .inl ⟨by simpa [hintOK] using hq, rfl, fun _ h => h⟩
  | .bool, q, _, hq => .inl ⟨by simpa [hintOK] using hq, rfl, fun _ h => h⟩
  | .str, q, _, hq => .inl ⟨by simpa [hintOK] using hq, rfl, fun _ h => h⟩
  | .unit, q, _, hq => ⟨rfl, fun _ h => h⟩
  | .pair a b, q, hz, hq => by
    simp only [Ty.hasZero, Bool.and_eq_true] at hz
    simp only [hintOK, Bool.and_eq_true] at hq
    exact ⟨_, _, _, _, rfl, zero_rep w Z hz.1 hq.1, zero_rep w Z hz.2 hq.2, Join.none⟩
  | .sl T e, q, _, hq => by
    cases q with
    | own q' => exact ⟨_, [], _, rfl, own_nil T _, ⟨rfl, fun _ h => h⟩, fun b => by simp [Value.ownBlock], fun b h => by simp [Value.ownBlock] at h⟩
    | fr => exact ⟨none, 0, [], rfl, fun _ h => h, Nat.le_refl _, Nat.zero_le _, fun h => absurd rfl h, rfl, fun _ h => h⟩
    | pr a b => exact ⟨none, 0, [], rfl, fun _ h => h, Nat.le_refl _, Nat.zero_le _, fun h => absurd rfl h, rfl, fun _ h => h⟩
    | hole => simp [hintOK] at hq
  | .ptr t, q, hz, hq => by simp [Ty.hasZero] at hz
  | .mp k v, q, hz, hq => by simp [Ty.hasZero] at hz
  | .arr n e, q, hz, hq => by
    simp only [Ty.hasZero] at hz
    simp only [hintOK, Bool.and_eq_true, bne_iff_ne, ne_eq] at hq
    exact .inl ⟨hq.1, by simp [Ty.zero], elems_replicate (zero_rep w Z hz hq.2) n, fun _ h => h⟩
theorem hintOK_fr : ∀ {t : Ty}, t.hasZero = true → hintOK t .fr = true
  | .int _, _ | .bool, _ | .str, _ | .unit, _ | .sl _ _, _ => rfl
  | .pair a b, h => by
    simp only [Ty.hasZero, Bool.and_eq_true] at h
    simp only [hintOK, Ow.l, Ow.r, Bool.and_eq_true]
    exact ⟨hintOK_fr h.1, hintOK_fr h.2⟩
  | .arr n e, h => by simp only [hintOK, Bool.and_eq_true]; exact ⟨rfl, hintOK_fr h⟩
  | .ptr t, h => by simp [Ty.hasZero] at h
  | .mp k v, h => by simp [Ty.hasZero] at h
theorem CtxOK.zero (K : CtxOK P X) {T : Nat} {t : Ty} (h : X.C.ty T = some t) (hz : t.hasZero = true) : ∃ i z, P.info? T = some i ∧ i.size = t.cells ∧ i.zero = some z ∧ z.cells.toList = zcells t := by
  obtain ⟨i, h1, h2, h3⟩ := K.size h
  obtain ⟨z, h4, h5, _⟩ := h3 hz
  exact ⟨i, z, h1, h2, h4, cellsEq_ok h5⟩
theorem CtxOK.zeroValue (K : CtxOK P X) {T : Nat} {t : Ty} (h : X.C.ty T = some t) (hz : t.hasZero = true) : ∃ z, (zeroValue T).run P w = .ok z w ∧ z.cells.toList = zcells t := by
  obtain ⟨i, z, h1, _, h3, h4⟩ := K.zero h hz
  refine ⟨z, ?_, h4⟩
  unfold Go.zeroValue
  rw [Sem.run_bind, run_typeInfo w h1]
  simp only [Result.andThen, h3, Sem.run_pure]
/-- A new variable is a root. -/
theorem newRoot {w : World} {Z : BSet} {t : Ty} {q : Ow} {x : t.den} {cells : Array Value} {T : Nat} {Fc : BSet} (hr : Rep w Z t q x cells.toList Fc) (hF : ∀ b, Fc b → b < w.heap.size) (hZ : ∀ b, Z b → b < w.heap.size) :
    VRep (w.alloc (.cells cells T)) Z (.ptr t) (.own q) x (.pointer (some ⟨w.heap.size, 0, none⟩)) (fun b => b = w.heap.size ∨ Fc b) := by
  refine .mk1 rfl (by simp) ⟨w.heap.size, cells, T, Fc, rfl, heap_alloc_new w _, ?_, fun b => Iff.rfl, fun h => Nat.lt_irrefl _ (hF _ h)⟩
  exact hr.frame (fun b hb => ⟨hb, heap_alloc_old w _ (hZ b hb)⟩) (fun b hb => heap_alloc_old w _ (hF b hb))
theorem run_newVar (T : Nat) (V : Value) : (newVar T V).run P w = .ok ⟨w.heap.size, 0, none⟩ (w.alloc (.cells V.cells T)) := by
  unfold newVar newRow
  rw [Sem.run_bind, run_newObj_alloc]
  rfl
theorem alloc_ok (K : CtxOK P X) (I : Inv B M Z0 w0 σ a w Z F) {o : Oper} {T : Nat} (ho : o.op = .alloc T) : OpOK P B M Z0 w0 σ a w o (opAlloc X.C o.dst T) := by
  intro out hv u hu Q
  have hex : execOp a.eval o = (Instr.alloc T true (.tuple #[]) >>= fun v => pure (Next.value v)) := by unfold execOp; rw [ho]
  unfold opAlloc at hv
  split at hv
  · rename_i t hT
    split at hv
    · rename_i hz
      simp only [Bool.and_eq_true] at hz
      obtain ⟨z, h1, h2⟩ := K.zeroValue (w := w) hT hz.1
      obtain ⟨d, hd, rfl⟩ := put_val hv
      simp only [Out.run, Option.some.injEq] at hu
      subst hu
      have hr := zero_rep w Z hz.1 hz.2
      rw [← h2] at hr
      refine ok_put (Fe := fun b => b = w.heap.size ∨ False) (e := .val (.ptr t) (.own (X.C.hint (o.dst.getD 0))) t.zero) I (more := []) hd (addr_run hex (V := .pointer (some ⟨w.heap.size, 0, none⟩)) (w' := w.alloc (.cells z.cells T)) ?_) eaten_nil rfl (by simp) (Ext.alloc w _) ?_ ?_ trivial Q
      · unfold Instr.alloc
        rw [Sem.run_bind, h1]
        simp only [Result.andThen]
        rw [Sem.run_bind, run_newVar]
        rfl
      · rw [iced_nil]
        exact newRoot hr (fun b h => h.elim) (fun b hb => (I.z b hb).2)
      · rintro b (rfl | h)
        · exact .inr ⟨Nat.le_refl _, by simp⟩
        · exact h.elim
    · cases hv
  · cases hv

theorem Eaten.append {u v : Upd} (h1 : Eaten σ u) (h2 : Eaten σ v) : Eaten σ (u ++ v) := fun r s h => (List.mem_append.1 h).elim (h1 r s) (h2 r s)
theorem freed_append {u v : Upd} {b : Nat} : Freed (u ++ v) F b ↔ Freed u F b ∨ Freed v F b := by
  constructor
  · rintro ⟨r, s, h1, h2⟩
    rcases List.mem_append.1 h1 with h | h
    · exact .inl ⟨r, s, h, h2⟩
    · exact .inr ⟨r, s, h, h2⟩
  · rintro (⟨r, s, h1, h2⟩ | ⟨r, s, h1, h2⟩)
    · exact ⟨r, s, List.mem_append_left _ h1, h2⟩
    · exact ⟨r, s, List.mem_append_right _ h1, h2⟩
theorem iced_append {u v : Upd} {b : Nat} : Iced (u ++ v) F b ↔ Iced u F b ∨ Iced v F b := by
  constructor
  · rintro ⟨r, s, h1, h2⟩
    rcases List.mem_append.1 h1 with h | h
    · exact .inl ⟨r, s, h, h2⟩
    · exact .inr ⟨r, s, h, h2⟩
  · rintro (⟨r, s, h1, h2⟩ | ⟨r, s, h1, h2⟩)
    · exact ⟨r, s, List.mem_append_left _ h1, h2⟩
    · exact ⟨r, s, List.mem_append_right _ h1, h2⟩
theorem VRep.monoZ {w : World} {Z Z' : BSet} (h : ∀ b, Z b → Z' b) {t : Ty} {q : Ow} {x : t.den} {V : Value} {Fo : BSet} (hr : VRep w Z t q x V Fo) : VRep w Z' t q x V Fo := hr.frame (fun b hb => ⟨h b hb, rfl⟩) (fun _ _ => rfl)

/-- What is given away: its content, and what becomes of its source. -/
theorem given_ok (I : Inv B M Z0 w0 σ a w Z F) {C : Ctx} {T : Nat} {h : Ow} {keep : Bool} {x : Operand} {tv : TV} {u : Upd} (hv : (given C T h keep x).val σ = some (tv, u)) :
    ∃ Fo, VRep w (fun b => Z b ∨ Iced u F b) tv.t tv.q tv.x (a.eval x) Fo ∧ (∀ b, Fo b → Freed u F b) ∧ Eaten σ u := by
  have root : ∀ (r : Nat) (t : Ty) (q : Ow) (y : t.den), (σ.at r).e = .val t q y → q.whole = true → tm a r = a.eval x →
      (keep = true → tv = ⟨t, q, y⟩ ∧ u = [(r, ⟨(σ.at r).ver + 1, .un⟩)]) → (keep = false → tv = ⟨t, .fr, y⟩ ∧ u = [(r, ⟨(σ.at r).ver + 1, .val t .fr y⟩)]) →
      ∃ Fo, VRep w (fun b => Z b ∨ Iced u F b) tv.t tv.q tv.x (a.eval x) Fo ∧ (∀ b, Fo b → Freed u F b) ∧ Eaten σ u := by
    intro r t q y he hq hx h1 h2
    have hI := I.ent r
    rw [he] at hI
    rw [← hx]
    cases keep with
    | true =>
      obtain ⟨rfl, rfl⟩ := h1 rfl
      refine ⟨F r, VRep.monoZ (fun b h => .inl h) hI, fun b hb => ⟨r, _, List.mem_singleton.2 rfl, rfl, hb⟩, fun r' s h => ?_⟩
      simp only [List.mem_singleton, Prod.mk.injEq] at h
      obtain ⟨rfl, rfl⟩ := h
      exact ⟨Nat.lt_succ_self _, .inl rfl⟩
    | false =>
      obtain ⟨rfl, rfl⟩ := h2 rfl
      refine ⟨fun _ => False, VRep.freeze (fun b h => .inl h) hq (fun b hb => .inr ⟨r, _, List.mem_singleton.2 rfl, by simp, hb⟩) hI, fun b h => h.elim, fun r' s h => ?_⟩
      simp only [List.mem_singleton, Prod.mk.injEq] at h
      obtain ⟨rfl, rfl⟩ := h
      exact ⟨Nat.lt_succ_self _, .inr ⟨t, q, y, he, hq, rfl⟩⟩
  have clean : ∀ {Fo : BSet} (t : Ty) (q : Ow) (y : t.den), VRep w Z t q y (a.eval x) Fo → q.clean = true → tv = ⟨t, .fr, y⟩ → u = [] →
      ∃ Fo, VRep w (fun b => Z b ∨ Iced u F b) tv.t tv.q tv.x (a.eval x) Fo ∧ (∀ b, Fo b → Freed u F b) ∧ Eaten σ u := by
    rintro Fo t q y h1 h2 rfl rfl
    refine ⟨fun _ => False, ?_, fun b h => h.elim, eaten_nil⟩
    rw [iced_nil]
    exact h1.toFr h2
  cases x with
  | tmp r =>
    simp only [given, Rd.val] at hv
    have hI := I.ent r
    have hC := I.refCopy r
    generalize hee : (σ.at r).e = e at hv hI hC
    cases e with
    | val t q y =>
      simp only at hv
      split at hv
      · rename_i hq
        simp only [Rd.val, Option.some.injEq, Prod.mk.injEq] at hv
        exact clean t q y hI hq hv.1.symm hv.2.symm
      · split at hv
        · rename_i hq
          refine root r t q y hee hq rfl (fun hk => ?_) (fun hk => ?_)
          · subst hk; simp only [if_true, Rd.val, Option.some.injEq, Prod.mk.injEq] at hv; exact ⟨hv.1.symm, hv.2.symm⟩
          · subst hk; simp only [Bool.false_eq_true, if_false, Rd.val, Option.some.injEq, Prod.mk.injEq] at hv; exact ⟨hv.1.symm, hv.2.symm⟩
        · cases hv
    | sref r' v p win =>
      cases p with
      | nil =>
        cases win with
        | none =>
          simp only [Rd.val] at hv
          split at hv
          · rename_i T' e' q y hr
            split at hv
            · rename_i hver
              split at hv
              · rename_i hq
                obtain ⟨h1, T2, te, q2, xs, l, H, h3, h4, h5, h6⟩ := hC.2 hver ⟨.sl T' e', .own q, y⟩ (by rw [hr]; rfl)
                simp only [pathLoc, Option.some.injEq] at h4
                subst h4
                simp only [WinRep] at h6
                have hI' := I.ent r'
                rw [hr] at hI'
                have h0 := hI'.1
                rw [hI'.scalar rfl] at h0
                obtain ⟨V', cells, Fe, hV, ho, _⟩ := h0
                simp only [List.cons.injEq, and_true] at hV
                have hx : tm a r' = a.eval (.tmp r) := by
                  show tm a r' = tm a r
                  rw [h6]
                  rw [hV] at h5 ⊢
                  rcases ho.2 with ⟨rfl, _⟩ | ⟨g, cap, cur, rfl, _⟩
                  · simpa [rootLoc, Loc.header] using h5
                  · simpa [rootLoc, Loc.header] using h5
                refine root r' _ _ _ hr (by simpa [Ow.whole] using hq) hx (fun hk => ?_) (fun hk => ?_)
                · subst hk; simp only [if_true, Rd.val, Option.some.injEq, Prod.mk.injEq] at hv; rw [hver]; exact ⟨hv.1.symm, hv.2.symm⟩
                · subst hk; simp only [Bool.false_eq_true, if_false, Rd.val, Option.some.injEq, Prod.mk.injEq] at hv; rw [hver]; exact ⟨hv.1.symm, hv.2.symm⟩
              · cases hv
            · cases hv
          · cases hv
        | some wn => cases hv
      | cons s p => cases hv
    | _ => cases hv
  | const c =>
    simp only [given] at hv
    split at hv
    · rename_i t q y hc
      obtain ⟨t', q', y', he, hq, hr⟩ := constEnt_ok (w := w) (Z := Z) hc
      cases he
      split at hv
      · rename_i hq'
        simp only [Rd.val, Option.some.injEq, Prod.mk.injEq] at hv
        exact clean t q y hr hq' hv.1.symm hv.2.symm
      · rename_i hq'
        simp only [Rd.val, Option.some.injEq, Prod.mk.injEq] at hv
        obtain ⟨rfl, rfl⟩ := hv
        refine ⟨fun _ => False, ?_, fun b h => h.elim, eaten_nil⟩
        rw [iced_nil]
        rcases hq with rfl | ⟨rfl, T', e', rfl⟩
        · exact absurd rfl hq'
        · cases keep with
          | true => exact hr
          | false =>
            simp only [Bool.false_eq_true, if_false]
            -- a nil slice, frozen
            unfold constEnt at hc
            cases c <;> simp only at hc <;> try (cases hc; done)
            · split at hc
              · rename_i hn
                split at hc
                · simp only [Option.some.injEq] at hc
                  cases hc
                  show VRep w Z _ _ _ (Value.slice _ _ _) _
                  rw [isNil_eq hn]
                  exact .mk1 rfl (by simp) ⟨none, 0, [], rfl, fun _ h => h, Nat.le_refl _, Nat.zero_le _, fun h => absurd rfl h, rfl, fun _ h => h⟩
                · cases hc
              · cases hc
            · split at hc
              · split at hc
                · split at hc
                  · cases hc
                  · cases hc
                · cases hc
              · cases hc
    · cases hv
  | func f => cases hv
  | global g => cases hv
end
end Go.K

/- K, part T: boxes, structs, slices that are built. -/
set_option linter.unusedVariables false
set_option linter.unusedSimpArgs false
namespace Go.K
variable [drI : Dr]
section
variable {P : Program} {X : FC} {B : Nat} {M Z0 : BSet} {w0 : World} {σ : St} {a : Act} {w : World} {Z : BSet} {F : Nat → BSet}

theorem allArgs_ok {w : World} {Z : BSet} : ∀ {cs : List Cap} {as : List Arg} {Vs : List Value}, allArgs cs = some as → CapsOK w Z cs Vs → FReps w Z as Vs
  | [], as, Vs, h, hc => by
    simp only [allArgs, Option.some.injEq] at h
    subst h
    simp only [CapsOK] at hc
    subst hc
    exact .nil
  | .arg x :: cs, as, Vs, h, hc => by
    simp only [allArgs] at h
    split at h
    · rename_i l hl
      simp only [Option.some.injEq] at h
      subst h
      obtain ⟨V, Vs', rfl, h1, h2⟩ := hc
      exact .cons (h1 x rfl) (allArgs_ok hl h2)
    · cases h
  | .root r v :: cs, as, Vs, h, hc => by simp [allArgs] at h
theorem notIn_ok {d : Nat} {u : Upd} (h : notIn (some d) u = true) : d ∉ u.map (·.1) := by
  simpa [notIn] using h
theorem eaten_one_distinct {C : Ctx} {T : Nat} {h : Ow} {keep : Bool} {x : Operand} {tv : TV} {u : Upd} (hv : (given C T h keep x).val σ = some (tv, u)) : distinct (u.map (·.1)) = true := by
  have key : u.length ≤ 1 := by
    cases x with
    | tmp r =>
      simp only [given, Rd.val] at hv
      split at hv
      · split at hv
        · simp only [Rd.val, Option.some.injEq, Prod.mk.injEq] at hv; rw [← hv.2]; simp
        · split at hv
          · split at hv <;> (simp only [Rd.val, Option.some.injEq, Prod.mk.injEq] at hv; rw [← hv.2]; simp)
          · cases hv
      · simp only [Rd.val] at hv
        split at hv
        · split at hv
          · split at hv
            · split at hv <;> (simp only [Rd.val, Option.some.injEq, Prod.mk.injEq] at hv; rw [← hv.2]; simp)
            · cases hv
          · cases hv
        · cases hv
      · cases hv
    | const c =>
      simp only [given] at hv
      split at hv
      · split at hv <;> (simp only [Rd.val, Option.some.injEq, Prod.mk.injEq] at hv; rw [← hv.2]; simp)
      · cases hv
    | func f => cases hv
    | global g => cases hv
  match u, key with
  | [], _ => rfl
  | [x], _ => simp [distinct]
theorem assignOwn_ok (I : Inv B M Z0 w0 σ a w Z F) {C : Ctx} {o : Oper} {T : Nat} {x : Operand} (ho : o.op = .assign x) : OpOK P B M Z0 w0 σ a w o (opAssignOwn C o.dst T x) := by
  intro out hv u hu Q
  have hrun := run_assign (P := P) (a := a) (w := w) ho
  obtain ⟨⟨tv, u'⟩, h5, hv1⟩ := Rd.bind_some hv
  simp only at hv1
  split at hv1
  · rename_i hd1
    obtain ⟨hT3, hT4⟩ := hd1
    obtain ⟨d, hd, rfl⟩ := put_val hv1
    simp only [Out.run, Option.some.injEq] at hu
    subst hu
    rw [hd] at hT4
    obtain ⟨Fo', h6, h7, h8⟩ := given_ok I h5
    exact ok_put (Fe := Fo') (e := .val tv.t tv.q tv.x) I hd hrun h8 hT3 (notIn_ok hT4) (Ext.refl _ _) h6 (fun b hb => .inl (h7 b hb)) trivial Q
  · cases hv1
theorem fieldIce_ok (K : CtxOK P X) (I : Inv B M Z0 w0 σ a w Z F) {o : Oper} {T f : Nat} {x : Operand} (ho : o.op = .fieldAddr T x f) : OpOK P B M Z0 w0 σ a w o (opFieldIce X.C o.dst T x f) := by
  intro out hv u hu Q
  have hex : execOp a.eval o = (Instr.fieldAt T (a.eval x) f >>= fun v => pure (Next.value v)) := by unfold execOp; rw [ho]
  obtain ⟨⟨tv0, u'⟩, h5, hv1⟩ := Rd.bind_some hv
  simp only at hv1
  split at hv1
  · rename_i t y
    split at hv1
    · rename_i tv htv
      split at hv1
      · rename_i hT
        obtain ⟨hT1, hT2, hT3, hT4⟩ := hT
        obtain ⟨d, hd, rfl⟩ := put_val hv1
        simp only [Out.run, Option.some.injEq] at hu
        subst hu
        rw [hd] at hT4
        obtain ⟨Fo', h6, h7, h8⟩ := given_ok I h5
        obtain ⟨ad, cells, hV, hs, hz, hc, hr⟩ := VRep.ptrFr h6
        obtain ⟨pre, ci, post, Fi, Fr, rfl, hlen, hj, hri, hput⟩ := hr.fld htv
        have hri' : Rep w (fun b => Z b ∨ Iced u' F b) tv.t .fr tv.x ci (fun _ => False) := by
          have h8 := hri.toFr (fldAt_clean htv rfl)
          have e := (h8.e0 rfl).eq
          rw [e] at h8; exact h8
        refine ok_put (Fe := fun _ => False) (e := .val (.ptr tv.t) .fr tv.x) I (more := u') hd (addr_run hex (by rw [hV]; exact K.field hT1 htv hT2)) h8 hT3 (notIn_ok hT4) (Ext.refl _ _) ?_ (fun b h => h.elim) trivial Q
        refine VRep.ofPtr (add_spot _ hs _) (by rw [add_block]; exact hz) ?_ hri'
        rw [← hlen]
        exact hc.midA hs
      · cases hv1
    · cases hv1
  · cases hv1
theorem box_ok (I : Inv B M Z0 w0 σ a w Z F) {C : Ctx} {o : Oper} {T : Nat} {x : Operand} (ho : o.op = .box T x) : OpOK P B M Z0 w0 σ a w o (opBox C o.dst T x) := by
  intro out hv u hu Q
  have hex : execOp a.eval o = (Instr.box T (a.eval x) >>= fun v => pure (Next.value v)) := by unfold execOp; rw [ho]
  have hrun : (execOp a.eval o).run P w = .ok (.value (.pointer (some ⟨w.heap.size, 0, none⟩))) (w.alloc (.cells (a.eval x).cells T)) := by
    refine addr_run hex ?_
    unfold Instr.box
    rw [Sem.run_bind, run_newVar]; rfl
  obtain ⟨e, he, hv1⟩ := Rd.bind_some hv
  replace hv := hv1
  clear hv1
  obtain ⟨Fo, h3, h4⟩ := opd_ref I he
  split at hv
  · rename_i g first caps
    split at hv
    · rename_i cs hcs
      obtain ⟨h0, fs, vs, hV, h1, h2⟩ := h3
      have h5 := allArgs_ok hcs h2
      obtain ⟨d, hd, rfl⟩ := put_val hv
      simp only [Out.run, Option.some.injEq] at hu
      subst hu
      refine ok_put (Fe := fun b => b = w.heap.size) (e := .fbox g first cs) I (more := []) hd hrun eaten_nil rfl (by simp) (Ext.alloc w _) ?_ (by rintro b rfl; exact .inr ⟨Nat.le_refl _, by simp⟩) trivial Q
      rw [iced_nil]
      refine ⟨w.heap.size, T, a.eval x, rfl, ?_, ?_, fun b => Iff.rfl⟩
      · rw [heap_alloc_new, hV]; rfl
      · rw [hV]
        exact FRep.frame (fun b hb => ⟨hb, heap_alloc_old w _ (I.z b hb).2⟩) (.fn h1 h5)
    · cases hv
  · obtain ⟨⟨tv, u'⟩, h5, hv1⟩ := Rd.bind_some hv
    simp only at hv1
    split at hv1
    · rename_i hn
      obtain ⟨d, hd, rfl⟩ := put_val hv1
      simp only [Out.run, Option.some.injEq] at hu
      subst hu
      rw [hd] at hn
      obtain ⟨Fo', h6, h7, h8⟩ := given_ok I h5
      have hlt : ∀ b, Fo' b → b < w.heap.size := fun b hb => by
        obtain ⟨r, s, _, _, h⟩ := h7 b hb
        exact I.lt_size h
      have hzl : ∀ b, (Z b ∨ Iced u' F b) → b < w.heap.size := by
        rintro b (h | ⟨r, s, _, _, h⟩)
        · exact (I.z b h).2
        · exact I.lt_size h
      refine ok_put (Fe := fun b => b = w.heap.size ∨ Fo' b) (e := .val (.ptr tv.t) (.own tv.q) tv.x) I hd hrun h8 (eaten_one_distinct h5) (notIn_ok hn) (Ext.alloc w _) (newRoot h6.1 hlt hzl) ?_ trivial Q
      rintro b (rfl | h)
      · exact .inr ⟨Nat.le_refl _, by simp⟩
      · exact .inl (h7 b h)
    · cases hv1

theorem madeCells_list (z : Array Value) : ∀ c : Nat, 0 < z.size → (madeCells z (c * z.size)).toList = (List.replicate c z.toList).flatten
  | 0, h => by simp [madeCells]
  | c + 1, h => by
    have ih := madeCells_list z c h
    rw [List.replicate_succ, List.flatten_cons, ← ih]
    simp only [madeCells, Array.toList_map, Array.toList_range]
    rw [show (c + 1) * z.size = z.size + c * z.size by rw [Nat.add_mul]; omega, List.range_add, List.map_append, List.map_map]
    congr 1
    · apply List.ext_getElem
      · simp
      · intro i h1 h2
        simp at h1
        simp [Nat.mod_eq_of_lt h1, getElem!_pos, h1]
    · apply List.map_congr_left
      intro j _
      simp [Nat.add_mod_left]
theorem makeSlice_ok (K : CtxOK P X) (I : Inv B M Z0 w0 σ a w Z F) {o : Oper} {T : Nat} {n c : Operand} (ho : o.op = .makeSlice T n c) : OpOK P B M Z0 w0 σ a w o (opMakeSlice X.C o.dst T n c) := by
  intro out hv u hu Q
  have hex : execOp a.eval o = (Instr.makeSlice T (a.eval n) (a.eval c) >>= fun v => pure (Next.value v)) := by unfold execOp; rw [ho]
  unfold opMakeSlice at hv
  split at hv
  · rename_i Te e hT
    split at hv
    · cases hv
    · rename_i hz
      simp only [Bool.not_eq_true', Bool.not_eq_false, Bool.and_eq_true] at hz
      obtain ⟨n', hn, hv1⟩ := Rd.bind_some hv
      obtain ⟨c', hc, hv2⟩ := Rd.bind_some hv1
      obtain ⟨kn, en⟩ := rdInt_ok I hn
      obtain ⟨kc, ec⟩ := rdInt_ok I hc
      obtain ⟨d, hd, rfl⟩ := putIf_val hv2
      obtain ⟨hb, rfl⟩ := run_br hu
      simp only [Bool.and_eq_true, decide_eq_true_eq] at hb
      obtain ⟨e1, e2, e3⟩ := K.under hT
      obtain ⟨i, z, h1, h2, h4, h5⟩ := K.zero e2 hz.1
      obtain ⟨i', h6, h7, h8⟩ := K.bytes T Te e hT
      rw [h1] at h6
      cases h6
      have hc0 : 0 ≤ c' := by omega
      have hcm : c' ≤ c' * (X.C.bytes T : Int) := by
        have : (1 : Int) ≤ X.C.bytes T := by rw [← h7]; omega
        calc c' = c' * 1 := by omega
          _ ≤ c' * (X.C.bytes T : Int) := Int.mul_le_mul_of_nonneg_left this hc0
      have hrun := run_make (P := P) w T Te i z e1 h1 h4 kn kc n' c' hb.1.1 hb.1.2 (by rw [h7, Int.mul_comm]; omega) (by omega)
      rw [← en, ← ec] at hrun
      have hzs : z.cells.size = e.cells := by
        have := (zero_rep w Z hz.1 hz.2).length
        rw [← h5] at this
        simpa using this
      have hcl : (madeCells z.cells (c'.toNat * i.size)).toList = (List.replicate c'.toNat (zcells e)).flatten := by
        rw [h2, ← hzs, madeCells_list _ _ (by rw [hzs]; exact e3), h5]
      have hlen : (zcells e).length = e.cells := (zero_rep w Z hz.1 hz.2).length
      refine ok_put (Fe := fun b => b = w.heap.size) (e := .val (.sl Te e) (.own (X.C.hint (o.dst.getD 0))) (List.replicate n'.toNat e.zero)) I (more := []) hd (addr_run hex hrun) eaten_nil rfl (by simp) (Ext.alloc w _) ?_ (by rintro b rfl; exact .inr ⟨Nat.le_refl _, by simp⟩) trivial Q
      rw [iced_nil]
      have hflat : ∀ (m k : Nat) (l : List Value), m ≤ k → ((List.replicate k l).flatten).take (m * l.length) = (List.replicate m l).flatten := by
        intro m k l hmk
        obtain ⟨j, rfl⟩ : ∃ j, k = m + j := ⟨k - m, by omega⟩
        rw [← List.replicate_append_replicate, List.flatten_append]
        exact List.take_left' (by simp)
      refine .mk1 rfl (by simp) ⟨_, (List.replicate n'.toNat (zcells e)).flatten, fun _ => False, rfl, ⟨by simp [hlen], .inr ⟨w.heap.size, c'.toNat, madeCells z.cells (c'.toNat * i.size), by simp, Nat.zero_le _, heap_alloc_new w _, by simp; omega, ?_, ?_, ?_⟩⟩, ?_, fun b => ?_, fun b _ h => h.elim⟩
      · simp only [maxLen]; omega
      · rw [size_madeCells, h2]
      · rw [hcl, List.length_replicate, ← hlen]
        exact hflat _ _ _ (by omega)
      · exact elems_replicate ((zero_rep w Z hz.1 hz.2).frame (fun b hb => ⟨hb, heap_alloc_old w _ (I.z b hb).2⟩) (fun b h => h.elim)) _
      · simp [Value.ownBlock, eq_comm]
  · cases hv
end
end Go.K

/- K, part U: structs and slices that are built. -/
set_option linter.unusedVariables false
set_option linter.unusedSimpArgs false
namespace Go.K
variable [drI : Dr]
section
variable {P : Program} {X : FC} {B : Nat} {M Z0 : BSet} {w0 : World} {σ : St} {a : Act} {w : World} {Z : BSet} {F : Nat → BSet}

def PartsRep (w : World) (Z : BSet) : List (Nat × TV) → List (Nat × Value) → BSet → Prop
  | [], vs, Fo => vs = [] ∧ E0 Fo
  | (i, tv) :: l, vs, Fo => ∃ V vs' F1 F2, vs = (i, V) :: vs' ∧ VRep w Z tv.t tv.q tv.x V F1 ∧ PartsRep w Z l vs' F2 ∧ Join Fo F1 F2
theorem PartsRep.monoZ {w : World} {Z Z' : BSet} (h : ∀ b, Z b → Z' b) : ∀ {l : List (Nat × TV)} {vs : List (Nat × Value)} {Fo : BSet}, PartsRep w Z l vs Fo → PartsRep w Z' l vs Fo
  | [], _, _, hh => hh
  | (i, tv) :: l, _, _, ⟨V, vs', F1, F2, e, h1, h2, j⟩ => ⟨V, vs', F1, F2, e, h1.monoZ h, h2.monoZ h, j⟩
theorem distinct_append {u v : List Nat} (h : distinct (u ++ v) = true) : distinct u = true ∧ distinct v = true ∧ ∀ r, r ∈ u → r ∈ v → False := by
  induction u with
  | nil => exact ⟨rfl, h, fun r h => by cases h⟩
  | cons x u ih =>
    simp only [List.cons_append, distinct, Bool.and_eq_true, Bool.not_eq_true', List.contains_eq_mem, decide_eq_false_iff_not, List.mem_append, not_or] at h
    obtain ⟨h1, h2, h3⟩ := ih h.2
    refine ⟨by simp only [distinct, Bool.and_eq_true, Bool.not_eq_true', List.contains_eq_mem, decide_eq_false_iff_not]; exact ⟨h.1.1, h1⟩, h2, fun r hr hr' => ?_⟩
    rcases List.mem_cons.1 hr with rfl | hr
    · exact h.1.2 hr'
    · exact h3 r hr hr'
/-- What is freed by distinct roots is apart. -/
theorem freed_apart (I : Inv B M Z0 w0 σ a w Z F) {u v : Upd} (h : distinct ((u ++ v).map (·.1)) = true) {b : Nat} (h1 : Freed u F b) (h2 : Freed v F b) : False := by
  rw [List.map_append] at h
  obtain ⟨_, _, h3⟩ := distinct_append h
  obtain ⟨r, s, h4, _, h5⟩ := h1
  obtain ⟨r', s', h6, _, h7⟩ := h2
  have := I.disj r r' b h5 h7
  subst this
  exact h3 r (List.mem_map.2 ⟨_, h4, rfl⟩) (List.mem_map.2 ⟨_, h6, rfl⟩)
theorem parts_ok (I : Inv B M Z0 w0 σ a w Z F) {C : Ctx} {ts : Nat → Nat} {h : Ow} {keep : Bool} : ∀ {ps : List (Nat × Operand)} {l : List (Nat × TV)} {u : Upd}, (parts C ts h keep ps).val σ = some (l, u) → distinct (u.map (·.1)) = true →
    ∃ Fo, PartsRep w (fun b => Z b ∨ Iced u F b) l (ps.map fun p => (p.1, a.eval p.2)) Fo ∧ (∀ b, Fo b → Freed u F b) ∧ Eaten σ u
  | [], l, u, hv, hd => by
    simp only [parts, Rd.val, Option.some.injEq, Prod.mk.injEq] at hv
    obtain ⟨rfl, rfl⟩ := hv
    exact ⟨fun _ => False, ⟨rfl, fun _ h => h⟩, fun b h => h.elim, eaten_nil⟩
  | (i, o) :: ps, l, u, hv, hd => by
    obtain ⟨⟨tv, u1⟩, h1, hv1⟩ := Rd.bind_some hv
    obtain ⟨⟨l', u2⟩, h2, hv2⟩ := Rd.bind_some hv1
    simp only [Rd.val, Option.some.injEq, Prod.mk.injEq] at hv2
    obtain ⟨rfl, rfl⟩ := hv2
    obtain ⟨F1, g1, g2, g3⟩ := given_ok I h1
    obtain ⟨d1, d2, d3⟩ := distinct_append (by rw [← List.map_append]; exact hd)
    obtain ⟨F2, p1, p2, p3⟩ := parts_ok I h2 d2
    refine ⟨fun b => F1 b ∨ F2 b, ⟨_, _, F1, F2, rfl, g1.monoZ fun b hb => hb.imp id fun h => iced_append.2 (.inl h), p1.monoZ fun b hb => hb.imp id fun h => iced_append.2 (.inr h), fun b => Iff.rfl, fun b hb hb' => freed_apart I hd (g2 b hb) (p2 b hb')⟩, ?_, g3.append p3⟩
    rintro b (hb | hb)
    · exact freed_append.2 (.inl (g2 b hb))
    · exact freed_append.2 (.inr (p2 b hb))

theorem fill_list : ∀ (vs : List Value) (k off : Nat) (cells : Array Value) (pre old post : List Value), cells.toList = pre ++ old ++ post → old.length = vs.length → pre.length = off + k →
    ((vs.zipIdx k).foldl (fun cs (x : Value × Nat) => cs.setIfInBounds (off + x.2) x.1) cells).toList = pre ++ vs ++ post
  | [], k, off, cells, pre, old, post, h, hl, hp => by
    have : old = [] := List.length_eq_zero_iff.1 hl
    subst this
    simpa using h
  | v :: vs, k, off, cells, pre, old, post, h, hl, hp => by
    match old, hl with
    | o :: old, hl =>
      simp only [List.zipIdx_cons, List.foldl_cons]
      have := fill_list vs (k + 1) off (cells.setIfInBounds (off + k) v) (pre ++ [v]) old post (by
        rw [Array.toList_setIfInBounds, h, ← hp]
        simp [List.set_append]) (by simpa using hl) (by simp; omega)
      rw [this]
      simp
theorem fill_step {place : Nat → Option (Nat × Nat)} {cells : Array Value} {i : Nat} {V : Value} {rest : List (Nat × Value)} {off : Nat} {pre old post : List Value} (hp : place i = some (off, V.cells.size))
    (h : cells.toList = pre ++ old ++ post) (ho : old.length = V.cells.size) (hl : pre.length = off) :
    ∃ cells', Instr.fill place cells ((i, V) :: rest) = Instr.fill place cells' rest ∧ cells'.toList = pre ++ V.cells.toList ++ post := by
  refine ⟨V.cells.zipIdx.foldl (fun cs (x : Value × Nat) => cs.setIfInBounds (off + x.2) x.1) cells, ?_, ?_⟩
  · have hs : ¬ (off + V.cells.size > cells.size) := by
      have : cells.size = cells.toList.length := by simp
      rw [this, h]
      simp only [List.length_append]
      omega
    simp only [Instr.fill, hp, ne_eq, not_true_eq_false, decide_false, Bool.false_or, decide_eq_true_eq, hs, if_false, Bool.false_eq_true, decide_eq_false_iff_not, Bool.or_eq_true, or_self]
  · rw [← Array.foldl_toList, Array.toList_zipIdx]
    exact fill_list V.cells.toList 0 off cells pre old post h (by simpa using ho) (by omega)
theorem setFld_fldAt : ∀ {t : Ty} {q : Ow} {x : t.den} {i : Nat} {u : TV} {r : Ow × t.den}, TV.setFld t q x i u = some r → ∃ c, TV.fldAt t q x i = some c ∧ c.t = u.t
  | .pair a b, q, x, 0, u, r, h => by
    simp only [TV.setFld] at h
    split at h
    · rename_i e; exact ⟨_, rfl, e.symm⟩
    · cases h
  | .pair a b, q, x, n + 1, u, r, h => by
    simp only [TV.setFld, Option.map_eq_some_iff] at h
    obtain ⟨r', h1, _⟩ := h
    obtain ⟨c, h2, h3⟩ := setFld_fldAt h1
    exact ⟨c, by simpa only [TV.fldAt] using h2, h3⟩
/-- A struct is filled. -/
theorem fill_ok {w : World} {Z : BSet} {ty : Nat → Option Ty} {fs : List Field} {place : Nat → Option (Nat × Nat)} {t : Ty} (hf : fieldsOK ty fs t 0 = true)
    (hp : ∀ (i : Nat) (f : Field) (tf : Ty), fs[i]? = some f → ty f.type = some tf → place i = some (f.offset, tf.cells)) :
    ∀ (l : List (Nat × TV)) {vs : List (Nat × Value)} {q : Ow} {x : t.den} {cells : Array Value} {Fo Fl : BSet} {v' : TV}, PartsRep w Z l vs Fl → Rep w Z t q x cells.toList Fo → (∀ b, Fo b → Fl b → False) → fillFlds ⟨t, q, x⟩ l = some v' →
    ∃ cells' F', Instr.fill place cells vs = some cells' ∧ v'.t = t ∧ Rep w Z v'.t v'.q v'.x cells'.toList F' ∧ ∀ b, F' b → Fo b ∨ Fl b
  | [], vs, q, x, cells, Fo, Fl, v', h1, h2, hd, h3 => by
    obtain ⟨rfl, _⟩ := h1
    simp only [fillFlds, Option.some.injEq] at h3
    subst h3
    exact ⟨cells, Fo, rfl, rfl, h2, fun b h => .inl h⟩
  | (i, u) :: l, vs, q, x, cells, Fo, Fl, v', h1, h2, hd, h3 => by
    obtain ⟨V, vs', F1, F2, rfl, r1, r2, j⟩ := h1
    simp only [fillFlds] at h3
    split at h3
    · rename_i q' x' hset
      obtain ⟨c, hc, hct⟩ := setFld_fldAt hset
      obtain ⟨f, g1, g2, g3⟩ := fields_at hf hc
      obtain ⟨pre, ci, post, Fi, Fr, e1, e2, j2, r3, hput⟩ := h2.fld hc
      have hVs : V.cells.size = u.t.cells := by
        have := r1.1.length
        simpa using this
      rw [Nat.zero_add] at g3
      obtain ⟨cells', s1, s2⟩ := fill_step (rest := vs') (place := place) (i := i) (off := fldOff t i) (by rw [hp i f _ g1 g2, g3, hct, hVs]) e1 (by rw [r3.length, hct, hVs]) e2
      obtain ⟨F', j3, r4⟩ := hput w Z u V.cells.toList F1 q' x' hset r1.1 (fun b hb hb' => hd b (j2.right hb') (j.left hb)) (fun b hb => ⟨hb, rfl⟩) (fun b hb => rfl)
      rw [← s2] at r4
      obtain ⟨cells'', F'', t1, t2, t3, t4⟩ := fill_ok hf hp l r2 r4 (fun b hb hb' => by
        rcases (j3.1 b).1 hb with hb | hb
        · exact j.2 b hb hb'
        · exact hd b (j2.right hb) (j.right hb')) h3
      refine ⟨cells'', F'', by rw [s1]; exact t1, t2, t3, fun b hb => ?_⟩
      rcases t4 b hb with hb | hb
      · rcases (j3.1 b).1 hb with hb | hb
        · exact .inr (j.left hb)
        · exact .inl (j2.right hb)
      · exact .inr (j.right hb)
    · cases h3
theorem run_places (K : CtxOK P X) : ∀ {fs : List Field} {t : Ty} {o : Nat}, fieldsOK X.C.ty fs t o = true → ∃ l : List (Nat × Nat), (fs.mapM fun f => (do pure (f.offset, ← sizeOf f.type) : Sem (Nat × Nat))).run P w = .ok l w ∧
      ∀ (i : Nat) (f : Field) (tf : Ty), fs[i]? = some f → X.C.ty f.type = some tf → l[i]? = some (f.offset, tf.cells)
  | [], t, o, h => ⟨[], rfl, fun i f tf h => by simp at h⟩
  | f :: fs, t, o, h => by
    cases t <;> simp only [fieldsOK] at h <;> try (cases h; done)
    rename_i t1 t2
    simp only [Bool.and_eq_true, beq_iff_eq, bne_iff_ne, ne_eq] at h
    obtain ⟨l, h1, h2⟩ := run_places K h.2
    refine ⟨(f.offset, t1.cells) :: l, ?_, fun i g tf hi ht => ?_⟩
    · rw [List.mapM_cons, Sem.run_bind, Sem.run_bind, K.sizeOf h.1.1.2]
      simp only [Result.andThen, Sem.run_pure]
      rw [Sem.run_bind, h1]
      rfl
    · cases i with
      | zero =>
        simp only [List.getElem?_cons_zero, Option.some.injEq] at hi
        subst hi
        rw [h.1.1.2] at ht
        simp only [Option.some.injEq] at ht
        subst ht
        rfl
      | succ i => exact h2 i g tf (by simpa using hi) ht
theorem Rep.norm {w : World} {Z : BSet} {t : Ty} {q : Ow} {x : t.den} {cs : List Value} {Fo : BSet} (h : Rep w Z t q x cs Fo) : Rep w Z t q.norm x cs Fo := by
  unfold Ow.norm
  split
  · rename_i hq; exact h.toFr hq
  · exact h
theorem fill_elems {w : World} {Z : BSet} {e : Ty} {h : Ow} : ∀ (l : List (Nat × TV)) {vs : List (Nat × Value)} {m : Nat} {ys : List e.den} {cells : Array Value} {dn rest : List Value} {Fl : BSet}, PartsRep w Z l vs Fl → elems e h m l = some ys →
    cells.toList = dn ++ rest → dn.length = m * e.cells → rest.length = ys.length * e.cells →
    ∃ cells' d2, Instr.fill (fun i => some (i * e.cells, e.cells)) cells vs = some cells' ∧ cells'.toList = dn ++ d2 ∧ ElemsRep (fun y => Rep w Z e h y) ys d2 Fl
  | [], vs, m, ys, cells, dn, rest, Fl, h1, h2, h3, h4, h5 => by
    obtain ⟨rfl, h0⟩ := h1
    simp only [elems, Option.some.injEq] at h2
    subst h2
    have : rest = [] := List.length_eq_zero_iff.1 (by simpa using h5)
    subst this
    exact ⟨cells, [], rfl, h3, rfl, h0⟩
  | (i, u) :: l, vs, m, ys, cells, dn, rest, Fl, h1, h2, h3, h4, h5 => by
    obtain ⟨V, vs', F1, F2, rfl, r1, r2, j⟩ := h1
    simp only [elems] at h2
    split at h2
    · rename_i him
      subst him
      split at h2
      · rename_i hut
        obtain ⟨ut, uq, ux⟩ := u
        simp only at hut
        subst hut
        split at h2
        · rename_i huq
          simp only at huq
          subst huq
          split at h2
          · rename_i ys' hys
            simp only [Option.some.injEq] at h2
            subst h2
            have hVs : V.cells.size = ut.cells := by
              have := r1.1.length
              simpa using this
            simp only [List.length_cons] at h5
            have hrl : ut.cells ≤ rest.length := by rw [h5, Nat.add_mul]; omega
            obtain ⟨cells', s1, s2⟩ := fill_step (rest := vs') (place := fun i => some (i * ut.cells, ut.cells)) (i := i) (V := V) (off := i * ut.cells) (cells := cells) (pre := dn) (old := rest.take ut.cells) (post := rest.drop ut.cells) (by rw [hVs])
              (by rw [h3, List.append_assoc, List.take_append_drop]) (by rw [List.length_take, hVs]; omega) h4
            obtain ⟨cells'', d2, t1, t2, t3⟩ := fill_elems l (m := i + 1) (cells := cells') (dn := dn ++ V.cells.toList) (rest := rest.drop ut.cells) r2 hys s2 (by
              rw [List.length_append, h4, Nat.add_mul]; simp [hVs]) (by rw [List.length_drop, h5, Nat.add_mul]; omega)
            exact ⟨cells'', V.cells.toList ++ d2, by rw [s1]; exact t1, by rw [t2, List.append_assoc], _, _, F1, F2, rfl, r1.1, t3, j⟩
          · cases h2
        · cases h2
      · cases h2
    · cases h2
theorem elems_fr {w : World} {Z : BSet} {e : Ty} : ∀ {xs : List e.den} {cs : List Value} {F : BSet}, ElemsRep (fun y => Rep w Z e .fr y) xs cs F → ElemsRep (fun y => Rep w Z e .fr y) xs cs (fun _ => False)
  | [], _, _, h => ⟨h.1, fun _ h => h⟩
  | x :: xs, _, _, ⟨c1, c2, F1, F2, e1, h1, h2, j⟩ => by
    have h3 := (h1.e0 rfl).eq
    rw [h3] at h1
    exact ⟨c1, c2, _, _, e1, h1, elems_fr h2, Join.none⟩
theorem build_ok (K : CtxOK P X) (I : Inv B M Z0 w0 σ a w Z F) {o : Oper} {T : Nat} {ps : Array (Nat × Operand)} {ft : Nat → Nat → Nat} (ho : o.op = .build T ps) : OpOK P B M Z0 w0 σ a w o (opBuild X.C ft o.dst T ps.toList) := by
  intro out hv u hu Q
  have hex : execOp a.eval o = (Instr.build T (ps.map fun p => (p.1, a.eval p.2)) >>= fun v => pure (Next.value v)) := by unfold execOp; rw [ho]
  unfold opBuild at hv
  split at hv
  · rename_i t1 t2 hT
    split at hv
    · rename_i hz
      obtain ⟨⟨l, u'⟩, h1, hv1⟩ := Rd.bind_some hv
      simp only at hv1
      split at hv1
      · rename_i v hfill
        split at hv1
        · rename_i hd
          simp only [Bool.and_eq_true] at hd
          obtain ⟨Fl, p1, p2, p3⟩ := parts_ok I h1 hd.1
          obtain ⟨d, hdd, rfl⟩ := put_val hv1
          simp only [Out.run, Option.some.injEq] at hu
          subst hu
          rw [hdd] at hd
          obtain ⟨fs, e1, e2, _⟩ := K.under hT
          obtain ⟨z, z1, z2⟩ := K.zeroValue (w := w) hT hz
          obtain ⟨pl, l1, l2⟩ := run_places (w := w) K e2
          have hr := zero_rep w (fun b => Z b ∨ Iced u' F b) hz (hintOK_fr hz)
          rw [← z2] at hr
          obtain ⟨cells', F', f1, f2, f3, f4⟩ := fill_ok (place := fun i => pl.toArray[i]?) e2 (fun i f tf hi ht => by rw [List.getElem?_toArray]; exact l2 i f tf hi ht) l p1 hr (fun b h _ => h.elim) hfill
          have hrun : (Instr.build T (ps.map fun p => (p.1, a.eval p.2))).run P w = .ok (.agg cells') w := by
            unfold Instr.build
            rw [Sem.run_bind, z1]
            simp only [Result.andThen]
            rw [Sem.run_bind, run_underlying e1]
            simp only [Result.andThen]
            rw [Sem.run_bind]
            have hm : (Array.mapM (fun f => (do pure (f.offset, ← sizeOf f.type) : Sem (Nat × Nat))) fs).run P w = .ok pl.toArray w := by
              rw [← Array.toArray_toList (xs := fs), List.mapM_toArray, map_eq_pure_bind, Sem.run_bind, l1]
              rfl
            rw [hm]
            simp only [Result.andThen]
            rw [Array.toList_map, f1]
            rfl
          refine ok_put (Fe := F') (e := .val v.t v.q.norm v.x) I hdd (addr_run hex hrun) p3 hd.1 (notIn_ok hd.2) (Ext.refl _ _) ⟨?_, ?_⟩ (fun b hb => .inl (p2 b ((f4 b hb).resolve_left id))) trivial Q
          · simp only [Value.cells]; exact f3.norm
          · rw [f2]; simp [Ty.isAgg]
        · cases hv1
      · cases hv1
    · cases hv
  · rename_i m e hT
    split at hv
    · rename_i hz
      split at hv
      · rename_i hem
        have hps : ps.toList = [] := by simpa using hem
        obtain ⟨Te, e1, e2⟩ := K.under hT
        obtain ⟨z, z1, z2⟩ := K.zeroValue (w := w) hT hz
        refine ok_val I (V := .agg z.cells) (addr_run hex ?_) ⟨?_, by simp [Ty.isAgg]⟩ hv hu Q
        · unfold Instr.build
          rw [Sem.run_bind, z1]
          simp only [Result.andThen]
          rw [Sem.run_bind, run_underlying e1]
          simp only [Result.andThen]
          rw [Sem.run_bind, K.sizeOf e2]
          simp only [Result.andThen]
          rw [Array.toList_map, hps]
          rfl
        · show Rep w Z _ _ _ z.cells.toList _
          rw [z2]
          exact zero_rep w Z hz (hintOK_fr hz)
      obtain ⟨⟨l, u'⟩, h1, hv1⟩ := Rd.bind_some hv
      simp only at hv1
      split at hv1
      · rename_i xs hel
        split at hv1
        · rename_i hd
          obtain ⟨hlen, hd⟩ := hd
          simp only [Bool.and_eq_true] at hd
          obtain ⟨Fl, p1, p2, p3⟩ := parts_ok I h1 hd.1
          obtain ⟨d, hdd, rfl⟩ := put_val hv1
          simp only [Out.run, Option.some.injEq] at hu
          subst hu
          rw [hdd] at hd
          obtain ⟨Te, e1, e2⟩ := K.under hT
          obtain ⟨z, z1, z2⟩ := K.zeroValue (w := w) hT hz
          have hr := zero_rep w (fun b => Z b ∨ Iced u' F b) hz (hintOK_fr hz)
          rw [← z2] at hr
          have hzl : z.cells.toList.length = xs.length * e.cells := by
            have := hr.length
            rw [this, hlen]; rfl
          obtain ⟨cells', d2, f1, f2, f3⟩ := fill_elems (w := w) l (m := 0) (cells := z.cells) (dn := []) (rest := z.cells.toList) p1 hel rfl (by simp) hzl
          simp only [List.nil_append] at f2
          have hrun : (Instr.build T (ps.map fun p => (p.1, a.eval p.2))).run P w = .ok (.agg cells') w := by
            unfold Instr.build
            rw [Sem.run_bind, z1]
            simp only [Result.andThen]
            rw [Sem.run_bind, run_underlying e1]
            simp only [Result.andThen]
            rw [Sem.run_bind, K.sizeOf e2]
            simp only [Result.andThen]
            rw [Array.toList_map, f1]
            rfl
          have h0 : ElemsRep (fun y => Rep w (fun b => Z b ∨ Iced u' F b) e .fr y) xs d2 (fun _ => False) := elems_fr f3
          refine ok_put (Fe := fun _ => False) (e := .val (.arr m e) .fr xs) I hdd (addr_run hex hrun) p3 hd.1 (notIn_ok hd.2) (Ext.refl _ _) ⟨?_, ?_⟩ (fun b hb => hb.elim) trivial Q
          · simp only [Value.cells]
            rw [f2]
            exact .inl ⟨by simp, hlen, h0, fun _ h => h⟩
          · simp [Ty.isAgg]
        · cases hv1
      · cases hv1
    · cases hv
  · cases hv

theorem buildSlice_ok (K : CtxOK P X) (I : Inv B M Z0 w0 σ a w Z F) {o : Oper} {T n : Nat} {ps : Array (Nat × Operand)} {et : Nat → Nat} (ho : o.op = .buildSlice T n ps) : OpOK P B M Z0 w0 σ a w o (opBuildSlice X.C et o.dst T n ps.toList) := by
  intro out hv u hu Q
  have hex : execOp a.eval o = (Instr.buildSlice T n (ps.map fun p => (p.1, a.eval p.2)) >>= fun v => pure (Next.value v)) := by unfold execOp; rw [ho]
  unfold opBuildSlice at hv
  split at hv
  · rename_i Te e hT
    obtain ⟨⟨l, u'⟩, h1, hv1⟩ := Rd.bind_some hv
    simp only at hv1
    split at hv1
    · rename_i xs hel
      split at hv1
      · rename_i hlen
        obtain ⟨hxn, hsm, hz⟩ := hlen
        split at hv1
        · rename_i hd
          simp only [Bool.and_eq_true] at hd
          obtain ⟨Fl, p1, p2, p3⟩ := parts_ok I h1 hd.1
          obtain ⟨d, hdd, rfl⟩ := put_val hv1
          simp only [Out.run, Option.some.injEq] at hu
          subst hu
          rw [hdd] at hd
          obtain ⟨e1, e2, e3⟩ := K.under hT
          obtain ⟨i, z, z1, z2, z3, z4⟩ := K.zero e2 hz
          have hzs : z.cells.size = e.cells := by
            have := (zero_rep w Z hz (hintOK_fr hz)).length
            rw [← z4] at this
            simpa using this
          obtain ⟨cells', d2, f1, f2, f3⟩ := fill_elems (w := w) l (m := 0) (cells := (Array.range (n * i.size)).map (z.cells[· % z.cells.size]!)) (dn := []) (rest := ((Array.range (n * i.size)).map (z.cells[· % z.cells.size]!)).toList) p1 hel rfl (by simp) (by rw [hxn, z2]; simp)
          simp only [List.nil_append] at f2
          have hcs : cells'.size = n * e.cells := by
            have := f3.length (fun _ _ _ h => h.length)
            rw [← f2, hxn] at this
            simpa using this
          have hrun : (Instr.buildSlice T n (ps.map fun p => (p.1, a.eval p.2))).run P w = .ok (.slice (some ⟨w.heap.size, 0, none⟩) n n) (w.alloc (.cells cells' Te)) := by
            by_cases hn : n * i.size = 0
            · have hn0 : n = 0 := by
                rcases Nat.mul_eq_zero.1 hn with h | h
                · exact h
                · omega
              subst hn0
              have hxs : xs = [] := List.length_eq_zero_iff.1 hxn
              subst hxs
              have hl : l = [] := by
                cases l with
                | nil => rfl
                | cons y ys =>
                  obtain ⟨i', u''⟩ := y
                  simp only [elems] at hel
                  split at hel
                  · split at hel
                    · split at hel
                      · split at hel <;> cases hel
                      · cases hel
                    · cases hel
                  · cases hel
              subst hl
              obtain ⟨hp0, _⟩ := p1
              have hps : (ps.map fun p => (p.1, a.eval p.2)).toList = [] := by rw [Array.toList_map, hp0]
              have hc0 : cells' = #[] := by
                have : cells'.size = 0 := by rw [hcs]; simp
                exact Array.eq_empty_of_size_eq_zero this
              subst hc0
              unfold Instr.buildSlice
              rw [Sem.run_bind, run_underlying e1]
              simp only [Result.andThen]
              rw [Sem.run_bind, K.sizeOf e2]
              simp only [Result.andThen, hps, Instr.fill]
              simp [newRow, Array.range_zero', Result.andThen]
            · refine run_buildSlice w T Te n _ cells' i z e1 z1 z3 (by rw [z2]; omega) hn ?_
              rw [Array.toList_map, z2]
              rw [z2] at f1
              exact f1
          have hlt : ∀ b, Fl b → b < w.heap.size := fun b hb => by
            obtain ⟨r, s, _, _, h⟩ := p2 b hb
            exact I.lt_size h
          have hzl : ∀ b, (Z b ∨ Iced u' F b) → b < w.heap.size := by
            rintro b (h | ⟨r, s, _, _, h⟩)
            · exact (I.z b h).2
            · exact I.lt_size h
          have hnm : n ≤ maxLen := by
            have : n ≤ n * e.cells := Nat.le_mul_of_pos_right n e3
            simp only [maxLen]; omega
          refine ok_put (Fe := fun b => b = w.heap.size ∨ Fl b) (e := .val (.sl Te e) (.own (X.C.hint (o.dst.getD 0))) xs) I hdd (addr_run hex hrun) p3 hd.1 (notIn_ok hd.2) (Ext.alloc w _) ?_ ?_ trivial Q
          · refine .mk1 rfl (by simp) ⟨_, d2, Fl, rfl, ⟨by rw [← f2]; simp [hcs, hxn], .inr ⟨w.heap.size, n, cells', by rw [hxn], Nat.zero_le _, heap_alloc_new w _, by omega, hnm, hcs, ?_⟩⟩, ?_, fun b => ?_, fun b hb h => ?_⟩
            · rw [f2, hxn]
              refine List.take_of_length_le ?_
              rw [← f2]; simp [hcs]
            · exact f3.monoF (S := Fl) (fun _ _ _ hs h => h.frame (fun b hb => ⟨hb, heap_alloc_old w _ (hzl b hb)⟩) (fun b hb => heap_alloc_old w _ (hlt b (hs b hb)))) (fun _ h => h)
            · simp [Value.ownBlock, eq_comm]
            · simp only [Value.ownBlock, Option.some.injEq] at hb
              subst hb
              exact Nat.lt_irrefl _ (hlt _ h)
          · rintro b (rfl | h)
            · exact .inr ⟨Nat.le_refl _, by simp⟩
            · exact .inl (p2 b h)
        · cases hv1
      · cases hv1
    · cases hv1
  · cases hv
end
end Go.K

/- K, part V: a write. -/
set_option linter.unusedVariables false
set_option linter.unusedSimpArgs false
namespace Go.K
variable [drI : Dr]
section
variable {P : Program} {X : FC} {B : Nat} {M Z0 : BSet} {w0 : World} {σ : St} {a : Act} {w : World} {Z : BSet} {F : Nat → BSet}

theorem ElemsRep.own00 {w : World} {α : Type} {R : α → List Value → BSet → Prop} (h : ∀ x cs F, R x cs F → ∀ b, F b → (∃ cur T, w.heap[b]? = some (.cells cur T (0, 0))) ∨ ∃ es ck, w.heap[b]? = some (.map es ck)) : ∀ {xs : List α} {cs : List Value} {Fo : BSet}, ElemsRep R xs cs Fo → ∀ b, Fo b → (∃ cur T, w.heap[b]? = some (.cells cur T (0, 0))) ∨ ∃ es ck, w.heap[b]? = some (.map es ck)
  | [], _, _, hh, b, hb => (hh.2 b hb).elim
  | x :: xs, _, _, ⟨c1, c2, F1, F2, e, h1, h2, j⟩, b, hb => by
    rcases (j.1 b).1 hb with hb | hb
    · exact h _ _ _ h1 b hb
    · exact h2.own00 h b hb
/-- Owned blocks may be written. -/
theorem Rep.own00 {w : World} {Z : BSet} : ∀ {t : Ty} {q : Ow} {x : t.den} {cs : List Value} {Fo : BSet}, Rep w Z t q x cs Fo → ∀ b, Fo b → (∃ cur T, w.heap[b]? = some (.cells cur T (0, 0))) ∨ ∃ es ck, w.heap[b]? = some (.map es ck)
  | .int k, q, x, cs, Fo, h, b, hb => by rcases h with ⟨_, _, h⟩ | ⟨_, _, _, h⟩ <;> exact (h b hb).elim
  | .bool, q, x, cs, Fo, h, b, hb => by rcases h with ⟨_, _, h⟩ | ⟨_, _, _, h⟩ <;> exact (h b hb).elim
  | .str, q, x, cs, Fo, h, b, hb => by rcases h with ⟨_, _, h⟩ | ⟨_, _, _, h⟩ <;> exact (h b hb).elim
  | .unit, q, x, cs, Fo, h, b, hb => (h.2 b hb).elim
  | .pair t1 t2, q, x, cs, Fo, h, b, hb => by
    obtain ⟨c1, c2, F1, F2, rfl, h1, h2, j⟩ := h
    rcases (j.1 b).1 hb with hb | hb
    · exact h1.own00 b hb
    · exact h2.own00 b hb
  | .arr n e, q, x, cs, Fo, h, b, hb => by rcases h with ⟨_, _, _, h⟩ | ⟨_, _, _, h⟩ <;> exact (h b hb).elim
  | .sl T e, q, x, cs, Fo, h, b, hb => by
    cases q with
    | own q =>
      obtain ⟨V, cells, Fe, rfl, ho, hE, hF, hd⟩ := h
      rcases (hF b).1 hb with hb | hb
      · rcases ho.2 with ⟨rfl, _⟩ | ⟨g, cap, cur, rfl, _, hg, _⟩
        · cases hb
        · simp only [Value.ownBlock, Option.some.injEq] at hb
          subst hb
          exact .inl ⟨_, _, hg⟩
      · exact hE.own00 (fun _ _ _ h => h.own00) b hb
    | hole => exact (h.2.2 b hb).elim
    | fr => obtain ⟨A, c, cells, rfl, h0, _⟩ := h; exact (h0 b hb).elim
    | pr _ _ => obtain ⟨A, c, cells, rfl, h0, _⟩ := h; exact (h0 b hb).elim
  | .ptr t, q, x, cs, Fo, h, b, hb => by
    cases q with
    | own q =>
      obtain ⟨g, cur, T, Fe, rfl, hg, hr, hF, hd⟩ := h
      rcases (hF b).1 hb with rfl | hb
      · exact .inl ⟨_, _, hg⟩
      · exact hr.own00 b hb
    | hole => exact (h.2.2 b hb).elim
    | fr => obtain ⟨ad, cells, rfl, h0, _⟩ := h; exact (h0 b hb).elim
    | pr _ _ => obtain ⟨ad, cells, rfl, h0, _⟩ := h; exact (h0 b hb).elim
  | .mp k v, q, x, cs, Fo, h, b, hb => by
    cases q with
    | own q => obtain ⟨g, es, ck, rfl, hg, _, hF⟩ := h; obtain rfl := (hF b).1 hb; exact .inr ⟨_, _, hg⟩
    | hole => exact (h.2.2 b hb).elim
    | fr => exact (h.2.2 b hb).elim
    | pr _ _ => exact (h.2.2 b hb).elim
theorem root_val {e : Ent} {c : TV} (h : e.content = some c) : ∃ t q x, e = .val t (.own q) x ∧ ((t = .ptr c.t ∧ HEq x c.x ∧ q = c.q) ∨ ∃ T e', t = .sl T e') := by
  unfold Ent.content at h
  split at h
  · rename_i t q x
    simp only [Option.some.injEq] at h
    subst h
    exact ⟨_, _, _, rfl, .inl ⟨rfl, HEq.rfl, rfl⟩⟩
  · exact ⟨_, _, _, rfl, .inr ⟨_, _, rfl⟩⟩
  · cases h
/-- The root with its new content. -/
theorem ent_of_content {w w' : World} {Z Z' : BSet} {e0 e : Ent} {c c' : TV} {V : Value} {F0 F' : BSet} (h0 : EntOK w Z e0 V F0) (hc : e0.content = some c) (he : e0.withContent c' = some e) (hr : RepAt w' Z' c' (rootLoc V) F')
    (hg : ∀ g cur T, (rootLoc V) = .mem g 0 → w.heap[g]? = some (.cells cur T (0, 0)) → ∃ cur', w'.heap[g]? = some (.cells cur' T (0, 0)) ∧ cur'.size = cur.size) :
    EntOK w' Z' e V (fun b => F' b ∨ (rootLoc V).blk = some b) := by
  unfold Ent.content at hc
  split at hc
  · rename_i t q x
    simp only [Option.some.injEq] at hc
    subst hc
    simp only [Ent.withContent] at he
    split at he
    · rename_i ht
      obtain ⟨t', q', x'⟩ := c'
      simp only at ht
      subst ht
      simp only [Option.some.injEq] at he
      subst he
      have hs := h0.scalar rfl
      obtain ⟨g, cur, T, Fe, hV, hh, hr0, hF, hd⟩ := h0.1
      rw [hs] at hV
      simp only [List.cons.injEq, and_true] at hV
      subst hV
      obtain ⟨cur', h1, h2⟩ := hg g cur T rfl hh
      obtain ⟨hn, cs, hcs, hr'⟩ := hr
      have hl : cs.length = cur'.toList.length := by
        have a1 := hr'.length
        have a2 := hr0.length
        simp only [Array.length_toList] at a2 ⊢
        rw [a1, h2, a2]
      have hce : cs = cur'.toList := by
        apply List.ext_getElem hl
        intro j hj hj'
        have h3 := hcs j cs[j] (List.getElem?_eq_getElem hj)
        rw [add_mem] at h3
        unfold World.cell? at h3
        simp only [h1, Nat.zero_add] at h3
        simp only [Array.length_toList] at hj'
        simp only [Option.isSome_none, Bool.false_eq_true, if_false, Array.getElem?_eq_getElem hj', Option.some.injEq] at h3
        simp [h3]
      subst hce
      refine .mk1 rfl (by simp) ⟨g, cur', T, F', rfl, h1, hr', fun b => ?_, hn⟩
      simp only [rootLoc, Loc.blk, Option.some.injEq]
      constructor
      · rintro (h | h)
        · exact .inr h
        · exact .inl h.symm
      · rintro (h | h)
        · exact .inr h.symm
        · exact .inl h
    · cases he
  · rename_i T e1 q x
    simp only [Option.some.injEq] at hc
    subst hc
    simp only [Ent.withContent] at he
    split at he
    · rename_i ht
      obtain ⟨t', q', x'⟩ := c'
      simp only at ht
      subst ht
      simp only at he
      split at he
      · rename_i q'
        simp only [Option.some.injEq] at he
        subst he
        have hs := h0.scalar rfl
        obtain ⟨V', cells, Fe, hV, ho, _⟩ := h0.1
        rw [hs] at hV
        simp only [List.cons.injEq, and_true] at hV
        subst hV
        have hroot : rootLoc V = .hdr V := by
          rcases ho.2 with ⟨rfl, _⟩ | ⟨g, cap, cur, rfl, _⟩ <;> rfl
        rw [hroot] at hr ⊢
        have : (fun b => F' b ∨ (Loc.hdr V).blk = some b) = F' := funext fun b => propext ⟨fun h => h.elim id (fun h => by cases h), .inl⟩
        rw [this]
        refine .mk1 rfl ?_ hr
        rintro cs rfl
        rcases ho.2 with ⟨h, _⟩ | ⟨g, cap, cur, h, _⟩ <;> cases h
      · cases he
    · cases he
  · cases hc

/-- Cells are written. -/
theorem store_mem {b o : Nat} {cur : Array Value} {T : TypeId} (hb : w.heap[b]? = some (.cells cur T (0, 0))) (cs : List Value) (h1 : ∀ v ∈ cs, v.oneCell' = true) (hl : o + cs.length ≤ cur.size) :
    ∃ cur', (storeCells ⟨b, o, none⟩ cs).run P w = .ok () (w.setRow b cur') ∧ (w.setRow b cur').heap[b]? = some (.cells cur' T (0, 0)) ∧ cur'.size = cur.size ∧ Reg w (w.setRow b cur') b o cs.length ∧ CellsAt (w.setRow b cur') ⟨b, o, none⟩ cs := by
  have hrun := run_storeCells_at P b o T cs 0 cur w hb (by omega) h1
  simp only [Nat.add_zero] at hrun
  have hlen : (cur.toList.take o ++ cs ++ cur.toList.drop (o + cs.length)).toArray.size = cur.size := by
    simp; omega
  have hg : ∀ i, (i < o ∨ o + cs.length ≤ i) → (cur.toList.take o ++ cs ++ cur.toList.drop (o + cs.length)).toArray[i]? = cur[i]? := by
    intro i hi
    simp only [List.getElem?_toArray]
    have hto : (cur.toList.take o).length = o := by simp; omega
    rcases hi with hi | hi
    · rw [List.append_assoc, List.getElem?_append_left (by omega), List.getElem?_take]
      simp [hi]
    · rw [List.getElem?_append_right (by simp; omega), List.getElem?_drop]
      simp only [List.length_append, hto]
      rw [show o + cs.length + (i - (o + cs.length)) = i by omega]
      simp
  refine ⟨_, hrun, setRow_heap w b cur _ T _ hb, hlen, ⟨cur, _, T, (0, 0), hb, setRow_heap w b cur _ T _ hb, hlen, hg⟩, ?_⟩
  intro j u hj
  rw [add_mem]
  unfold World.cell?
  rw [setRow_heap w b cur _ T _ hb]
  simp only [Option.isSome_none, Bool.false_eq_true, if_false, List.getElem?_toArray]
  have hjl : j < cs.length := by
    rcases Nat.lt_or_ge j cs.length with h | h
    · exact h
    · rw [List.getElem?_eq_none h] at hj; cases hj
  have hto : (cur.toList.take o).length = o := by simp; omega
  rw [List.getElem?_append_left (by simp; omega), List.getElem?_append_right (by omega), hto, Nat.add_sub_cancel_left]
  exact hj
end
end Go.K

/- K, part W: the store. -/
set_option linter.unusedVariables false
set_option linter.unusedSimpArgs false
namespace Go.K
variable [drI : Dr]
section
variable {P : Program} {X : FC} {B : Nat} {M Z0 : BSet} {w0 : World} {σ : St} {a : Act} {w : World} {Z : BSet} {F : Nat → BSet}

theorem fldAt_same : ∀ {t : Ty} {q q' : Ow} {x x' : t.den} {i : Nat} {u : TV}, TV.fldAt t q x i = some u → ∃ u', TV.fldAt t q' x' i = some u' ∧ u'.t = u.t
  | .pair a b, q, q', x, x', 0, u, h => by simp only [TV.fldAt, Option.some.injEq] at h; subst h; exact ⟨_, rfl, rfl⟩
  | .pair a b, q, q', x, x', n + 1, u, h => fldAt_same (t := b) (by simpa only [TV.fldAt] using h)
/-- Where nothing is owned, paths go by types alone. -/
theorem clean_path {w w' : World} : ∀ (p : List Step) {v v' u : TV}, v.t = v'.t → v.q.clean = true → v'.q.clean = true → v.path p = some u →
    ∃ u', v'.path p = some u' ∧ u'.t = u.t ∧ u.q.clean = true ∧ u'.q.clean = true ∧ (PathOK v p → PathOK v' p) ∧ ∀ b o l', pathLoc w v (.mem b o) p = some l' → pathLoc w' v' (.mem b o) p = some l'
  | [], v, v', u, ht, h1, h2, h => by
    simp only [TV.path, Option.some.injEq] at h
    subst h
    exact ⟨v', rfl, ht.symm, h1, h2, fun _ => trivial, fun b o l' h => h⟩
  | s :: p, ⟨t, q, x⟩, ⟨t', q', x'⟩, u, ht, h1, h2, h => by
    simp only at ht
    subst ht
    simp only [TV.path, Option.bind_eq_some_iff] at h
    obtain ⟨c, hc, h⟩ := h
    simp only at h1 h2
    cases s with
    | fld i =>
      simp only [TV.step] at hc
      obtain ⟨c', hc', hct⟩ := fldAt_same (q' := q') (x' := x') hc
      obtain ⟨u', g1, g2, g3, g4, g5, g6⟩ := clean_path p (v := c) (v' := c') hct.symm (fldAt_clean hc h1) (fldAt_clean hc' h2) h
      refine ⟨u', by simp only [TV.path, TV.step, hc', Option.bind_some]; exact g1, g2, g3, g4, fun hp => ⟨trivial, fun u'' hu => ?_⟩, fun b o l' hl => ?_⟩
      · simp only [TV.step, hc', Option.some.injEq] at hu
        subst hu
        exact g5 (hp.2 c (by simp only [TV.step]; exact hc))
      · simp only [pathLoc, TV.step, hc, stepLoc] at hl
        simp only [pathLoc, TV.step, hc', stepLoc]
        exact g6 _ _ _ hl
    | idx n =>
      simp only [TV.step] at hc
      split at hc
      · rename_i heq
        simp only [TV.mk.injEq] at heq
        obtain ⟨rfl, h3, _⟩ := heq
        cases h3
        simp [Ow.clean] at h1
      · rename_i m e q0 xs heq
        simp only [TV.mk.injEq] at heq
        obtain ⟨rfl, h3, h4⟩ := heq
        cases h3
        cases h4
        rw [if_pos h1] at hc
        simp only [Option.some.injEq] at hc
        subst hc
        obtain ⟨u', g1, g2, g3, g4, g5, g6⟩ := clean_path p (v := ⟨e, .fr, xs.getD n e.zero⟩) (v' := ⟨e, .fr, List.getD x' n e.zero⟩) rfl rfl rfl h
        have hs1 : (TV.mk (.arr m e) q xs).step (.idx n) = some ⟨e, .fr, xs.getD n e.zero⟩ := by simp [TV.step, h1]
        have hs2 : (TV.mk (.arr m e) q' x').step (.idx n) = some ⟨e, .fr, List.getD x' n e.zero⟩ := by simp [TV.step, h2]
        refine ⟨u', by simp only [TV.path, hs2, Option.bind_some]; exact g1, g2, g3, g4, fun hp => ⟨hp.1, fun u'' hu => ?_⟩, fun b o l' hl => ?_⟩
        · rw [hs2] at hu
          simp only [Option.some.injEq] at hu
          subst hu
          exact g5 (hp.2 _ hs1)
        · simp only [pathLoc, hs1, stepLoc] at hl
          simp only [pathLoc, hs2, stepLoc]
          exact g6 _ _ _ hl
      · cases hc
theorem setPath_ut : ∀ (p : List Step) {v u0 u v' : TV}, v.path p = some u0 → v.setPath p u = some v' → u.t = u0.t
  | [], v, u0, u, v', h, hs => by
    simp only [TV.path, Option.some.injEq] at h
    subst h
    simp only [TV.setPath] at hs
    split at hs
    · rename_i e; exact e
    · cases hs
  | .fld i :: p, v, u0, u, v', h, hs => by
    simp only [TV.path, TV.step, Option.bind_eq_some_iff] at h
    obtain ⟨c, hc, h⟩ := h
    simp only [TV.setPath, hc, Option.bind_some, Option.bind_eq_some_iff] at hs
    obtain ⟨c', hc', _⟩ := hs
    exact setPath_ut p h hc'
  | .idx n :: p, v, u0, u, v', h, hs => by
    simp only [TV.path, Option.bind_eq_some_iff] at h
    obtain ⟨c, hc, h⟩ := h
    simp only [TV.step] at hc
    simp only [TV.setPath] at hs
    split at hc
    · simp only [Option.some.injEq] at hc
      subst hc
      simp only [Option.bind_eq_some_iff] at hs
      obtain ⟨c', hc', _⟩ := hs
      exact setPath_ut p h hc'
    · split at hc
      · rename_i hq
        simp only [Option.some.injEq] at hc
        subst hc
        simp only [hq, if_true, Option.bind_eq_some_iff] at hs
        obtain ⟨c', hc', _⟩ := hs
        exact setPath_ut p h hc'
      · cases hc
    · cases hc
theorem withContent_ok {e0 e : Ent} {c c' : TV} (hc : e0.content = some c) (he : e0.withContent c' = some e) : e.content = some c' ∧ c'.t = c.t := by
  unfold Ent.content at hc
  split at hc
  · simp only [Option.some.injEq] at hc
    subst hc
    simp only [Ent.withContent] at he
    split at he
    · rename_i ht
      obtain ⟨t', q', x'⟩ := c'
      simp only at ht
      subst ht
      simp only [Option.some.injEq] at he
      subst he
      exact ⟨rfl, rfl⟩
    · cases he
  · simp only [Option.some.injEq] at hc
    subst hc
    simp only [Ent.withContent] at he
    split at he
    · rename_i ht
      obtain ⟨t', q', x'⟩ := c'
      simp only at ht
      subst ht
      simp only at he
      split at he
      · simp only [Option.some.injEq] at he
        subst he
        exact ⟨rfl, rfl⟩
      · cases he
    · cases he
  · cases hc
/-- A borrow lives on, root by root. -/
theorem RefOK.frame2 {σ σ' : St} {a a' : Act} {w w' : World} {t : Nat} (h : RefOK σ a w t) (ht : σ'.at t = σ.at t) (hat : tm a' t = tm a t)
    (hr : ∀ r, ((σ.at r).ver < (σ'.at r).ver) ∨ ((σ'.at r).ver = (σ.at r).ver ∧ tm a' r = tm a r ∧
      (∀ p win V, SRefOK w (σ.at r).e (tm a r) p win V → SRefOK w' (σ'.at r).e (tm a r) p win V) ∧ (∀ p V, PRefOK w (σ.at r).e (tm a r) p V → PRefOK w' (σ'.at r).e (tm a r) p V))) : RefOK σ' a' w' t := by
  unfold RefOK at *
  rw [ht]
  split
  · rename_i r v p win he
    simp only [he] at h
    rcases hr r with hv | ⟨e1, e2, h1, h2⟩
    · exact ⟨by omega, fun e => by omega⟩
    · rw [e1, e2, hat]; exact ⟨h.1, fun e => h1 _ _ _ (h.2 e)⟩
  · rename_i r v p he
    simp only [he] at h
    rcases hr r with hv | ⟨e1, e2, h1, h2⟩
    · exact ⟨by omega, fun e => by omega⟩
    · rw [e1, e2, hat]; exact ⟨h.1, fun e => h2 _ _ (h.2 e)⟩
  · rename_i g f caps he
    simp only [he] at h
    intro i r v hi
    obtain ⟨h3, h4⟩ := h i r v hi
    rcases hr r with hv | ⟨e1, e2, h1, h2⟩
    · exact ⟨by omega, fun e => by omega⟩
    · rw [e1, e2, hat]; exact ⟨h3, h4⟩
  · rename_i r v xs he
    simp only [he] at h
    rcases hr r with hv | ⟨e1, e2, h1, h2⟩
    · exact ⟨by omega, fun e => by omega⟩
    · rw [e1, e2, hat]; exact h
  · trivial
/-- Where the root owns nothing inside, its borrows live through a write. -/
theorem simple_refs {w w' : World} {e0 e : Ent} {c c' tv : TV} {p : List Step} {V : Value} {b o : Nat} (hc : e0.content = some c) (he : e0.withContent c' = some e) (hs0 : e0.simple = true) (hs : e.simple = true) (hset : c.setPath p tv = some c')
    (hl : pathLoc w c (rootLoc V) p = some (.mem b o)) (hV : ∀ x, rootLoc V = .hdr x → ∃ T te q y, e0 = .val (.sl T te) (.own q) y) (hV2 : ∀ g z, rootLoc V = .mem g z → ∃ t q x, e0 = .val (.ptr t) (.own q) x) :
    (∀ p win U, SRefOK w e0 V p win U → SRefOK w' e V p win U) ∧ (∀ p U, PRefOK w e0 V p U → PRefOK w' e V p U) := by
  obtain ⟨hc', hct⟩ := withContent_ok hc he
  have hnf : ∀ g f c, e ≠ .fbox g f c := by rintro g f c rfl; simp [Ent.simple] at hs
  cases hroot : rootLoc V with
  | mem g z =>
    obtain ⟨t, q, x, rfl⟩ := hV2 g z hroot
    simp only [Ent.content, Option.some.injEq] at hc
    subst hc
    have hq0 : q.clean = true := hs0
    have hq1 : c'.q.clean = true := by
      obtain ⟨t', q', x', rfl, h1⟩ := root_val hc'
      rcases h1 with ⟨_, _, rfl⟩ | ⟨T, e', rfl⟩
      · exact hs
      · simp only [Ent.withContent] at he
        split at he <;> simp at he
    constructor
    · intro p' win U h c2 hc2
      rw [hc'] at hc2
      simp only [Option.some.injEq] at hc2
      subst hc2
      obtain ⟨h1, T, te, q2, xs, l, H, h2, _⟩ := h _ rfl
      obtain ⟨u', _, _, h3, _⟩ := clean_path (w := w) (w' := w') p' (v' := c') hct.symm hq0 hq1 h2
      simp [Ow.clean] at h3
    · intro p' U h
      refine ⟨fun c2 hc2 => ?_, fun g f c2 hf => absurd hf (hnf g f c2)⟩
      rw [hc'] at hc2
      simp only [Option.some.injEq] at hc2
      subst hc2
      obtain ⟨h1, ⟨u, h2⟩, b', o', h3, h4⟩ := h.1 _ rfl
      obtain ⟨u', g1, _, _, _, g5, g6⟩ := clean_path (w := w) (w' := w') p' (v' := c') hct.symm hq0 hq1 h2
      rw [hroot] at h3
      exact ⟨g5 h1, ⟨u', g1⟩, b', o', by rw [hroot]; exact g6 _ _ _ h3, h4⟩
  | hdr V0 =>
    obtain ⟨T, te, q, xs, rfl⟩ := hV V0 hroot
    simp only [Ent.content, Option.some.injEq] at hc
    subst hc
    have hq0 : q.clean = true := hs0
    have hce' : ∃ q' xs', c' = ⟨.sl T te, .own q', xs'⟩ ∧ q'.clean = true ∧ xs'.length = xs.length := by
      obtain ⟨t', q', x'⟩ := c'
      simp only at hct
      subst hct
      simp only [Ent.withContent] at he
      split at he
      · split at he
        · rename_i q''
          simp only [Option.some.injEq] at he
          subst he
          cases p with
          | nil => rw [hroot] at hl; simp [pathLoc] at hl
          | cons s p =>
            cases s with
            | fld i => simp [TV.setPath, TV.fldAt] at hset
            | idx n =>
              simp only [TV.setPath, Option.bind_eq_some_iff] at hset
              obtain ⟨c2, _, hset⟩ := hset
              split at hset
              · split at hset
                · simp only [Option.some.injEq, TV.mk.injEq] at hset
                  obtain ⟨_, h2, h3⟩ := hset
                  have h3 := eq_of_heq h3
                  subst h3
                  exact ⟨q'', _, rfl, hs, by simp⟩
                · cases hset
              · cases hset
        · cases he
      · rename_i hh; exact absurd trivial hh
    obtain ⟨q', xs', rfl, hq1, hlen⟩ := hce'
    -- both roots are slices of one length
    have key : ∀ p', (∃ u, (TV.mk (.sl T te) (.own q) xs).path p' = some u) → PathOK ⟨.sl T te, .own q, xs⟩ p' → p' ≠ [] →
        (∃ u', (TV.mk (.sl T te) (.own q') xs').path p' = some u') ∧ PathOK ⟨.sl T te, .own q', xs'⟩ p' ∧ (∀ l', pathLoc w ⟨.sl T te, .own q, xs⟩ (.hdr V0) p' = some l' → pathLoc w' ⟨.sl T te, .own q', xs'⟩ (.hdr V0) p' = some l') ∧
        ∀ u, (TV.mk (.sl T te) (.own q) xs).path p' = some u → u.q.clean = true := by
      intro p' hex hpo hne
      cases p' with
      | nil => exact absurd rfl hne
      | cons s p' =>
        cases s with
        | fld i => obtain ⟨u, hu⟩ := hex; simp [TV.path, TV.step, TV.fldAt] at hu
        | idx n =>
          obtain ⟨u, hu⟩ := hex
          have hs1 : (TV.mk (.sl T te) (.own q) xs).step (.idx n) = some ⟨te, q, xs.getD n te.zero⟩ := rfl
          have hs2 : (TV.mk (.sl T te) (.own q') xs').step (.idx n) = some ⟨te, q', xs'.getD n te.zero⟩ := rfl
          simp only [TV.path, hs1, Option.bind_some] at hu
          obtain ⟨u', g1, g2, g3, g4, g5, g6⟩ := clean_path (w := w) (w' := w') p' (v := ⟨te, q, xs.getD n te.zero⟩) (v' := ⟨te, q', xs'.getD n te.zero⟩) rfl hq0 hq1 hu
          refine ⟨⟨u', by simp only [TV.path, hs2, Option.bind_some]; exact g1⟩, ⟨by have := hpo.1; simp only [StepOK] at this ⊢; omega, fun u2 hu2 => ?_⟩, fun l' hl' => ?_, fun u2 hu2 => ?_⟩
          · rw [hs2] at hu2
            simp only [Option.some.injEq] at hu2
            subst hu2
            exact g5 (hpo.2 _ hs1)
          · simp only [pathLoc, hs1] at hl'
            simp only [pathLoc, hs2]
            have hst : stepLoc w (.sl T te) (.hdr V0) (.idx n) = stepLoc w' (.sl T te) (.hdr V0) (.idx n) := rfl
            rw [← hst]
            cases hloc : stepLoc w (.sl T te) (.hdr V0) (.idx n) with
            | none => rw [hloc] at hl'; cases hl'
            | some l2 =>
              rw [hloc] at hl'
              simp only at hl' ⊢
              have : ∃ b o, l2 = .mem b o := by
                simp only [stepLoc] at hloc
                split at hloc
                · simp only [Option.some.injEq] at hloc; exact ⟨_, _, hloc.symm⟩
                · cases hloc
              obtain ⟨b2, o2, rfl⟩ := this
              exact g6 _ _ _ hl'
          · simp only [TV.path, hs1, Option.bind_some] at hu2
            rw [hu] at hu2
            simp only [Option.some.injEq] at hu2
            subst hu2
            exact g3
    constructor
    · intro p' win U h c2 hc2
      rw [hc'] at hc2
      simp only [Option.some.injEq] at hc2
      subst hc2
      obtain ⟨h1, T2, te2, q2, ys, l, H, h2, h3, h4, h5⟩ := h _ rfl
      cases p' with
      | nil =>
        simp only [TV.path, Option.some.injEq, TV.mk.injEq, Ty.sl.injEq] at h2
        obtain ⟨⟨rfl, rfl⟩, h6, h7⟩ := h2
        have h7 := eq_of_heq h7
        subst h7
        simp only [pathLoc, Option.some.injEq] at h3
        subst h3
        refine ⟨trivial, T, te, q', xs', _, H, rfl, rfl, ?_, by rw [hlen]; exact h5⟩
        rw [hroot] at h4 ⊢
        exact h4
      | cons s p' =>
        obtain ⟨_, _, _, h6⟩ := key _ ⟨_, h2⟩ h1 (by simp)
        have := h6 _ h2
        simp [Ow.clean] at this
    · intro p' U h
      refine ⟨fun c2 hc2 => ?_, fun g f c2 hf => absurd hf (hnf g f c2)⟩
      rw [hc'] at hc2
      simp only [Option.some.injEq] at hc2
      subst hc2
      obtain ⟨h1, h2, b', o', h3, h4⟩ := h.1 _ rfl
      cases p' with
      | nil => rw [hroot] at h3; simp [pathLoc] at h3
      | cons s p' =>
        rw [hroot] at h3
        obtain ⟨g1, g2, g3, _⟩ := key _ h2 h1 (by simp)
        exact ⟨g2, g1, b', o', by rw [hroot]; exact g3 _ h3, h4⟩

theorem in_range {r : Nat} (h : (σ.at r).e ≠ .un) : r < σ.length := by
  rcases Nat.lt_or_ge r σ.length with h2 | h2
  · exact h2
  · rw [at_ge h2] at h; exact absurd rfl h
theorem given_range {C : Ctx} {T : Nat} {h : Ow} {keep : Bool} {x : Operand} {tv : TV} {u : Upd} (hv : (given C T h keep x).val σ = some (tv, u)) : ∀ t, t ∈ u.map (·.1) → t < σ.length := by
  have fin : ∀ r s, (σ.at r).e ≠ .un → u = [(r, s)] → ∀ t, t ∈ u.map (·.1) → t < σ.length := by
    rintro r s hr rfl t ht
    simp only [List.map_cons, List.map_nil, List.mem_singleton] at ht
    subst ht
    exact in_range hr
  have fin0 : u = [] → ∀ t, t ∈ u.map (·.1) → t < σ.length := by
    rintro rfl t ht; cases ht
  cases x with
  | tmp r =>
    simp only [given, Rd.val] at hv
    generalize hee : (σ.at r).e = e at hv
    cases e with
    | val t q y =>
      simp only at hv
      split at hv
      · simp only [Rd.val, Option.some.injEq, Prod.mk.injEq] at hv; exact fin0 hv.2.symm
      · split at hv
        · split at hv <;> (simp only [Rd.val, Option.some.injEq, Prod.mk.injEq] at hv; exact fin r _ (by rw [hee]; simp) hv.2.symm)
        · cases hv
    | sref r' v p win =>
      cases p with
      | nil =>
        cases win with
        | none =>
          simp only [Rd.val] at hv
          split at hv
          · rename_i T' e' q y hr
            split at hv
            · split at hv
              · split at hv <;> (simp only [Rd.val, Option.some.injEq, Prod.mk.injEq] at hv; exact fin r' _ (by rw [hr]; simp) hv.2.symm)
              · cases hv
            · cases hv
          · cases hv
        | some wn => cases hv
      | cons s p => cases hv
    | _ => cases hv
  | const c =>
    simp only [given] at hv
    split at hv
    · split at hv <;> (simp only [Rd.val, Option.some.injEq, Prod.mk.injEq] at hv; exact fin0 hv.2.symm)
    · cases hv
  | func f => cases hv
  | global g => cases hv
theorem at_upd_put (u : Upd) (r : Nat) (s : Slot) (t : Nat) : (σ.upd (u ++ [(r, s)])).at t = if t = r ∧ r < σ.length then s else (σ.upd u).at t := by
  rw [upd_append, St.upd, St.upd, at_set, length_upd]
/-- A root's content is replaced; others are eaten. -/
theorem Inv.reroot (I : Inv B M Z0 w0 σ a w Z F) {w' : World} {u : Upd} {r : Nat} {c c' : TV} {e : Ent} {ver : Nat} {F' : BSet} (hc : (σ.at r).e.content = some c) (he : (σ.at r).e.withContent c' = some e)
    (hea : Eaten σ u) (hul : ∀ t, t ∈ u.map (·.1) → t < σ.length) (hdis : distinct (u.map (·.1)) = true) (hru : r ∉ u.map (·.1)) (hw : Ext w w' (fun b => F r b)) (N : BSet) (hN : ∀ b, N b → w.heap.size ≤ b ∧ b < w'.heap.size)
    (hent : EntOK w' (fun b => Z b ∨ Iced u F b ∨ N b) e (tm a r) F')
    (hF' : ∀ b, F' b → F r b ∨ Freed u F b ∨ ((w.heap.size ≤ b ∧ b < w'.heap.size) ∧ ¬ N b))
    (hver : (σ.at r).ver < ver ∨ (σ.at r).ver = ver ∧ (∀ p win V, SRefOK w (σ.at r).e (tm a r) p win V → SRefOK w' e (tm a r) p win V) ∧ (∀ p V, PRefOK w (σ.at r).e (tm a r) p V → PRefOK w' e (tm a r) p V)) :
    ∃ Z' F'', Inv B M Z0 w0 (σ.upd (u ++ [(r, ⟨ver, e⟩)])) a w' Z' F'' := by
  have hrl : r < σ.length := by
    rcases Nat.lt_or_ge r σ.length with h | h
    · exact h
    · rw [at_ge h] at hc; cases hc
  have hat : ∀ t, (σ.upd (u ++ [(r, ⟨ver, e⟩)])).at t = if t = r then ⟨ver, e⟩ else (σ.upd u).at t := by
    intro t; rw [at_upd_put]; simp [hrl]
  have huniq : ∀ r s s', (r, s) ∈ u → (r, s') ∈ u → s = s' := by
    intro r s s' h1 h2
    clear hat hul hea hru hent hF'
    induction u with
    | nil => cases h1
    | cons x l ih =>
      obtain ⟨r0, s0⟩ := x
      simp only [List.map_cons, distinct, Bool.and_eq_true, Bool.not_eq_true', List.contains_eq_mem, decide_eq_false_iff_not] at hdis
      rcases List.mem_cons.1 h1 with h3 | h3 <;> rcases List.mem_cons.1 h2 with h4 | h4
      · cases h3; cases h4; rfl
      · cases h3; have := List.mem_map_of_mem (f := fun x : Nat × Slot => x.1) h4; exact absurd this hdis.1
      · cases h4; have := List.mem_map_of_mem (f := fun x : Nat × Slot => x.1) h3; exact absurd this hdis.1
      · exact ih hdis.2 h3 h4
  have hne : ∀ t, t ∈ u.map (·.1) → t ≠ r := fun t ht e => hru (e ▸ ht)
  have hZs : ∀ b, Z b → w'.heap[b]? = w.heap[b]? := fun b hb => hw.block b (I.z b hb).2 (fun h => (I.own r b h).1 hb)
  have hFs : ∀ t b, t ≠ r → F t b → w'.heap[b]? = w.heap[b]? := fun t b ht hb => hw.block b (I.lt_size hb) (fun h => ht (I.disj t r b hb h))
  refine ⟨fun b => Z b ∨ Iced u F b ∨ N b, fun t => if t = r then F' else if t ∈ u.map (·.1) then (fun _ => False) else F t,
    I.change (fun t => t = r ∨ t ∈ u.map (·.1)) (by rw [I.len, length_upd]) I.defers ?_ ⟨hw.os, hw.tape, hw.output, hw.size, fun b h hn => hw.block b h (fun h => hn ⟨r, .inl rfl, h⟩), hw.drawn⟩ (fun b h => .inl h) ?_ ?_ ?_ ?_ ?_ ?_⟩
  · intro t ht
    simp only [not_or] at ht
    exact ⟨by rw [hat, at_upd_not _ _ _ ht.2]; simp [ht.1], rfl, by simp only [ht.1, ht.2, if_false]⟩
  · rintro b (h | ⟨r', s, h1, h2, h3⟩ | h)
    · exact ⟨Nat.lt_of_lt_of_le (I.z b h).2 hw.size, .inl h⟩
    · exact ⟨Nat.lt_of_lt_of_le (I.lt_size h3) hw.size, .inr (.inl ⟨r', .inr (List.mem_map.2 ⟨_, h1, rfl⟩), h3⟩)⟩
    · exact ⟨(hN b h).2, .inr (.inr (hN b h).1)⟩
  · intro t ht
    rw [hat]
    by_cases hc : t = r
    · subst hc
      simp only [if_true]
      exact hent
    · have h2 := ht.resolve_left hc
      simp only [hc, h2, if_true, if_false]
      obtain ⟨s, h3, h4⟩ := at_upd_mem u σ t hdis h2 (hul t h2)
      rw [h4]
      rcases (hea t s h3).2 with h5 | ⟨ty, q, x, h5, hq, h6⟩
      · rw [h5]; exact EntOK.un
      · rw [h6]
        have := I.ent t
        rw [h5] at this
        have h7 : VRep w (fun b => Z b ∨ Iced u F b) ty .fr x (tm a t) (fun _ => False) := VRep.freeze (fun b h => .inl h) hq (fun b hb => .inr ⟨t, s, h3, by rw [h6]; simp, hb⟩) this
        refine VRep.frame (fun b hb => ⟨hb.imp id .inl, ?_⟩) (fun _ h => h.elim) h7
        rcases hb with hb | ⟨r', s', h8, _, h⟩
        · exact hZs b hb
        · exact hFs r' b (hne r' (List.mem_map.2 ⟨_, h8, rfl⟩)) h
  · intro t ht
    refine RefOK.ofPlain ?_
    rw [hat]
    by_cases hc' : t = r
    · simp only [hc', if_true]
      obtain ⟨t', q, x, h, _⟩ := root_val (withContent_ok hc he).1
      rw [h]; rfl
    · have h2 := ht.resolve_left hc'
      simp only [hc', if_false]
      obtain ⟨s, h3, h4⟩ := at_upd_mem u σ t hdis h2 (hul t h2)
      rw [h4]
      rcases (hea t s h3).2 with h5 | ⟨ty, q, x, h5, hq, h6⟩
      · rw [h5]; rfl
      · rw [h6]; rfl
  · intro t ht b hb
    by_cases hc' : t = r
    · simp only [hc', if_true] at hb
      rcases hF' b hb with h | ⟨r', s, h1, h2, h3⟩ | ⟨h, hn⟩
      · refine ⟨?_, Nat.lt_of_lt_of_le (I.lt_size h) hw.size, .inl ⟨r, .inl rfl, h⟩⟩
        rintro (hz | ⟨r', s, h1, _, h2⟩ | hz)
        · exact (I.own r b h).1 hz
        · exact hne r' (List.mem_map.2 ⟨_, h1, rfl⟩) (I.disj r' r b h2 h)
        · have := (hN b hz).1; have := I.lt_size h; omega
      · refine ⟨?_, Nat.lt_of_lt_of_le (I.lt_size h3) hw.size, .inl ⟨r', .inr (List.mem_map.2 ⟨_, h1, rfl⟩), h3⟩⟩
        rintro (hz | ⟨r2, s2, h4, h5, h6⟩ | hz)
        · exact (I.own r' b h3).1 hz
        · have := I.disj r' r2 b h3 h6
          subst this
          exact h5 (huniq _ _ _ h4 h1 ▸ h2)
        · have := (hN b hz).1; have := I.lt_size h3; omega
      · refine ⟨?_, h.2, .inr h.1⟩
        rintro (hz | ⟨r2, s2, h4, h5, h6⟩ | hz)
        · have := (I.z b hz).2; omega
        · have := I.lt_size h6; omega
        · exact hn hz
    · have h2 := ht.resolve_left hc'
      simp only [hc', h2, if_true, if_false] at hb
  · intro t1 t2 h1 h2 b hb1 hb2
    by_cases h3 : t1 = r <;> by_cases h4 : t2 = r
    · rw [h3, h4]
    · have h5 := h2.resolve_left h4
      simp only [h4, h5, if_true, if_false] at hb2
    · have h5 := h1.resolve_left h3
      simp only [h3, h5, if_true, if_false] at hb1
    · have h5 := h1.resolve_left h3
      simp only [h3, h5, if_true, if_false] at hb1
  · intro r' hr'
    by_cases hc' : r' = r
    · subst hc'
      rcases hver with hv | ⟨hv, hs1, hs2⟩
      · left; rw [hat]; simp only [if_true]; exact hv
      · right
        intro t ht
        simp only [not_or] at ht
        refine (I.ref t).frame2 (by rw [hat, at_upd_not _ _ _ ht.2]; simp [ht.1]) rfl fun r2 => ?_
        rw [hat]
        by_cases h2 : r2 = r'
        · subst h2
          right
          simp only [if_true]
          exact ⟨hv.symm, by first | trivial | rfl, hs1, hs2⟩
        · simp only [h2, if_false]
          by_cases h3 : r2 ∈ u.map (·.1)
          · left
            obtain ⟨s, h5, h6⟩ := at_upd_mem u σ r2 hdis h3 (hul r2 h3)
            rw [h6]; exact (hea r2 s h5).1
          · right
            rw [at_upd_not _ _ _ h3]
            exact ⟨rfl, by first | trivial | rfl, I.srefs (fun b hb => hFs r2 b h2 hb)⟩
    · have h2 := hr'.resolve_left hc'
      left
      rw [hat]
      simp only [hc', if_false]
      obtain ⟨s, h5, h6⟩ := at_upd_mem u σ r' hdis h2 (hul r' h2)
      rw [h6]; exact (hea r' s h5).1

theorem storeVar_run (K : CtxOK P X) {T : Nat} {t : Ty} (hT : X.C.ty T = some t) {ad : Addr} {V : Value} {w' : World} (hl : V.cells.size = t.cells) (h : (storeCells ad V.cells.toList).run P w = .ok () w') : (storeVar T ad V).run P w = .ok () w' := by
  unfold Go.storeVar
  rw [Sem.run_bind, K.sizeOf hT]
  simp only [Result.andThen, hl, ne_eq, not_true_eq_false, if_false]
  exact h
theorem store_ok (K : CtxOK P X) (I : Inv B M Z0 w0 σ a w Z F) {o : Oper} {T : Nat} {ad x : Operand} (ho : o.op = .store T ad x) : OpOK P B M Z0 w0 σ a w o (opStore X.C o.dst T ad x) := by
  intro out hv u hu Q
  have hex : execOp a.eval o = (Instr.storeAt T (a.eval ad) (a.eval x) >>= fun _ => pure Next.skip) := by unfold execOp; rw [ho]
  unfold opStore at hv
  split at hv
  · cases hv
  rename_i hdst
  have hdn : o.dst = none := by cases hd : o.dst <;> simp_all
  obtain ⟨pl, h1, hv1⟩ := Rd.bind_some hv
  replace hv := hv1
  clear hv1
  split at hv
  · rename_i r v p
    simp only [Rd.val] at hv
    split at hv
    · rename_i hver
      split at hv
      · rename_i c hc
        split at hv
        · rename_i tv0 htv0
          split at hv
          · rename_i hT
            obtain ⟨⟨tv, u'⟩, h2, hv2⟩ := Rd.bind_some hv
            simp only at hv2
            split at hv2
            · cases hv2
            · rename_i hru
              have hru' : r ∉ u'.map (·.1) := by simpa using hru
              split at hv2
              · rename_i c' hset
                split at hv2
                · rename_i e he
                  simp only [Rd.val, Option.some.injEq] at hv2
                  subst hv2
                  simp only [Out.run, Option.some.injEq] at hu
                  subst hu
                  obtain ⟨hpo, b, of, e1, e2⟩ := asPtr_ok I h1 hver hc
                  obtain ⟨Fc, hR, hFc, hh⟩ := I.root hc
                  obtain ⟨l', Fu, e3, hru2, hsub, hin, hne, hput⟩ := lens p hh hR hpo htv0
                  rw [e1] at e3
                  simp only [Option.some.injEq] at e3
                  subst e3
                  obtain ⟨hbFu, cs0, hcs0, hr0⟩ := hru2
                  obtain ⟨Fo, g1, g2, g3⟩ := given_ok I h2
                  have hFb : F r b := by
                    generalize rootLoc (tm a r) = l at hin hFc
                    cases l with
                    | mem b' o' =>
                      rcases hin with ⟨rfl, _⟩ | h
                      · exact (hFc b).2 (.inr rfl)
                      · exact (hFc b).2 (.inl h)
                    | hdr V => exact (hFc b).2 (.inl hin)
                  obtain ⟨t0, q0, x0, hroot, hrt⟩ := root_val hc
                  have hEr := I.ent r
                  rw [hroot] at hEr
                  obtain ⟨cur, T0, hb⟩ : ∃ cur T0, w.heap[b]? = some (.cells cur T0 (0, 0)) := by
                    rcases hEr.1.own00 b hFb with h | ⟨es, ck, h⟩
                    · exact h
                    · have hpos : 0 < cs0.length := by rw [hr0.length]; exact Nat.pos_of_ne_zero hT.2
                      have h5 := hcs0 0 (cs0[0]'hpos) (List.getElem?_eq_getElem hpos)
                      rw [add_mem] at h5
                      unfold World.cell? at h5
                      simp [h] at h5
                  have htt : tv.t = tv0.t := setPath_ut p htv0 hset
                  have hVl : (a.eval x).cells.toList.length = tv0.t.cells := by rw [g1.1.length, htt]
                  have hVs : (a.eval x).cells.size = tv0.t.cells := by simpa using hVl
                  have hcur : of + (a.eval x).cells.toList.length ≤ cur.size := by
                    rw [hVl, ← hr0.length]
                    have hpos : 0 < cs0.length := by rw [hr0.length]; exact Nat.pos_of_ne_zero hT.2
                    have h5 := hcs0 (cs0.length - 1) (cs0[cs0.length - 1]'(by omega)) (List.getElem?_eq_getElem (by omega))
                    rw [add_mem] at h5
                    unfold World.cell? at h5
                    simp only [hb, Option.isSome_none, Bool.false_eq_true, if_false] at h5
                    rcases Nat.lt_or_ge (of + (cs0.length - 1)) cur.size with h6 | h6
                    · omega
                    · rw [Array.getElem?_eq_none h6] at h5; cases h5
                  obtain ⟨cur', hrun, hb', hsz, hreg, hcell⟩ := store_mem (P := P) hb (a.eval x).cells.toList g1.1.one hcur
                  have hoth : ∀ b', b' ≠ b → (w.setRow b cur').heap[b']? = w.heap[b']? := fun b' h => setRow_other w b b' cur' h
                  have hFrNo : ∀ b', F r b' → ¬ Freed u' F b' ∧ ¬ Iced u' F b' := by
                    intro b' h3
                    constructor
                    · rintro ⟨r', s, h4, _, h5⟩
                      exact hru' (I.disj r r' b' h3 h5 ▸ List.mem_map.2 ⟨_, h4, rfl⟩)
                    · rintro ⟨r', s, h4, _, h5⟩
                      exact hru' (I.disj r r' b' h3 h5 ▸ List.mem_map.2 ⟨_, h4, rfl⟩)
                  have hFob : ¬ Fo b := fun h => (hFrNo b hFb).1 (g2 b h)
                  have hZb : ∀ b', (Z b' ∨ Iced u' F b') → b' ≠ b := by
                    rintro b' (h3 | h3) rfl
                    · exact (I.own r _ hFb).1 h3
                    · exact (hFrNo _ hFb).2 h3
                  have hRnew : RepAt (w.setRow b cur') (fun b => Z b ∨ Iced u' F b) tv (.mem b of) Fo :=
                    ⟨hFob, _, hcell, g1.1.frame (fun b' hz => ⟨hz, hoth b' (hZb b' hz)⟩) (fun b' h3 => hoth b' (fun e => hFob (e ▸ h3)))⟩
                  have hPut : PutOK w (w.setRow b cur') Z (fun b => Z b ∨ Iced u' F b) Fc Fu Fo (rootLoc (tm a r)) (.mem b of) tv0.t.cells := by
                    refine ⟨fun b' hz => ⟨.inl hz, hoth b' (hZb b' (.inl hz))⟩, fun b' h3 h4 => ((hFrNo b' ((hFc b').2 (.inl h4))).1 (g2 b' h3)).elim, fun b' h3 h4 => (hFrNo b' ((hFc b').2 (.inr h3))).1 (g2 b' h4), fun b' h3 h4 => hoth b' (fun e => h4 (by rw [e]; rfl)), ?_⟩
                    intro b' o' hm
                    cases hm
                    rw [← hVl]; exact hreg
                  obtain ⟨F', hF', hR'⟩ := hput _ _ tv Fo c' hset hRnew hPut
                  have hent := ent_of_content (w' := w.setRow b cur') (Z' := fun b => Z b ∨ Iced u' F b) (I.ent r) hc he hR' (by
                    intro g cur2 T2 hg hh2
                    by_cases hgb : g = b
                    · subst hgb
                      rw [hb] at hh2
                      simp only [Option.some.injEq, Obj.cells.injEq] at hh2
                      obtain ⟨rfl, rfl, _⟩ := hh2
                      exact ⟨cur', hb', hsz⟩
                    · exact ⟨cur2, by rw [hoth g hgb]; exact hh2, rfl⟩)
                  have hmain := I.reroot (w' := w.setRow b cur') (u := u') (r := r) (ver := if (σ.at r).e.simple && e.simple then v else v + 1) hc he g3 (given_range h2) (eaten_one_distinct h2) hru'
                    ⟨rfl, rfl, rfl, by simp, fun b' _ h3 => hoth b' (fun e => h3 (e ▸ hFb)), Dr.refl _⟩ (fun _ => False) (fun _ h => h.elim) (by simpa using hent)
                    (by
                      rintro b' (h3 | h3)
                      · rcases (hF' b').1 h3 with h4 | h4
                        · exact .inl ((hFc b').2 (.inl h4.1))
                        · exact .inr (.inl (g2 b' h4))
                      · exact .inl ((hFc b').2 (.inr h3)))
                    (by
                      split
                      · rename_i hs
                        simp only [Bool.and_eq_true] at hs
                        refine .inr ⟨hver, simple_refs hc he hs.1 hs.2 hset e1 ?_ ?_⟩
                        · intro V hV
                          rw [hroot]
                          rcases hrt with ⟨rfl, _⟩ | ⟨T1, e1', rfl⟩
                          · exfalso
                            obtain ⟨g, cur3, T3, Fe3, hV3, _⟩ := hEr.1
                            rw [hEr.scalar rfl] at hV3
                            simp only [List.cons.injEq, and_true] at hV3
                            rw [hV3] at hV
                            cases hV
                          · exact ⟨T1, e1', q0, x0, rfl⟩
                        · intro g z hg
                          rw [hroot]
                          rcases hrt with ⟨rfl, _⟩ | ⟨T1, e1', rfl⟩
                          · exact ⟨_, _, _, rfl⟩
                          · exfalso
                            obtain ⟨V', cells, Fe, hV, ho', _⟩ := hEr.1
                            rw [hEr.scalar rfl] at hV
                            simp only [List.cons.injEq, and_true] at hV
                            rw [hV] at hg
                            rcases ho'.2 with ⟨rfl, _⟩ | ⟨g', cap, cur3, rfl, _⟩ <;> cases hg
                      · exact .inl (by omega))
                  unfold Oper.wp
                  rw [hex, Sem.run_bind]
                  unfold Instr.storeAt
                  rw [Sem.run_bind, e2]
                  simp only [Instr.sureAddr, Sem.run_pure, Result.andThen]
                  rw [storeVar_run K hT.1 hVs hrun]
                  show Good B M Z0 w0 _ (a.put o.dst undef) _
                  rw [hdn]
                  exact hmain
                · cases hv2
              · cases hv2
          · cases hv
        · cases hv
      · cases hv
    · cases hv
  · cases hv
end
end Go.K

/- K, part X: append. -/
set_option linter.unusedVariables false
set_option linter.unusedSimpArgs false
namespace Go.K
variable [drI : Dr]
section
variable {P : Program} {X : FC} {B : Nat} {M Z0 : BSet} {w0 : World} {σ : St} {a : Act} {w : World} {Z : BSet} {F : Nat → BSet}

theorem Freed.one {r : Nat} {v : Nat} {b : Nat} (h : F r b) : Freed [(r, ⟨v, .un⟩)] F b := ⟨r, _, List.mem_singleton.2 rfl, rfl, h⟩
theorem eaten_un {r v : Nat} (h : (σ.at r).ver < v) : Eaten σ [(r, ⟨v, .un⟩)] := by
  intro r' s hs
  simp only [List.mem_singleton, Prod.mk.injEq] at hs
  obtain ⟨rfl, rfl⟩ := hs
  exact ⟨h, .inl rfl⟩
theorem grown_ok (I : Inv B M Z0 w0 σ a w Z F) {C : Ctx} {T : Nat} {h : Ow} {x : Operand} {g : SlR} {u : Upd} (hv : (grown C T h x).val σ = some (g, u)) :
    ∃ cells Fe, (X.C.ty T = some (.sl g.T g.e) ∨ True) ∧ w.ownsRow 0 g.T g.e.cells (a.eval x) g.xs.length cells ∧ ElemsRep (fun y => Rep w Z g.e g.q y) g.xs cells Fe ∧ (∀ b, (a.eval x).ownBlock = some b → Freed u F b) ∧ (∀ b, Fe b → Freed u F b) ∧
      (∀ b, (a.eval x).ownBlock = some b → ¬ Fe b) ∧ Eaten σ u := by
  have root : ∀ (r : Nat) (Te : Nat) (e : Ty) (q : Ow) (xs : List e.den), (σ.at r).e = .val (.sl Te e) (.own q) xs → tm a r = a.eval x → g = ⟨Te, e, q, xs⟩ → u = [(r, ⟨(σ.at r).ver + 1, .un⟩)] →
      ∃ cells Fe, (X.C.ty T = some (.sl g.T g.e) ∨ True) ∧ w.ownsRow 0 g.T g.e.cells (a.eval x) g.xs.length cells ∧ ElemsRep (fun y => Rep w Z g.e g.q y) g.xs cells Fe ∧ (∀ b, (a.eval x).ownBlock = some b → Freed u F b) ∧ (∀ b, Fe b → Freed u F b) ∧
      (∀ b, (a.eval x).ownBlock = some b → ¬ Fe b) ∧ Eaten σ u := by
    rintro r Te e q xs he hx rfl rfl
    have hI := I.ent r
    rw [he] at hI
    obtain ⟨V, cells, Fe, hV, ho, hE, hF, hd⟩ := hI.1
    rw [hI.scalar rfl, hx] at hV
    simp only [List.cons.injEq, and_true] at hV
    rw [← hV] at ho hF hd
    exact ⟨cells, Fe, .inr trivial, ho, hE, fun b hb => Freed.one ((hF b).2 (.inl hb)), fun b hb => Freed.one ((hF b).2 (.inr hb)), hd, eaten_un (Nat.lt_succ_self _)⟩
  cases x with
  | tmp t =>
    simp only [grown, Rd.val] at hv
    have hC := I.refCopy t
    generalize hee : (σ.at t).e = e at hv hC
    cases e with
    | val ty q xs =>
      cases ty with
      | sl Te e =>
        cases q with
        | own q =>
          simp only [Rd.val, Option.some.injEq, Prod.mk.injEq] at hv
          exact root t Te e q xs hee rfl hv.1.symm hv.2.symm
        | _ => cases hv
      | _ => cases hv
    | sref r v p win =>
      cases p with
      | nil =>
        cases win with
        | none =>
          simp only [Rd.val] at hv
          split at hv
          · rename_i hver
            split at hv
            · rename_i Te e q xs hr
              simp only [Rd.val, Option.some.injEq, Prod.mk.injEq] at hv
              obtain ⟨h1, T2, te, q2, ys, l, H, h3, h4, h5, h6⟩ := hC.2 hver ⟨.sl Te e, .own q, xs⟩ (by rw [hr]; rfl)
              simp only [pathLoc, Option.some.injEq] at h4
              subst h4
              simp only [WinRep] at h6
              have hI' := I.ent r
              rw [hr] at hI'
              have h0 := hI'.1
              rw [hI'.scalar rfl] at h0
              obtain ⟨V', cells, Fe, hV, ho, _⟩ := h0
              simp only [List.cons.injEq, and_true] at hV
              have hx : tm a r = a.eval (.tmp t) := by
                show tm a r = tm a t
                rw [h6]
                rw [hV] at h5 ⊢
                rcases ho.2 with ⟨rfl, _⟩ | ⟨g, cap, cur, rfl, _⟩
                · simpa [rootLoc, Loc.header] using h5
                · simpa [rootLoc, Loc.header] using h5
              exact root r Te e q xs hr hx hv.1.symm (by rw [hver]; exact hv.2.symm)
            · cases hv
          · cases hv
        | some wn => cases hv
      | cons s p => cases hv
    | _ => cases hv
  | const c =>
    simp only [grown] at hv
    split at hv
    · rename_i Te e q xs hc
      obtain ⟨t', q', y', he, hq, hr⟩ := constEnt_ok (w := w) (Z := Z) hc
      cases he
      simp only [Rd.val, Option.some.injEq, Prod.mk.injEq] at hv
      obtain ⟨rfl, rfl⟩ := hv
      obtain ⟨V, cells, Fe, hV, ho, hE, hF, hd⟩ := hr.1
      rw [hr.scalar rfl] at hV
      simp only [List.cons.injEq, and_true] at hV
      rw [← hV] at ho hF hd
      exact ⟨cells, Fe, .inr trivial, ho, hE, fun b hb => ((hF b).2 (.inl hb)).elim, fun b hb => ((hF b).2 (.inr hb)).elim, hd, eaten_nil⟩
    · cases hv
  | func f => cases hv
  | global g => cases hv
theorem elems_toFr {w : World} {Z : BSet} {e : Ty} {q : Ow} (hq : q.clean = true) {xs : List e.den} {cells : List Value} {Fe : BSet} (h : ElemsRep (fun y => Rep w Z e q y) xs cells Fe) : ElemsRep (fun y => Rep w Z e .fr y) xs cells (fun _ => False) := by
  have h1 := h.mono (R' := fun y => Rep w Z e .fr y) (fun _ _ _ h => h.toFr hq)
  have h2 := (h1.e0 (fun _ _ _ h => h.e0 rfl)).eq
  rw [h2] at h1
  exact h1
theorem appended_ok (I : Inv B M Z0 w0 σ a w Z F) {C : Ctx} {T : Nat} {h : Ow} {x : Operand} {m : SlR} {u : Upd} (hv : (appended C T h x).val σ = some (m, u)) :
    ∃ A c cells Fe, a.eval x = .slice A m.xs.length c ∧ (m.xs ≠ [] → ∃ ad, A = some ad ∧ ad.spot = none ∧ CellsAt w ad cells) ∧ ElemsRep (fun y => Rep w Z m.e m.q y) m.xs cells Fe ∧ (∀ b, Fe b → Freed u F b) ∧ Eaten σ u := by
  cases x with
  | tmp t =>
    simp only [appended, Rd.val] at hv
    have hI := I.ent t
    have hC := I.refCopy t
    generalize hee : (σ.at t).e = e at hv hI hC
    cases e with
    | val ty q ys =>
      cases ty with
      | sl Te e =>
        simp only at hv
        split at hv
        · rename_i hq
          simp only [Rd.val, Option.some.injEq, Prod.mk.injEq] at hv
          obtain ⟨rfl, rfl⟩ := hv
          obtain ⟨A, c, cells, h1, h2, h3, h4, h5⟩ := (hI.toFr hq).slFr
          exact ⟨A, c, cells, _, h1, fun hx => let ⟨ad, e1, e2, _, e3⟩ := h4 hx; ⟨ad, e1, e2, e3⟩, h5, fun b h => h.elim, eaten_nil⟩
        · split at hv
          · rename_i q'
            obtain ⟨V, cells, Fe, hV, ho, hE, hF, hd⟩ := hI.1
            rw [hI.scalar rfl] at hV
            simp only [List.cons.injEq, and_true] at hV
            rw [← hV] at ho hF hd
            obtain ⟨A, c, h1, h2, h3, h4⟩ := own_cells ho
            have hA : ys ≠ [] → ∃ ad, A = some ad ∧ ad.spot = none ∧ CellsAt w ad cells := fun hx => by
              obtain ⟨g, e1, _, e2⟩ := h4 (List.length_pos_iff.2 hx)
              exact ⟨_, e1, rfl, e2⟩
            split at hv
            · rename_i hq'
              simp only [Rd.val, Option.some.injEq, Prod.mk.injEq] at hv
              obtain ⟨rfl, rfl⟩ := hv
              exact ⟨A, c, cells, _, h1, hA, elems_toFr hq' hE, fun b h => h.elim, eaten_nil⟩
            · simp only [Rd.val, Option.some.injEq, Prod.mk.injEq] at hv
              obtain ⟨rfl, rfl⟩ := hv
              exact ⟨A, c, cells, Fe, h1, hA, hE, fun b hb => Freed.one ((hF b).2 (.inr hb)), eaten_un (Nat.lt_succ_self _)⟩
          · cases hv
      | _ => cases hv
    | sref r v p win =>
      simp only at hv
      obtain ⟨⟨s, tv⟩, h6, hv1⟩ := Rd.bind_some hv
      simp only at hv1
      split at hv1
      · rename_i Te e q ys
        split at hv1
        · rename_i hq
          simp only [Rd.val, Option.some.injEq, Prod.mk.injEq] at hv1
          obtain ⟨rfl, rfl⟩ := hv1
          have hrd : (rdSl (.sref r v p win)).val σ = some ⟨Te, e, q, windowed ys win⟩ := by
            unfold rdSl
            rw [Rd.val_bind, h6]
            rfl
          obtain ⟨A, c, cells, Fe, h1, h2, h3, h4, h5⟩ := rdSl_ok I hI hC hrd
          exact ⟨A, c, cells, _, h1, h4, elems_toFr hq h5, fun b h => h.elim, eaten_nil⟩
        · cases hv1
      · cases hv1
    | _ => cases hv
  | const c =>
    simp only [appended] at hv
    split at hv
    · rename_i Te e q xs hc
      obtain ⟨t', q', y', he, hq, hr⟩ := constEnt_ok (w := w) (Z := Z) hc
      cases he
      simp only [Rd.val, Option.some.injEq, Prod.mk.injEq] at hv
      obtain ⟨rfl, rfl⟩ := hv
      obtain ⟨V, cells, Fe, hV, ho, hE, hF, hd⟩ := hr.1
      rw [hr.scalar rfl] at hV
      simp only [List.cons.injEq, and_true] at hV
      rw [← hV] at ho hF hd
      obtain ⟨A, c1, h1, h2, h3, h4⟩ := own_cells ho
      exact ⟨A, c1, cells, Fe, h1, fun hx => by
        obtain ⟨g, e1, _, e2⟩ := h4 (List.length_pos_iff.2 hx)
        exact ⟨_, e1, rfl, e2⟩, hE, fun b hb => ((hF b).2 (.inr hb)).elim, eaten_nil⟩
    · cases hv
  | func f => cases hv
  | global g => cases hv
theorem appended_un_g {C : Ctx} {T : Nat} {h : Ow} {x : Operand} {g : SlR} {u : Upd} (hv : (grown C T h x).val σ = some (g, u)) {r : Nat} {s : Slot} (hs : (r, s) ∈ u) (hne : s.e ≠ .un) : False := by
  have one : ∀ r' v', u = [(r', ⟨v', .un⟩)] → False := by
    rintro r' v' rfl
    simp only [List.mem_singleton, Prod.mk.injEq] at hs
    obtain ⟨_, rfl⟩ := hs
    exact hne rfl
  cases x with
  | tmp t =>
    simp only [grown, Rd.val] at hv
    split at hv
    · simp only [Rd.val, Option.some.injEq, Prod.mk.injEq] at hv; exact one _ _ hv.2.symm
    · simp only [Rd.val] at hv
      split at hv
      · split at hv
        · simp only [Rd.val, Option.some.injEq, Prod.mk.injEq] at hv; exact one _ _ hv.2.symm
        · cases hv
      · cases hv
    · cases hv
  | const c =>
    simp only [grown] at hv
    split at hv
    · simp only [Rd.val, Option.some.injEq, Prod.mk.injEq] at hv; rw [← hv.2] at hs; cases hs
    · cases hv
  | func f => cases hv
  | global g => cases hv
theorem appended_un {C : Ctx} {T : Nat} {h : Ow} {x : Operand} {g : SlR} {u : Upd} (hv : (appended C T h x).val σ = some (g, u)) {r : Nat} {s : Slot} (hs : (r, s) ∈ u) (hne : s.e ≠ .un) : False := by
  have one : ∀ r' v', u = [(r', ⟨v', .un⟩)] → False := by
    rintro r' v' rfl
    simp only [List.mem_singleton, Prod.mk.injEq] at hs
    obtain ⟨_, rfl⟩ := hs
    exact hne rfl
  have none : u = [] → False := by rintro rfl; cases hs
  cases x with
  | tmp t =>
    simp only [appended, Rd.val] at hv
    split at hv
    · split at hv
      · simp only [Rd.val, Option.some.injEq, Prod.mk.injEq] at hv; exact none hv.2.symm
      · split at hv
        · split at hv
          · simp only [Rd.val, Option.some.injEq, Prod.mk.injEq] at hv; exact none hv.2.symm
          · simp only [Rd.val, Option.some.injEq, Prod.mk.injEq] at hv; exact one _ _ hv.2.symm
        · cases hv
    · obtain ⟨⟨s', tv⟩, h6, hv1⟩ := Rd.bind_some hv
      simp only at hv1
      split at hv1
      · split at hv1
        · simp only [Rd.val, Option.some.injEq, Prod.mk.injEq] at hv1; exact none hv1.2.symm
        · cases hv1
      · cases hv1
    · cases hv
  | const c =>
    simp only [appended] at hv
    split at hv
    · simp only [Rd.val, Option.some.injEq, Prod.mk.injEq] at hv; exact none hv.2.symm
    · cases hv
  | func f => cases hv
  | global g => cases hv
theorem append_types {t t2 e e2 : Nat} {i : TypeInfo} (h : P.underlying t = some (.slice e)) (hi : P.info? e = some i) (h2 : P.underlying t2 = some (.slice e2)) (ty : TypeId) (A : Option Addr) (n c : Nat) (x : Value) :
    (Builtin.append_ #[t, t2] ty #[.slice A n c, x]).run P w = (Builtin.append_ #[t, t] ty #[.slice A n c, x]).run P w := by
  simp [Builtin.append_, run_underlying h, run_underlying h2, sizeOf, typeInfo, hi]
/-- What append hands back: the old row or a new one. -/
theorem append_run (t ty e : TypeId) (i : TypeInfo) (z : Value) (size bytes : Nat) (ht : P.underlying t = some (.slice e)) (hi : P.info? e = some i) (hz : i.zero = some z)
    (hsize : i.size = size) (hby : i.bytes = bytes) (hzs : z.cells.size = size) (hsz : 0 < size)
    (v : Value) (n : Nat) (xs : List Value) (hown : w.ownsRow 0 e size v n xs)
    (a : Addr) (m c : Nat) (news : List Value) (hl : news.length = m * size) (hnews : ∀ j u, news[j]? = some u → w.cell? (a.add j) = some u) (h1 : ∀ u ∈ news, u.oneCell' = true)
    (h63 : n + m ≤ maxLen) (hbytes : (n + m) * bytes ≤ 140737488355328) :
    ∃ v' w', (Builtin.append_ #[t, t] ty #[v, .slice (some a) m c]).run P w = .ok v' w' ∧ w'.ownsRow 0 e size v' (n + m) (xs ++ news) ∧ w.grownBy w' v.ownBlock ∧
      (∀ b, v'.ownBlock = some b → v.ownBlock = some b ∨ w.heap.size ≤ b ∧ b < w'.heap.size) := by
  have hnew : ∀ {v' : Value} {w' : World}, w'.ownsRow 0 e size v' (n + m) (xs ++ news) → ∀ b, v'.ownBlock = some b → b < w'.heap.size := by
    intro v' w' h b hb
    rcases h.2 with ⟨rfl, _⟩ | ⟨g, cap, cur, rfl, _, hg, _⟩
    · cases hb
    · simp only [Value.ownBlock, Option.some.injEq] at hb
      subst hb
      exact (Array.getElem?_eq_some_iff.1 hg).1
  rcases hown.2 with ⟨rfl, rfl⟩ | ⟨g, cap, cur, rfl, _, hg, hnc, _⟩
  · have hx : xs = [] := List.eq_nil_of_length_eq_zero (by simpa using hown.1)
    subst hx
    obtain ⟨v', w', r1, r2, r3, r4⟩ := run_append_own w w.heap.size t ty e i z size bytes ht hi hz hsize hby hzs hsz _ 0 [] ⟨by simp, .inl ⟨rfl, rfl⟩⟩ a m c news hl hnews h1 h63 hbytes (Nat.le_refl _)
    have r5 : w'.ownsRow 0 e size v' (0 + m) ([] ++ news) := ⟨r2.1, r2.2.imp id fun ⟨g, cap, cur, e1, _, e2⟩ => ⟨g, cap, cur, e1, Nat.zero_le _, e2⟩⟩
    refine ⟨v', w', r1, r5, r3, fun b hb => .inr ⟨?_, hnew r5 b hb⟩⟩
    rcases r2.2 with ⟨rfl, _⟩ | ⟨g, cap, cur, rfl, h2, _⟩
    · cases hb
    · simp only [Value.ownBlock, Option.some.injEq] at hb
      subst hb
      exact h2
  · by_cases hroom : n + m ≤ cap
    · obtain ⟨w', r1, r2, r3⟩ := run_append_fits w 0 t ty e i size ht hi hsize g n cap xs hown a m c news hl hnews h1 hroom
      exact ⟨_, w', r1, r2, r3, fun b hb => .inl hb⟩
    · obtain ⟨v', w', r1, r2, r3, r4⟩ := run_append_own w 0 t ty e i z size bytes ht hi hz hsize hby hzs hsz _ n xs hown a m c news hl hnews h1 h63 hbytes (Nat.zero_le _)
      subst hsize
      have h2 := run_append_grow (P := P) w t ty e i z ht hi hz ⟨g, 0, none⟩ n cap xs hown.1 (hown.cells (g := g) rfl) a m c news hl hnews (by omega) (by simp only [maxLen] at h63; omega) (growslice_fits (by omega) (by rw [hby]; exact hbytes))
      have h3 := r1
      rw [h2] at h3
      simp only [Result.ok.injEq] at h3
      obtain ⟨rfl, rfl⟩ := h3
      refine ⟨_, _, r1, r2, r3, fun b hb => .inr ⟨?_, hnew r2 b hb⟩⟩
      simp only [Value.ownBlock, Option.some.injEq] at hb
      subst hb
      exact Nat.le_refl _
theorem append_none (base : Nat) (t ty e : TypeId) (i : TypeInfo) (size : Nat) (ht : P.underlying t = some (.slice e)) (hi : P.info? e = some i)
    (v : Value) (n c : Nat) (xs : List Value) (hown : w.ownsRow base e size v n xs) :
    (Builtin.append_ #[t, t] ty #[v, .slice none 0 c]).run P w = .ok v w := by
  rcases hown.2 with ⟨rfl, rfl⟩ | ⟨g, cap, cur, rfl, _, _, hnc, _⟩
  · simp [Builtin.append_, run_underlying ht, sizeOf, typeInfo, hi, Builtin.lenOf, Builtin.firstCells]
  · simp [Builtin.append_, run_underlying ht, sizeOf, typeInfo, hi, Builtin.lenOf, Builtin.firstCells, hnc, storeCells]
theorem append_ok (K : CtxOK P X) (I : Inv B M Z0 w0 σ a w Z F) {o : Oper} {c : Call} {s x : Operand} {T T2 : Nat} (ho : o.op = .call c) (hc : c.callee = .builtin .append) (h1 : c.args.toList = [s, x]) (h2 : c.argTypes.toList = [T, T2]) :
    OpOK P B M Z0 w0 σ a w o (opAppend X.C o.dst s x T T2) := by
  intro out hv u hu Q
  have hrun : ∀ V w', (Builtin.append_ #[T, T2] o.type #[a.eval s, a.eval x]).run P w = .ok V w' → (execOp a.eval o).run P w = .ok (.value V) w' := by
    intro V w' hl
    have e1 : c.args = #[s, x] := by rw [← Array.toArray_toList (xs := c.args), h1]
    have e2 : c.argTypes = #[T, T2] := by rw [← Array.toArray_toList (xs := c.argTypes), h2]
    unfold execOp
    rw [ho]
    simp only [resolve, hc, e1, e2, List.map_toArray, List.map_cons, List.map_nil]
    show (Builtin.append_ #[T, T2] o.type #[a.eval s, a.eval x] >>= fun v => pure (Next.value v)).run P w = _
    rw [Sem.run_bind, hl]; rfl
  unfold opAppend at hv
  split at hv
  · cases hv
  rename_i d hd
  obtain ⟨⟨g, u1⟩, h3, hv1⟩ := Rd.bind_some hv
  obtain ⟨⟨m, u2⟩, h4, hv2⟩ := Rd.bind_some hv1
  clear hv hv1
  simp only at hv2
  split at hv2
  · rename_i hme
    split at hv2
    · rename_i hq
      obtain ⟨hq1, hT, hT2, hz⟩ := hq
      split at hv2
      · rename_i hdd
        simp only [Bool.and_eq_true] at hdd
        simp only [Rd.val, Option.some.injEq] at hv2
        subst hv2
        obtain ⟨hb, rfl⟩ := run_br hu
        simp only [decide_eq_true_eq] at hb
        obtain ⟨gT, ge, gq, gxs⟩ := g
        obtain ⟨mT, me, mq, mxs⟩ := m
        simp only at hme hq1 hT hT2 hz hb
        subst hme
        subst hq1
        obtain ⟨cells, Fe, _, ho1, hE1, hF1, hF2, hF3, hea1⟩ := grown_ok (X := X) I h3
        obtain ⟨A, c2, news, Fm, hx, hA, hE2, hF4, hea2⟩ := appended_ok I h4
        obtain ⟨e1, e2, e3⟩ := K.under hT
        obtain ⟨f1, f2, f3⟩ := K.under hT2
        obtain ⟨i, z, z1, z2, z3, z4⟩ := K.zero e2 hz
        obtain ⟨i', b1, b2, b3⟩ := K.bytes T _ _ hT
        rw [z1] at b1
        cases b1
        have hzs : z.cells.size = me.cells := by
          have := (zero_rep w Z hz (hintOK_fr hz)).length
          rw [← z4] at this
          simpa using this
        have hnl : news.length = mxs.length * me.cells := hE2.length (fun _ _ _ h => h.length)
        have hone : ∀ v ∈ news, v.oneCell' = true := hE2.all (fun _ _ _ h => h.one)
        have hmax : gxs.length + mxs.length ≤ maxLen := by
          have h5 : (gxs.length + mxs.length) * 1 ≤ (gxs.length + mxs.length) * X.C.bytes T := Nat.mul_le_mul_left _ (by omega)
          simp only [maxLen]; omega
        obtain ⟨A0, c0, hs0, _⟩ := own_cells ho1
        have hres : ∃ v' w', (Builtin.append_ #[T, T2] o.type #[a.eval s, a.eval x]).run P w = .ok v' w' ∧ w'.ownsRow 0 gT me.cells v' (gxs.length + mxs.length) (cells ++ news) ∧ w.grownBy w' (a.eval s).ownBlock ∧ (∀ b, v'.ownBlock = some b → (a.eval s).ownBlock = some b ∨ w.heap.size ≤ b ∧ b < w'.heap.size) := by
          have hty : (Builtin.append_ #[T, T2] o.type #[a.eval s, a.eval x]).run P w = (Builtin.append_ #[T, T] o.type #[a.eval s, a.eval x]).run P w := by
            rw [hs0]; exact append_types e1 z1 f1 _ _ _ _ _
          rw [hty, hx]
          by_cases hmx : mxs = []
          · subst hmx
            have hn0 : news = [] := List.length_eq_zero_iff.1 (by simpa using hnl)
            subst hn0
            cases A with
            | none =>
              exact ⟨a.eval s, w, append_none 0 T o.type gT i me.cells e1 z1 _ gxs.length c2 cells ho1, by simpa using ho1, ⟨rfl, rfl, rfl, Nat.le_refl _, fun _ _ _ => rfl⟩, fun b h => .inl h⟩
            | some ad => exact append_run T o.type gT i z me.cells (X.C.bytes T) e1 z1 z3 z2 b2 hzs e3 (a.eval s) gxs.length cells ho1 ad 0 c2 [] (by simp) (fun j u h => by simp at h) (fun u h => by cases h) (by simpa using hmax) (by simpa using hb)
          · obtain ⟨ad, rfl, hs, hcell⟩ := hA hmx
            exact append_run T o.type gT i z me.cells (X.C.bytes T) e1 z1 z3 z2 b2 hzs e3 (a.eval s) gxs.length cells ho1 ad mxs.length c2 news hnl (fun j u h => hcell j u h) hone hmax hb
        obtain ⟨v', w', r1, r2, r3, r4⟩ := hres
        have hfr : ∀ b, b < w.heap.size → (a.eval s).ownBlock ≠ some b → w'.heap[b]? = w.heap[b]? := fun b h h' => r3.block b h (fun e => h' e.symm)
        have hZ' : ∀ b, (Z b ∨ Iced (u1 ++ u2) F b) → b < w.heap.size ∧ (a.eval s).ownBlock ≠ some b := by
          rintro b (h | ⟨r, st, h5, h6, h7⟩)
          · refine ⟨(I.z b h).2, fun e => ?_⟩
            obtain ⟨r, _, _, _, h5⟩ := hF1 b e
            exact (I.own r b h5).1 h
          · refine ⟨I.lt_size h7, fun e => ?_⟩
            -- nothing is iced here
            obtain ⟨r2, s2, h8, h9, h10⟩ := hF1 b e
            have := I.disj r r2 b h7 h10
            subst this
            rcases List.mem_append.1 h5 with h5 | h5
            · exact appended_un_g h3 h5 h6
            · exact appended_un h4 h5 h6
        have hEl : ElemsRep (fun y => Rep w' (fun b => Z b ∨ Iced (u1 ++ u2) F b) me mq y) (gxs ++ mxs) (cells ++ news) (fun b => Fe b ∨ Fm b) := by
          refine ElemsRep.append (F1 := Fe) (F2 := Fm) ?_ ?_ ⟨fun b => Iff.rfl, fun b h5 h6 => freed_apart I hdd.1 (hF2 b h5) (hF4 b h6)⟩
          · refine hE1.monoF (S := Fe) (fun _ _ _ hs h => h.frame (fun b hz => ⟨.inl hz, hfr b (I.z b hz).2 (hZ' b (.inl hz)).2⟩) (fun b hb => ?_)) (fun _ h => h)
            have h5 := hs b hb
            obtain ⟨r, _, _, _, h6⟩ := hF2 b h5
            exact hfr b (I.lt_size h6) (fun e => hF3 b e h5)
          · refine hE2.monoF (S := Fm) (fun _ _ _ hs h => h.frame (fun b hz => ⟨.inl hz, hfr b (I.z b hz).2 (hZ' b (.inl hz)).2⟩) (fun b hb => ?_)) (fun _ h => h)
            have h5 := hs b hb
            obtain ⟨r, _, _, _, h6⟩ := hF4 b h5
            exact hfr b (I.lt_size h6) (fun e => freed_apart I hdd.1 (hF1 b e) (hF4 b h5))
        have hout := ok_putM (Fe := fun b => v'.ownBlock = some b ∨ (Fe b ∨ Fm b)) (more := u1 ++ u2) (e := .val (.sl gT me) (.own mq) (gxs ++ mxs)) I hd (hrun _ _ r1) (hea1.append hea2) hdd.1 (notIn_ok hdd.2)
          ⟨r3.os, r3.tape, r3.output, r3.size, fun b h5 h6 => hfr b h5 (fun e => h6 (freed_append.2 (.inl (hF1 b e)))), Dr.of_le (run_drawn r1)⟩ ?_ ?_ rfl Q
        · exact hout
        · refine .mk1 rfl ?_ ⟨v', cells ++ news, fun b => Fe b ∨ Fm b, rfl, by rw [List.length_append]; exact r2, hEl, fun b => Iff.rfl, ?_⟩
          · rintro cs rfl
            rcases r2.2 with ⟨h, _⟩ | ⟨g, cap, cur, h, _⟩ <;> cases h
          · intro b h5 h6
            rcases r4 b h5 with h7 | h7
            · rcases h6 with h6 | h6
              · exact hF3 b h7 h6
              · exact freed_apart I hdd.1 (hF1 b h7) (hF4 b h6)
            · rcases h6 with h6 | h6
              · obtain ⟨r, _, _, _, h8⟩ := hF2 b h6
                have := I.lt_size h8; omega
              · obtain ⟨r, _, _, _, h8⟩ := hF4 b h6
                have := I.lt_size h8; omega
        · rintro b (h5 | h5 | h5)
          · rcases r4 b h5 with h7 | h7
            · exact .inl (freed_append.2 (.inl (hF1 b h7)))
            · exact .inr h7
          · exact .inl (freed_append.2 (.inl (hF2 b h5)))
          · exact .inl (freed_append.2 (.inr (hF4 b h5)))
      · cases hv2
    · cases hv2
  · cases hv2
end
end Go.K

/- K, part XC: clear. -/
set_option linter.unusedVariables false
set_option linter.unusedSimpArgs false
namespace Go.K
variable [drI : Dr]
section
variable {P : Program} {X : FC} {B : Nat} {M Z0 : BSet} {w0 : World} {σ : St} {a : Act} {w : World} {Z : BSet} {F : Nat → BSet}

theorem Rep.flatF {w w' : World} {Z Z' : BSet} : ∀ {t : Ty} {q : Ow} {x : t.den} {cs : List Value} {Fo : BSet}, t.flat = true → Rep w Z t q x cs Fo → Rep w' Z' t q x cs Fo ∧ E0 Fo
  | .int k, q, x, cs, Fo, _, h => ⟨h, by rcases h with ⟨_, _, h⟩ | ⟨_, _, _, h⟩ <;> exact h⟩
  | .bool, q, x, cs, Fo, _, h => ⟨h, by rcases h with ⟨_, _, h⟩ | ⟨_, _, _, h⟩ <;> exact h⟩
  | .str, q, x, cs, Fo, _, h => ⟨h, by rcases h with ⟨_, _, h⟩ | ⟨_, _, _, h⟩ <;> exact h⟩
  | .unit, q, x, cs, Fo, _, h => ⟨h, h.2⟩
  | .pair t1 t2, q, x, cs, Fo, hf, h => by
    simp only [Ty.flat, Bool.and_eq_true] at hf
    obtain ⟨c1, c2, F1, F2, rfl, h1, h2, j⟩ := h
    exact ⟨⟨c1, c2, F1, F2, rfl, (h1.flatF hf.1).1, (h2.flatF hf.2).1, j⟩, fun b hb => ((j.1 b).1 hb).elim ((h1.flatF (w' := w) (Z' := Z) hf.1).2 b) ((h2.flatF (w' := w) (Z' := Z) hf.2).2 b)⟩
  | .arr n e, q, x, cs, Fo, hf, h => by
    rcases h with ⟨h1, h2, h3, h4⟩ | h
    · exact ⟨.inl ⟨h1, h2, h3.mono (fun _ _ _ h => (Rep.flatF (t := e) hf h).1), h4⟩, h4⟩
    · exact ⟨.inr h, h.2.2.2⟩
  | .sl T e, q, x, cs, Fo, hf, h => by simp [Ty.flat] at hf
  | .ptr t, q, x, cs, Fo, hf, h => by simp [Ty.flat] at hf
  | .mp k v, q, x, cs, Fo, hf, h => by simp [Ty.flat] at hf
theorem zero_flat (w : World) (Z : BSet) {t : Ty} (h : t.hasZero = true) : Rep w Z t .fr t.zero (zcells t) (fun _ => False) := zero_rep w Z h (hintOK_fr h)
theorem ElemsRep.e00 {w : World} {Z : BSet} {t : Ty} (hf : t.flat = true) {xs : List t.den} {cs : List Value} {Fo : BSet} (h : ElemsRep (fun y => Rep w Z t .fr y) xs cs Fo) : Fo = fun _ => False :=
  E0.eq (h.e0 fun _ _ _ h => (h.flatF (w' := w) (Z' := Z) hf).2)
theorem mid_take {α : Type} (cur news : List α) (a b n : Nat) (h1 : a ≤ b) (h2 : b ≤ n) (h3 : n ≤ cur.length) (hn : news.length = b - a) :
    (cur.take a ++ news ++ cur.drop (a + (b - a))).take n = (cur.take n).take a ++ (news ++ (cur.take n).drop b) := by
  rw [List.take_take, Nat.min_eq_left (by omega), List.take_append, List.take_of_length_le (l := cur.take a ++ news) (by simp; omega), List.append_assoc, List.drop_take]
  simp only [List.length_append, List.length_take, hn]
  rw [show a + (b - a) = b by omega, show n - (min a cur.length + (b - a)) = n - b by omega]
/-- Cells of flat elements, some of them zero. -/
theorem cleared_rep {w w' : World} {Z Z' : BSet} {t : Ty} (hf : t.flat = true) (hz : t.hasZero = true) {xs : List t.den} {cs : List Value} {Fo : BSet} (h : ElemsRep (fun y => Rep w Z t .fr y) xs cs Fo) {lo hi : Nat} (h1 : lo ≤ hi) (h2 : hi ≤ xs.length) :
    ElemsRep (fun y => Rep w' Z' t .fr y) (cleared xs t.zero lo hi) (cs.take (lo * t.cells) ++ ((List.replicate (hi - lo) (zcells t)).flatten ++ cs.drop (hi * t.cells))) (fun _ => False) := by
  have h0 := h.e00 hf
  subst h0
  have e : xs = xs.take lo ++ ((xs.take hi).drop lo ++ xs.drop hi) := by
    rw [← List.append_assoc]
    rw [show xs.take lo = (xs.take hi).take lo by rw [List.take_take]; congr 1; omega]
    rw [List.take_append_drop, List.take_append_drop]
  rw [e] at h
  obtain ⟨c1, c2, F1, F2, rfl, r1, r2, j1⟩ := h.split
  obtain ⟨d1, d2, G1, G2, rfl, r3, r4, j2⟩ := r2.split
  have hl := fun x cs F (h : Rep w Z t .fr x cs F) => h.length
  have l1 := r1.length hl
  have l3 := r3.length hl
  rw [List.length_take, Nat.min_eq_left (by omega)] at l1
  rw [List.length_drop, List.length_take, Nat.min_eq_left h2] at l3
  have hmul : (hi - lo) * t.cells + lo * t.cells = hi * t.cells := by rw [← Nat.add_mul]; congr 1; omega
  have t1 : (c1 ++ (d1 ++ d2)).take (lo * t.cells) = c1 := by rw [← l1]; exact List.take_left' rfl
  have t2 : (c1 ++ (d1 ++ d2)).drop (hi * t.cells) = d2 := by
    rw [← List.append_assoc]; exact List.drop_left' (by rw [List.length_append, l1, l3]; omega)
  rw [t1, t2]
  have m1 := r1.mono (R' := fun y => Rep w' Z' t .fr y) (fun _ _ _ h => (h.flatF hf).1)
  have m4 := r4.mono (R' := fun y => Rep w' Z' t .fr y) (fun _ _ _ h => (h.flatF hf).1)
  rw [m1.e00 hf] at m1
  rw [m4.e00 hf] at m4
  exact m1.append ((elems_replicate (zero_flat w' Z' hz) (hi - lo)).append m4 Join.none) Join.none
theorem clear_ok (K : CtxOK P X) (I : Inv B M Z0 w0 σ a w Z F) {o : Oper} {c : Call} {x : Operand} {T : Nat} (ho : o.op = .call c) (hc : c.callee = .builtin .clear) (h1 : c.args.toList = [x]) (h2 : c.argTypes.toList = [T]) :
    OpOK P B M Z0 w0 σ a w o (opClear X.C o.dst x T) := by
  intro out hv u hu Q
  have hrun : ∀ w', (Builtin.clear_ #[T] o.type #[a.eval x]).run P w = .ok (.tuple #[]) w' → (execOp a.eval o).run P w = .ok (.value (.tuple #[])) w' := by
    intro w' hl
    have e1 : c.args = #[x] := by rw [← Array.toArray_toList (xs := c.args), h1]
    have e2 : c.argTypes = #[T] := by rw [← Array.toArray_toList (xs := c.argTypes), h2]
    unfold execOp
    rw [ho]
    simp only [resolve, hc, e1, e2, List.map_toArray, List.map_cons, List.map_nil]
    show (Builtin.clear_ #[T] o.type #[a.eval x] >>= fun v => pure (Next.value v)).run P w = _
    rw [Sem.run_bind, hl]; rfl
  unfold opClear at hv
  split at hv
  · cases hv
  rename_i hd
  have hdn : o.dst = none := by cases hd' : o.dst <;> simp_all
  obtain ⟨e, he, hv⟩ := Rd.bind_some hv
  obtain ⟨Fo, h3, h4⟩ := opd_ref I he
  split at hv
  rotate_left
  · cases hv
  rename_i r v lo hi
  simp only [Rd.val] at hv
  split at hv
  rotate_left
  · cases hv
  rename_i Te t xs hr
  split at hv
  rotate_left
  · cases hv
  rename_i hq
  obtain ⟨hver, hf, hz, hT⟩ := hq
  simp only [Rd.val, Option.some.injEq] at hv
  subst hv
  simp only [Out.run, Option.some.injEq] at hu
  subst hu
  obtain ⟨_, T', te, q', ys, l', H, e2, e3, e4, e5⟩ := h4.2 hver ⟨.sl Te t, .own .fr, xs⟩ (by rw [hr]; rfl)
  simp only [TV.path, Option.some.injEq] at e2
  cases e2
  simp only [pathLoc, Option.some.injEq] at e3
  subst e3
  obtain ⟨h7, h8, A, m1, cap1, A', c1, rfl, hV, h9, h10, h11, h12⟩ := e5
  -- the root
  have hI := I.ent r
  rw [hr] at hI
  have hsc := hI.scalar rfl
  obtain ⟨⟨V, cells, Fe, hVr, hown, hel, hF, hdj⟩, hagg⟩ := hI
  rw [hsc] at hVr
  simp only [List.cons.injEq, and_true] at hVr
  have hroot : rootLoc (tm a r) = .hdr (tm a r) := by
    rw [hVr]
    rcases hown.2 with ⟨rfl, _⟩ | ⟨g, cap, cur, rfl, _⟩ <;> rfl
  rw [hroot] at e4
  simp only [Loc.header, Option.some.injEq] at e4
  rw [hVr] at e4
  subst e4
  have hFe := hel.e00 hf
  subst hFe
  obtain ⟨hu1, hu2, hu3⟩ := K.under hT
  -- what is written
  have key : ∃ w', (Builtin.clear_ #[T] o.type #[a.eval x]).run P w = .ok (.tuple #[]) w' ∧ Ext w w' (fun b => F r b) ∧ w'.ownsRow 0 Te t.cells (.slice A m1 cap1) (cleared xs t.zero lo hi).length (cells.take (lo * t.cells) ++ ((List.replicate (hi - lo) (zcells t)).flatten ++ cells.drop (hi * t.cells))) ∧ w'.heap.size = w.heap.size := by
    have hlen : (cleared xs t.zero lo hi).length = xs.length := by simp only [cleared, List.length_append, List.length_take, List.length_replicate, List.length_drop]; omega
    have hcl := hown.1
    have hmul : (hi - lo) * t.cells + lo * t.cells = hi * t.cells := by rw [← Nat.add_mul]; congr 1; omega
    have hle : hi * t.cells ≤ xs.length * t.cells := Nat.mul_le_mul_right _ h8
    have hz1 : (zcells t).length = t.cells := (zero_flat w Z hz).length
    rw [hlen]
    by_cases hlt : lo < hi
    · obtain ⟨ad, rfl, rfl⟩ := h11 hlt
      rcases hown.2 with ⟨h, _⟩ | ⟨g, cap, cur, hsl, _, hg, hn1, hn2, hcs, hct⟩
      · cases h
      simp only [Value.slice.injEq, Option.some.injEq] at hsl
      obtain ⟨rfl, rfl, rfl⟩ := hsl
      obtain ⟨i, z, z1, z2, z3, z4⟩ := K.zero hu2 hz
      obtain ⟨z', hzv, hzc⟩ := K.zeroValue (w := w) hu2 hz
      have hzz : (Builtin.zeroCells z'.cells (hi - lo)).toList = (List.replicate (hi - lo) (zcells t)).flatten := by
        have hzs : 0 < z'.cells.size := by
          have := congrArg List.length hzc
          rw [hz1] at this
          simp at this; omega
        show (madeCells z'.cells ((hi - lo) * z'.cells.size)).toList = _
        rw [madeCells_list _ _ hzs, hzc]
      have hcap : xs.length * t.cells ≤ cap1 * t.cells := Nat.mul_le_mul_right _ hn1
      have hwl : ((List.replicate (hi - lo) (zcells t)).flatten).length = (hi - lo) * t.cells := by simp [hz1]
      have hone : ∀ v ∈ (List.replicate (hi - lo) (zcells t)).flatten, v.oneCell' = true := by
        intro v hv
        obtain ⟨l, hl, hvl⟩ := List.mem_flatten.1 hv
        rw [(List.mem_replicate.1 hl).2] at hvl
        exact (zero_flat w Z hz).one v hvl
      have hst := run_storeCells_at P g (lo * t.cells) Te (List.replicate (hi - lo) (zcells t)).flatten 0 cur w hg (by rw [hwl, hcs]; omega) hone
      simp only [Nat.add_zero, hwl] at hst
      refine ⟨w.setRow g (cur.toList.take (lo * t.cells) ++ (List.replicate (hi - lo) (zcells t)).flatten ++ cur.toList.drop (lo * t.cells + (hi - lo) * t.cells)).toArray, ?_, ?_, ?_, setRow_size _ _ _⟩
      · rw [hV]
        unfold Builtin.clear_
        simp only [List.getElem?_toArray, List.getElem?_cons_zero]
        rw [Sem.run_bind, run_underlying hu1]
        simp only [Result.andThen]
        have hne : hi - lo ≠ 0 := by omega
        obtain ⟨k, hk⟩ : ∃ k, hi - lo = k + 1 := ⟨hi - lo - 1, by omega⟩
        have had : ((⟨g, 0, none⟩ : Addr).add (lo * t.cells)) = ⟨g, lo * t.cells, none⟩ := (add_mem g 0 _).trans (by rw [Nat.zero_add])
        rw [had]
        rw [← hzz] at hst ⊢
        rw [hk] at hst ⊢
        simp only
        rw [Sem.run_bind, hzv]
        simp only [Result.andThen]
        rw [Sem.run_bind, hst]
        rfl
      · have hgl : g < w.heap.size := by
          rcases Nat.lt_or_ge g w.heap.size with h | h
          · exact h
          · rw [Array.getElem?_eq_none h] at hg; cases hg
        refine ⟨setRow_os _ _ _, setRow_tape _ _ _, setRow_output _ _ _, by rw [setRow_size]; exact Nat.le_refl _, fun b hb hn => ?_, Dr.refl _⟩
        have : b ≠ g := fun e => hn ((hF b).2 (.inl (by rw [e]; rfl)))
        exact setRow_other w g b _ this
      · refine ⟨by simp only [List.length_append, List.length_take, List.length_drop, hwl, hcl]; omega, .inr ⟨g, cap1, _, rfl, Nat.zero_le _, setRow_heap w g cur _ Te _ hg, hn1, hn2, ?_, ?_⟩⟩
        · rw [List.size_toArray]; simp only [List.length_append, List.length_take, List.length_drop, hwl, Array.length_toList]; omega
        · rw [← hct]
          have := mid_take cur.toList (List.replicate (hi - lo) (zcells t)).flatten (lo * t.cells) (hi * t.cells) (xs.length * t.cells) (by omega) hle (by have := Array.length_toList (xs := cur); omega) (by rw [hwl]; omega)
          rw [← this]
          congr 2
          rw [show lo * t.cells + (hi - lo) * t.cells = lo * t.cells + (hi * t.cells - lo * t.cells) by omega]
    · have : hi = lo := by omega
      subst this
      refine ⟨w, ?_, Ext.refl _ _, ?_, rfl⟩
      · rw [hV, Nat.sub_self]
        unfold Builtin.clear_
        simp only [List.getElem?_toArray, List.getElem?_cons_zero]
        rw [Sem.run_bind, run_underlying hu1]
        cases A' <;> rfl
      · rw [Nat.sub_self, List.replicate_zero, List.flatten_nil, List.nil_append, List.take_append_drop]
        exact hown
  obtain ⟨w', k1, k2, k3, k4⟩ := key
  refine wp_value (hrun w' k1) ?_
  rw [hdn]
  have hE2 := cleared_rep (w' := w') (Z' := fun b => Z b ∨ Iced [] F b ∨ False) hf hz hel h7 h8
  exact I.reroot (u := []) (e := .val (.sl Te t) (.own .fr) (cleared xs t.zero lo hi)) (c := ⟨.sl Te t, .own .fr, xs⟩) (c' := ⟨.sl Te t, .own .fr, cleared xs t.zero lo hi⟩) (F' := fun b => (Value.slice A m1 cap1).ownBlock = some b) (by rw [hr]; rfl) (by rw [hr]; simp [Ent.withContent]) eaten_nil (by simp) rfl (by simp) k2 (fun _ => False) (fun _ h => h.elim)
    (by
      rw [hVr]
      exact .mk1 rfl (by simp) ⟨_, _, fun _ => False, rfl, k3, hE2, fun b => by simp, fun b _ h => h⟩)
    (fun b hb => .inl ((hF b).2 (.inl hb))) (.inl (by omega))
end
end Go.K

/- K, part Y: contracts; arguments of a call. -/
set_option linter.unusedVariables false
set_option linter.unusedSimpArgs false
namespace Go.K
variable [drI : Dr]

/-- The values at the in-out positions. -/
def mutsOf {α : Type} (m : Nat → Mode) : Nat → List α → List α
  | _, [] => []
  | i, v :: vs => match m i with
    | .mut => v :: mutsOf m (i + 1) vs
    | _ => mutsOf m (i + 1) vs
/-- The values of a call's result. -/
def unpack (n : Nat) (v : Value) (vals : List Value) : Prop := (n = 1 ∧ vals = [v]) ∨ (n ≠ 1 ∧ ∃ a, v = .tuple a ∧ vals = a.toList)
structure CallPost (w w' : World) (Z Fo : BSet) (muts : List Value) (res fin : List Arg) (v : Value) : Prop where
  post : ∃ (Z' Fr Fb : BSet) (vals : List Value), Ext w w' Fo ∧ (∀ b, Z b → Z' b) ∧ (∀ b, Z' b → b < w'.heap.size ∧ (Z b ∨ Fo b ∨ w.heap.size ≤ b)) ∧
    unpack res.length v vals ∧ ArgsRep w' Z' res vals Fr ∧ ArgsRep w' Z' fin muts Fb ∧
    (∀ b, (Fr b ∨ Fb b) → ¬ Z' b ∧ b < w'.heap.size ∧ (Fo b ∨ w.heap.size ≤ b)) ∧ ∀ b, Fr b → Fb b → False
/-- A function does as the table says. -/
def FnOK (P : Program) (C : Ctx) (g : Nat) : Prop :=
  ∀ args res fin, (C.Φ g args).run = some (res, fin) → (∃ fn, P.funcs[g]? = some fn ∧ fn.body.isSome = true ∧ (fn.name == "runtime.NumGoroutine") = false) ∧ ∀ (w : World) (Z Fo : BSet) (vs : List Value), ArgsRep w Z args vs Fo → (∀ b, Z b → b < w.heap.size) → (∀ b, Fo b → ¬ Z b ∧ b < w.heap.size) →
    Calls P g vs.toArray w fun e w' => match e with
      | .returned v => CallPost w w' Z Fo (mutsOf (C.mode g) 0 vs) res fin v
      | _ => False

section
variable {P : Program} {X : FC} {B : Nat} {M Z0 : BSet} {w0 : World} {σ : St} {a : Act} {w : World} {Z : BSet} {F : Nat → BSet}

theorem sl_root (I : Inv B M Z0 w0 σ a w Z F) {r s v : Nat} {T : Nat} {e : Ty} {q : Ow} {y : List e.den} (hs : (σ.at s).e = .sref r v [] none) (hv : (σ.at r).ver = v) (hr : (σ.at r).e = .val (.sl T e) (.own q) y) : tm a s = tm a r := by
  have hC := I.refCopy s
  rw [hs] at hC
  obtain ⟨h1, T2, te, q2, xs, l, H, h3, h4, h5, h6⟩ := hC.2 hv ⟨.sl T e, .own q, y⟩ (by rw [hr]; rfl)
  simp only [pathLoc, Option.some.injEq] at h4
  subst h4
  simp only [WinRep] at h6
  have hI' := I.ent r
  rw [hr] at hI'
  have h0 := hI'.1
  rw [hI'.scalar rfl] at h0
  obtain ⟨V', cells, Fe, hV, ho, _⟩ := h0
  simp only [List.cons.injEq, and_true] at hV
  rw [h6]
  rw [hV] at h5 ⊢
  rcases ho.2 with ⟨rfl, _⟩ | ⟨g, cap, cur, rfl, _⟩
  · simpa [rootLoc, Loc.header] using h5.symm
  · simpa [rootLoc, Loc.header] using h5.symm
theorem ptr_root (I : Inv B M Z0 w0 σ a w Z F) {r s v : Nat} {t : Ty} {q : Ow} {y : t.den} (hs : (σ.at s).e = .pref r v []) (hv : (σ.at r).ver = v) (hr : (σ.at r).e = .val (.ptr t) (.own q) y) : tm a s = tm a r := by
  have hC := I.refCopy s
  rw [hs] at hC
  obtain ⟨h1, _, b, o, h3, h4⟩ := (hC.2 hv).1 ⟨t, q, y⟩ (by rw [hr]; rfl)
  simp only [pathLoc, Option.some.injEq] at h3
  have hI' := I.ent r
  rw [hr] at hI'
  obtain ⟨g, cur, T, Fe, hV, _⟩ := hI'.1
  rw [hI'.scalar rfl] at hV
  simp only [List.cons.injEq, and_true] at hV
  rw [hV] at h3
  simp only [rootLoc, Loc.mem.injEq] at h3
  rw [h4, hV, ← h3.1, ← h3.2]
theorem argMut_ok (I : Inv B M Z0 w0 σ a w Z F) {x : Operand} {g : Arg} {r : Nat} (h : (argMut x).val σ = some (g, r)) :
    a.eval x = tm a r ∧ ∃ t q y, g = .v t (.own q) y ∧ (σ.at r).e = .val t (.own q) y ∧ isRef t = true ∧ q.whole = true := by
  cases x with
  | tmp s =>
    simp only [argMut, Rd.val] at h
    generalize hee : (σ.at s).e = e at h
    split at h
    · split at h
      · rename_i ty q y hq
        simp only [Rd.val, Option.some.injEq, Prod.mk.injEq] at h
        obtain ⟨h1, h2⟩ := h
        subst h1; subst h2
        simp only [Bool.and_eq_true] at hq
        exact ⟨rfl, _, _, _, rfl, hee, hq.1, hq.2⟩
      · cases h
    · rename_i r' v'
      simp only [Rd.val] at h
      split at h
      · rename_i hv
        split at h
        · rename_i T e q y hr
          split at h
          · rename_i hq
            simp only [Rd.val, Option.some.injEq, Prod.mk.injEq] at h
            obtain ⟨h1, h2⟩ := h
            subst h1; subst h2
            exact ⟨sl_root I hee hv hr, _, _, _, rfl, hr, rfl, hq⟩
          · cases h
        · cases h
      · cases h
    · rename_i r' v'
      simp only [Rd.val] at h
      split at h
      · rename_i hv
        split at h
        · rename_i t q y hr
          split at h
          · rename_i hq
            simp only [Rd.val, Option.some.injEq, Prod.mk.injEq] at h
            obtain ⟨h1, h2⟩ := h
            subst h1; subst h2
            exact ⟨ptr_root I hee hv hr, _, _, _, rfl, hr, rfl, hq⟩
          · cases h
        · cases h
      · cases h
    · rename_i r' v'
      simp only [Rd.val] at h
      split at h
      · rename_i hv
        split at h
        · rename_i kt vt q y hr
          split at h
          · rename_i hq
            simp only [Rd.val, Option.some.injEq, Prod.mk.injEq] at h
            obtain ⟨h1, h2⟩ := h
            subst h1; subst h2
            have hR := I.ref s
            unfold RefOK at hR
            rw [hee] at hR
            exact ⟨hR.2 hv, _, _, _, rfl, hr, rfl, hq⟩
          · cases h
        · cases h
      · cases h
    · cases h
  | _ => cases h

theorem ZB.mono {bs bs' : List Nat} (h : ∀ r, r ∈ bs → r ∈ bs') : ∀ b, ZB Z F bs b → ZB Z F bs' b := fun b hb => hb.imp id fun ⟨r, hr, h2⟩ => ⟨r, h r hr, h2⟩
theorem ArgRep.monoZ {w : World} {Z Z' : BSet} (h : ∀ b, Z b → Z' b) {a : Arg} {V : Value} {Fo : BSet} (hr : ArgRep w Z a V Fo) : ArgRep w Z' a V Fo := hr.frame (fun b hb => ⟨h b hb, rfl⟩) (fun _ _ => rfl)
theorem ArgsRep.monoZ {w : World} {Z Z' : BSet} (h : ∀ b, Z b → Z' b) {a : List Arg} {V : List Value} {Fo : BSet} (hr : ArgsRep w Z a V Fo) : ArgsRep w Z' a V Fo := hr.frame (fun b hb => ⟨h b hb, rfl⟩) (fun _ _ => rfl)
theorem FRep.argRep {w : World} {Z : BSet} {a : Arg} {V : Value} (h : FRep w Z a V) : ArgRep w Z a V (fun _ => False) := by
  cases h with
  | v h => exact h
  | fn h1 h2 => exact ⟨.fn h1 h2, fun _ h => h⟩
  | pfn h1 h2 h3 h4 => exact ⟨.pfn h1 h2 h3 h4, fun _ h => h⟩
theorem FReps.argsRep {w : World} {Z : BSet} : ∀ {a : List Arg} {V : List Value}, FReps w Z a V → ArgsRep w Z a V (fun _ => False)
  | _, _, .nil => ⟨rfl, fun _ h => h⟩
  | _, _, .cons h1 h2 => ⟨_, _, _, _, rfl, h1.argRep, h2.argsRep, Join.none⟩
theorem ArgsRep.append {w : World} {Z : BSet} : ∀ {a1 a2 : List Arg} {V1 V2 : List Value} {F1 F2 : BSet}, ArgsRep w Z a1 V1 F1 → ArgsRep w Z a2 V2 F2 → (∀ b, F1 b → F2 b → False) → ArgsRep w Z (a1 ++ a2) (V1 ++ V2) (fun b => F1 b ∨ F2 b)
  | [], a2, V1, V2, F1, F2, h1, h2, _ => by
    obtain ⟨rfl, h0⟩ := h1
    have : (fun b => F1 b ∨ F2 b) = F2 := funext fun b => by simp [h0 b]
    rw [this]; exact h2
  | x :: a1, a2, _, V2, F1, F2, ⟨V, Vs, G1, G2, rfl, h3, h4, j⟩, h2, hd => by
    refine ⟨V, Vs ++ V2, G1, fun b => G2 b ∨ F2 b, rfl, h3, h4.append h2 (fun b hb hb' => hd b (j.right hb) hb'), fun b => ?_, fun b hb hb' => ?_⟩
    · show (F1 b ∨ F2 b) ↔ _
      rw [j.1 b]; constructor
      · rintro ((h | h) | h)
        · exact .inl h
        · exact .inr (.inl h)
        · exact .inr (.inr h)
      · rintro (h | h | h)
        · exact .inl (.inl h)
        · exact .inl (.inr h)
        · exact .inr h
    · rcases hb' with hb' | hb'
      · exact j.2 b hb hb'
      · exact hd b (j.left hb) hb'
theorem given_keep {C : Ctx} {T : Nat} {h : Ow} {x : Operand} {tv : TV} {u : Upd} (hv : (given C T h true x).val σ = some (tv, u)) : ∀ p, p ∈ u → p.2.e = .un := by
  have fin : ∀ r v, u = [(r, ⟨v, .un⟩)] → ∀ p, p ∈ u → p.2.e = .un := by
    rintro r v rfl p hp
    simp only [List.mem_singleton] at hp
    subst hp; rfl
  have fin0 : u = [] → ∀ p, p ∈ u → p.2.e = .un := by rintro rfl p hp; cases hp
  cases x with
  | tmp r =>
    simp only [given, Rd.val] at hv
    split at hv
    · split at hv
      · simp only [Rd.val, Option.some.injEq, Prod.mk.injEq] at hv; exact fin0 hv.2.symm
      · split at hv
        · simp only [if_true, Rd.val, Option.some.injEq, Prod.mk.injEq] at hv; exact fin _ _ hv.2.symm
        · cases hv
    · simp only [Rd.val] at hv
      split at hv
      · split at hv
        · split at hv
          · simp only [if_true, Rd.val, Option.some.injEq, Prod.mk.injEq] at hv; exact fin _ _ hv.2.symm
          · cases hv
        · cases hv
      · cases hv
    · cases hv
  | const c =>
    simp only [given] at hv
    split at hv
    · split at hv <;> (simp only [Rd.val, Option.some.injEq, Prod.mk.injEq] at hv; exact fin0 hv.2.symm)
    · cases hv
  | func f => cases hv
  | global g => cases hv
theorem iced_none {u : Upd} (h : ∀ p, p ∈ u → p.2.e = .un) : (fun b => Z b ∨ Iced u F b) = Z := by
  funext b
  apply propext
  constructor
  · rintro (h1 | ⟨r, s, h2, h3, _⟩)
    · exact h1
    · exact absurd (h _ h2) h3
  · exact .inl
theorem argsOf_ok (I : Inv B M Z0 w0 σ a w Z F) {C : Ctx} {f : Nat} : ∀ {ops : List (Operand × Nat)} {i : Nat} {z : Args}, (argsOf C f i ops).val σ = some z → distinct (z.upd.map (·.1) ++ z.back) = true →
    ∃ Fo, ArgsRep w (ZB Z F z.borrowed) z.args (ops.map fun x => a.eval x.1) Fo ∧ (∀ b, Fo b → Freed z.upd F b ∨ ∃ r, r ∈ z.back ∧ F r b) ∧ Eaten σ z.upd ∧ (∀ t, t ∈ z.upd.map (·.1) → t < σ.length) ∧ (∀ p, p ∈ z.upd → p.2.e = .un) ∧
      mutsOf (C.mode f) i (ops.map fun x => a.eval x.1) = z.back.map (tm a) ∧ (∀ r, r ∈ z.back → ∃ t q y, (σ.at r).e = .val t (.own q) y ∧ isRef t = true ∧ q.whole = true) ∧ z.args.length = ops.length
  | [], i, z, h, hd => by
    simp only [argsOf, Rd.val, Option.some.injEq] at h
    subst h
    exact ⟨fun _ => False, ⟨rfl, fun _ h => h⟩, fun b h => h.elim, eaten_nil, by simp, by simp, rfl, by simp, rfl⟩
  | (o, T) :: ops, i, z, h, hd => by
    simp only [argsOf] at h
    split at h
    · rename_i hm
      obtain ⟨⟨g, bs⟩, h1, h2⟩ := Rd.bind_some h
      obtain ⟨z', h3, h4⟩ := Rd.bind_some h2
      simp only [Rd.val, Option.some.injEq] at h4
      subst h4
      obtain ⟨Fo, r1, r2, r3, r4, r5, r6, r7, r8⟩ := argsOf_ok I h3 hd
      have h5 := argRd_ok I h1
      refine ⟨Fo, ⟨_, _, fun _ => False, Fo, rfl, (h5.mono (ZB.mono fun r hr => List.mem_append_left _ hr)).argRep, r1.monoZ (ZB.mono fun r hr => List.mem_append_right _ hr), fun b => by simp, fun b h => h.elim⟩, r2, r3, r4, r5, ?_, r7, by simp [r8]⟩
      simp only [List.map_cons, mutsOf, hm]
      exact r6
    · rename_i hm
      obtain ⟨⟨tv, u⟩, h1, h2⟩ := Rd.bind_some h
      obtain ⟨z', h3, h4⟩ := Rd.bind_some h2
      simp only [Rd.val, Option.some.injEq] at h4
      subst h4
      simp only [List.map_append, List.append_assoc] at hd
      obtain ⟨d1, d2, d3⟩ := distinct_append hd
      obtain ⟨Fo, r1, r2, r3, r4, r5, r6, r7, r8⟩ := argsOf_ok I h3 d2
      obtain ⟨Fg, g1, g2, g3⟩ := given_ok I h1
      have hk := given_keep h1
      rw [iced_none hk] at g1
      refine ⟨fun b => Fg b ∨ Fo b, ⟨_, _, Fg, Fo, rfl, g1.monoZ (fun b hb => .inl hb), r1, fun b => Iff.rfl, fun b hb hb' => ?_⟩, ?_, g3.append r3, ?_, ?_, ?_, r7, by simp [r8]⟩
      · obtain ⟨r, s, e1, _, e2⟩ := g2 b hb
        rcases r2 b hb' with ⟨r', s', e3, _, e4⟩ | ⟨r', e3, e4⟩
        · have := I.disj r r' b e2 e4
          subst this
          exact d3 r (List.mem_map.2 ⟨_, e1, rfl⟩) (List.mem_append_left _ (List.mem_map.2 ⟨_, e3, rfl⟩))
        · have := I.disj r r' b e2 e4
          subst this
          exact d3 r (List.mem_map.2 ⟨_, e1, rfl⟩) (List.mem_append_right _ e3)
      · rintro b (hb | hb)
        · exact .inl (freed_append.2 (.inl (g2 b hb)))
        · exact (r2 b hb).imp (fun h => freed_append.2 (.inr h)) id
      · intro t ht
        rw [List.map_append] at ht
        rcases List.mem_append.1 ht with ht | ht
        · exact given_range h1 t ht
        · exact r4 t ht
      · intro p hp
        rcases List.mem_append.1 hp with hp | hp
        · exact hk p hp
        · exact r5 p hp
      · simp only [List.map_cons, mutsOf, hm]
        exact r6
    · rename_i hm
      obtain ⟨⟨g, r⟩, h1, h2⟩ := Rd.bind_some h
      obtain ⟨z', h3, h4⟩ := Rd.bind_some h2
      simp only [Rd.val, Option.some.injEq] at h4
      subst h4
      simp only at hd
      obtain ⟨d1, d2, d3⟩ := distinct_append hd
      simp only [distinct, Bool.and_eq_true, Bool.not_eq_true', List.contains_eq_mem, decide_eq_false_iff_not] at d2
      have hd' : distinct (z'.upd.map (·.1) ++ z'.back) = true := by
        clear h1 h2 h3 h
        generalize z'.upd.map (·.1) = l at hd d1 d3
        induction l with
        | nil => exact d2.2
        | cons x l ih =>
          simp only [List.cons_append, distinct, Bool.and_eq_true, Bool.not_eq_true', List.contains_eq_mem, decide_eq_false_iff_not, List.mem_append, List.mem_cons, not_or] at hd ⊢
          simp only [distinct, Bool.and_eq_true] at d1
          exact ⟨⟨hd.1.1, hd.1.2.2⟩, ih hd.2 d1.2 (fun r hr hr' => d3 r (List.mem_cons_of_mem _ hr) hr')⟩
      obtain ⟨Fo, r1, r2, r3, r4, r5, r6, r7, r8⟩ := argsOf_ok I h3 hd'
      obtain ⟨e1, t, q, y, rfl, e2, e3, e4⟩ := argMut_ok I h1
      have hI := I.ent r
      rw [e2] at hI
      refine ⟨fun b => F r b ∨ Fo b, ⟨_, _, F r, Fo, rfl, ?_, r1, fun b => Iff.rfl, fun b hb hb' => ?_⟩, ?_, r3, r4, r5, ?_, ?_, by simp [r8]⟩
      · show VRep w _ t (.own q) y (a.eval o) (F r)
        rw [e1]
        exact hI.monoZ (fun b hb => .inl hb)
      · rcases r2 b hb' with ⟨r', s', e5, _, e6⟩ | ⟨r', e5, e6⟩
        · have := I.disj r r' b hb e6
          subst this
          exact d3 r (List.mem_map.2 ⟨_, e5, rfl⟩) List.mem_cons_self
        · have := I.disj r r' b hb e6
          subst this
          exact d2.1 e5
      · rintro b (hb | hb)
        · exact .inr ⟨r, List.mem_cons_self, hb⟩
        · exact (r2 b hb).imp id fun ⟨r', h5, h6⟩ => ⟨r', List.mem_cons_of_mem _ h5, h6⟩
      · simp only [List.map_cons, mutsOf, hm, r6, e1]
      · intro r' hr'
        rcases List.mem_cons.1 hr' with rfl | hr'
        · exact ⟨t, q, y, e2, e3, e4⟩
        · exact r7 r' hr'
end
end Go.K

