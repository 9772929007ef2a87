/- Part 1 of an evaluator of the language's code on plain values, with the proof that what it gives is what the code does; no condition. -/
import Derived.Laws.Sem
import Derived.LoopN
import Derived.Orders
import Derived.Laws.AppendOwn
import Derived.Laws.OwnMore
import Derived.WalkKit
import Derived.Laws.BytesArg
import Derived.ChangeKeysEq
set_option linter.all false
/- K, part DR: what is run never takes a draw back. -/
set_option linter.unusedVariables false
namespace Go.K
theorem ask_drawn {α : Type} : ∀ (x : Ask α) (w : World), w.drawn ≤ (w.ask x).2.drawn
  | .done a, w => Nat.le_refl _
  | .ask what range k, w => by
    unfold World.ask
    simp only
    split
    · exact ask_drawn (k 0) w
    · exact Nat.le_trans (Nat.le_succ _) (ask_drawn (k _) { w with drawn := w.drawn + 1 })
theorem sys_drawn (w : World) (c : Sys) : w.drawn ≤ (w.sys c).2.drawn := by
  unfold World.sys
  have := ask_drawn (Kernel.perform c w.os) w
  generalize w.ask (Kernel.perform c w.os) = y at this ⊢
  obtain ⟨⟨r, os⟩, w1⟩ := y
  cases r <;> first | exact Nat.le_refl _ | exact this
theorem viewStore_drawn {P : Program} {w : World} {at_ : Addr} {u : TypeId} {k : Addr} {v : Value} {at2 : Bool} {r : World × List Addr} (h : w.viewStore P at_ u k v at2 = .ok r) : r.1.drawn = w.drawn := by
  unfold World.viewStore at h
  simp only [bind, Except.bind, pure, Except.pure] at h
  repeat' split at h
  all_goals first
    | (cases h; done)
    | (cases h; rfl)
theorem farStore_drawn {P : Program} {w : World} {a : Addr} {v : Value} {at2 : Bool} {r : World × List Addr} (h : w.farStore P a v at2 = .ok r) : r.1.drawn = w.drawn := by
  unfold World.farStore at h
  split at h
  · split at h
    · rename_i r' h2
      cases h
      exact viewStore_drawn h2
    · cases h
  · cases h
theorem run_drawn {P : Program} {α : Type} : ∀ {x : Sem α} {w w' : World} {a : α}, x.run P w = .ok a w' → w.drawn ≤ w'.drawn := by
  intro x
  induction x with
  | pure b => intro w w' a h; simp only [Sem.run, Result.ok.injEq] at h; rw [h.2]; exact Nat.le_refl _
  | load m ad k ih =>
    intro w w' a h
    simp only [Sem.run] at h
    split at h
    · exact ih _ h
    · split at h
      · exact ih _ h
      · cases h
  | store m ad v k ih =>
    intro w w' a h
    have key : ∀ (hh : (match w.cell? ad with
        | some _ => if w.frozen? ad then Result.halt (.unsupported (.unsafePointer "a write to bytes that a string shares")) w else k.run P (w.setCell ad v)
        | none => match w.farStore P ad v (m == .atomic) with
          | .ok (w, _) => k.run P w
          | .error h => .halt h w) = Result.ok a w'), w.drawn ≤ w'.drawn := by
      intro hh
      split at hh
      · split at hh
        · cases hh
        · exact (ih hh :)
      · split at hh
        · rename_i w1 l h2
          have := farStore_drawn h2
          simp only at this
          rw [← this]
          exact ih hh
        · cases hh
    cases v <;> first | (simp only [Sem.run] at h; cases h; done) | exact key h
  | new o k ih => intro w w' a h; simp only [Sem.run] at h; exact (ih _ h :)
  | shape r k ih => intro w w' a h; simp only [Sem.run] at h; exact ih _ h
  | freeze ad n k ih =>
    intro w w' a h
    simp only [Sem.run] at h
    have := ih h
    have e : (w.freeze ad n).drawn = w.drawn := by unfold World.freeze; split <;> rfl
    rwa [e] at this
  | frozen ad k ih => intro w w' a h; simp only [Sem.run] at h; exact ih _ h
  | getObj r k ih =>
    intro w w' a h
    simp only [Sem.run] at h
    split at h
    · cases h
    · exact ih _ h
    · cases h
  | setObj r o k ih =>
    intro w w' a h
    simp only [Sem.run] at h
    split at h
    · cases h
    · exact (ih h :)
    · cases h
  | choose q k ih =>
    intro w w' a h
    simp only [Sem.run] at h
    split at h
    · exact ih _ h
    · exact Nat.le_trans (Nat.le_succ _) (ih _ h)
  | sys c k ih => intro w w' a h; simp only [Sem.run] at h; exact Nat.le_trans (sys_drawn w c) (ih _ h)
  | program k ih => intro w w' a h; simp only [Sem.run] at h; exact ih _ h
  | mark m k ih => intro w w' a h; simp only [Sem.run] at h; exact ih h
  | halt hh => intro w w' a h; simp only [Sem.run] at h; cases h
/-- What is said of the draws of two worlds: nothing, or that none is taken back. -/
class Dr where
  le : Nat → Nat → Prop
  refl : ∀ a, le a a
  trans : ∀ {a b c}, le a b → le b c → le a c
  of_le : ∀ {a b}, a ≤ b → le a b
@[reducible] def drZ : Dr := ⟨fun _ _ => True, fun _ => trivial, fun _ _ => trivial, fun _ => trivial⟩
instance (priority := low) drA : Dr := ⟨fun a b => a ≤ b, Nat.le_refl, Nat.le_trans, id⟩
end Go.K

/- K, part A: types, ownership, entries, decision trees, and the evaluator of a function's body. -/
set_option linter.unusedVariables false
namespace Go.K

inductive Ty where
  | int (k : IntKind) | bool | str | unit
  | pair (a b : Ty) | sl (T : Nat) (e : Ty) | ptr (t : Ty) | arr (n : Nat) (e : Ty) | mp (k v : Ty)
  deriving DecidableEq, Repr, Inhabited

@[reducible] def Ty.den : Ty → Type
  | .int _ => Int
  | .bool => Bool
  | .str => List UInt8
  | .unit => Unit
  | .pair a b => a.den × b.den
  | .sl _ e => List e.den
  | .ptr t => t.den
  | .arr _ e => List e.den
  | .mp k v => List (k.den × v.den)

def Ty.cells : Ty → Nat
  | .int _ | .bool | .str | .sl _ _ | .ptr _ | .mp _ _ => 1
  | .unit => 0
  | .pair a b => a.cells + b.cells
  | .arr n e => n * e.cells

def Ty.zero : (t : Ty) → t.den
  | .int _ => (0 : Int)
  | .bool => false
  | .str => []
  | .unit => ()
  | .pair a b => (a.zero, b.zero)
  | .sl _ _ => []
  | .ptr t => t.zero
  | .arr n e => List.replicate n e.zero
  | .mp _ _ => []

/-- A zero value can be told. -/
def Ty.hasZero : Ty → Bool
  | .ptr _ | .mp _ _ => false
  | .pair a b => a.hasZero && b.hasZero
  | .arr _ e => e.hasZero
  | _ => true
def Ty.isAgg : Ty → Bool | .pair .. | .unit | .arr .. => true | _ => false
/-- No slice and no pointer inside. -/
def Ty.flat : Ty → Bool
  | .int _ | .bool | .str | .unit => true
  | .pair a b => a.flat && b.flat
  | .sl _ _ | .ptr _ | .mp _ _ => false
  | .arr _ e => e.flat

/-- Ownership: frozen; owned memory whose content is as told; a pair's parts; cells of no meaning. -/
inductive Ow where
  | fr | own (q : Ow) | pr (a b : Ow) | hole
  deriving DecidableEq, Repr, Inhabited
def Ow.l : Ow → Ow | .pr a _ => a | .hole => .hole | _ => .fr
def Ow.r : Ow → Ow | .pr _ b => b | .hole => .hole | _ => .fr
def Ow.el : Ow → Ow | .own q => q | .hole => .hole | _ => .fr
/-- Nothing owned, no hole. -/
def Ow.clean : Ow → Bool
  | .fr => true | .own _ => false | .pr a b => a.clean && b.clean | .hole => false
/-- No hole. -/
def Ow.whole : Ow → Bool
  | .fr => true | .own q => q.whole | .pr a b => a.whole && b.whole | .hole => false
/-- What the zero value of a type may be held for. -/
def hintOK : Ty → Ow → Bool
  | .pair a b, q => hintOK a q.l && hintOK b q.r
  | .unit, _ => true
  | .arr _ e, q => q != .hole && hintOK e .fr
  | .ptr _, _ => false
  | .mp _ _, _ => false
  | _, q => q != .hole
def Ow.isOwn : Ow → Bool | .own _ => true | _ => false

structure TV where
  t : Ty
  q : Ow
  x : t.den

inductive Step where
  | fld (i : Nat) | idx (n : Nat)
  deriving DecidableEq, Repr, Inhabited

def TV.fldAt : (t : Ty) → (q : Ow) → t.den → Nat → Option TV
  | .pair a _, q, x, 0 => some ⟨a, q.l, x.1⟩
  | .pair _ b, q, x, n + 1 => TV.fldAt b q.r x.2 n
  | _, _, _, _ => none
def TV.step (v : TV) : Step → Option TV
  | .fld i => TV.fldAt v.t v.q v.x i
  | .idx n => match v with
    | ⟨.sl _ e, .own q, xs⟩ => some ⟨e, q, xs.getD n e.zero⟩
    | ⟨.arr _ e, q, xs⟩ => if q.clean then some ⟨e, .fr, xs.getD n e.zero⟩ else none
    | _ => none
def TV.path (v : TV) : List Step → Option TV
  | [] => some v
  | s :: p => (v.step s).bind fun u => u.path p

/-- A pair's ownership out of its parts'. -/
def Ow.mkPr : Ow → Ow → Ow → Ow
  | .fr, .fr, .fr => .fr
  | _, a, b => .pr a b
theorem mkPr_l {q a b : Ow} : (Ow.mkPr q a b).l = a := by unfold Ow.mkPr; split <;> rfl
theorem mkPr_r {q a b : Ow} : (Ow.mkPr q a b).r = b := by unfold Ow.mkPr; split <;> rfl
def TV.setFld : (t : Ty) → (q : Ow) → t.den → Nat → TV → Option (Ow × t.den)
  | .pair a _, q, x, 0, u => if h : u.t = a then some (.mkPr q u.q q.r, (h ▸ u.x, x.2)) else none
  | .pair _ b, q, x, n + 1, u => (TV.setFld b q.r x.2 n u).map fun (q', y) => (.mkPr q q.l q', (x.1, y))
  | _, _, _, _, _ => none
/-- Put `u` where the path leads. Under an index the ownership stays as it was. -/
def TV.setPath (v : TV) : List Step → TV → Option TV
  | [], u => if h : u.t = v.t then some ⟨v.t, u.q, h ▸ u.x⟩ else none
  | .fld i :: p, u => (TV.fldAt v.t v.q v.x i).bind fun c => (c.setPath p u).bind fun c' =>
      (TV.setFld v.t v.q v.x i c').map fun (q, x) => ⟨v.t, q, x⟩
  | .idx n :: p, u => match v with
    | ⟨.sl T e, .own q, xs⟩ => ((TV.mk e q (xs.getD n e.zero)).setPath p u).bind fun c =>
        if h : c.t = e then (if c.q = q then some ⟨.sl T e, .own q, xs.set n (h ▸ c.x)⟩ else none) else none
    | ⟨.arr m e, q, xs⟩ => if q.clean then ((TV.mk e .fr (xs.getD n e.zero)).setPath p u).bind fun c =>
        if h : c.t = e then (if c.q.clean then some ⟨.arr m e, .fr, xs.set n (h ▸ c.x)⟩ else none) else none
      else none
    | _ => none

inductive Arg where
  | v (t : Ty) (q : Ow) (x : t.den)
  | fn (g : Nat) (first caps : List Arg)
  | pfn (g : Nat) (first caps : List Arg)
  | gone
inductive Cap where
  | root (r ver : Nat)
  | arg (a : Arg)
/-- What a temporary holds. Borrows name the root's temporary and its version. -/
inductive Ent where
  | un
  | undf
  | val (t : Ty) (q : Ow) (x : t.den)
  | sref (r ver : Nat) (p : List Step) (win : Option (Nat × Nat))
  | pref (r ver : Nat) (p : List Step)
  | fnl (g : Nat) (first : List Arg) (caps : List Cap)
  | fbox (g : Nat) (first caps : List Arg)
  | pfn (g : Nat) (first caps : List Arg)
  | tup (xs : List Arg)
  | tref (r ver : Nat) (xs : List Arg)
structure Slot where
  ver : Nat
  e : Ent
instance : Inhabited Slot := ⟨⟨0, .un⟩⟩
abbrev St := List Slot
def St.at (σ : St) (t : Nat) : Slot := σ.getD t ⟨0, .un⟩
abbrev Upd := List (Nat × Slot)
def St.upd (σ : St) : Upd → St
  | [] => σ
  | (t, e) :: u => St.upd (σ.set t e) u

/-- A decision tree; `opt` goes on with what a plain function gives, if it gives something. -/
inductive Out (α : Type) : Type 1 where
  | done (a : α) | br (b : Bool) (t e : Out α) | bad | opt {β : Type} (x : Option β) (k : β → Out α) | alt {β γ : Type} (x : β ⊕ γ) (k : β → Out α) (l : γ → Out α)
def Out.bind {α β : Type} : Out α → (α → Out β) → Out β
  | .done a, f => f a
  | .br b t e, f => .br b (t.bind f) (e.bind f)
  | .bad, _ => .bad
  | .opt x k, f => .opt x fun y => (k y).bind f
  | .alt x k l, f => .alt x (fun y => (k y).bind f) (fun y => (l y).bind f)
/-- One way or the other. -/
def alt {β γ ρ : Type} (x : β ⊕ γ) (k : β → Option ρ) (l : γ → Option ρ) : Option ρ := match x with | .inl y => k y | .inr y => l y
def Out.run {α : Type} : Out α → Option α
  | .done a => some a
  | .br b t e => bif b then t.run else e.run
  | .bad => none
  | .opt x k => x.bind fun y => (k y).run
  | .alt x k l => K.alt x (fun y => (k y).run) (fun y => (l y).run)

/-- An operation's meaning, with what it reads told. -/
inductive Rd.{u} (α : Type u) : Type u where
  | ret (a : α) | fail | get (t : Nat) (k : Slot → Rd α)
def Rd.bind.{u, v} {α : Type u} {β : Type v} : Rd α → (α → Rd β) → Rd β
  | .ret a, f => f a
  | .fail, _ => .fail
  | .get t k, f => .get t fun e => (k e).bind f
def Rd.ofOpt.{u} {α : Type u} : Option α → Rd α | some a => .ret a | none => .fail
def Rd.run.{u} {α : Type u} (σ : St) : Rd α → List Nat → Option (α × List Nat)
  | .ret a, l => some (a, l)
  | .fail, _ => none
  | .get t k, l => (k (σ.at t)).run σ (t :: l)

/-- What is known of a function beside its code: the types, ownership hints, modes of parameters, the table of calls. -/
inductive Mode where | rd | mut | own
  deriving DecidableEq, Repr, Inhabited
structure Ctx where
  ty : Nat → Option Ty
  /-- a slice type's element's bytes -/
  bytes : Nat → Nat
  mode : Nat → Nat → Mode
  Φ : Nat → List Arg → Out (List Arg × List Arg)
  /-- an element's ownership where a slice is made at this temporary -/
  hint : Nat → Ow
  /-- what lives on at a loop's head (3 i), behind it (3 i + 1), where it returns (3 i + 2) -/
  keep : Nat → Nat → Bool
  /-- what is frozen there before -/
  ice : Nat → List Nat
  /-- the types of functions -/
  fty : Nat → Bool
  /-- results that are frozen -/
  rfr : Nat → Bool
  /-- temporaries that no operation may write -/
  pin : Nat → Bool
end Go.K

/- K, part B: what each operation does to the entries. -/
set_option linter.unusedVariables false
namespace Go.K

/-- What a root holds. -/
def Ent.content : Ent → Option TV
  | .val (.ptr t) (.own q) x => some ⟨t, q, x⟩
  | .val (.sl T e) (.own q) x => some ⟨.sl T e, .own q, x⟩
  | _ => none
/-- The root with another content. -/
def Ent.withContent : Ent → TV → Option Ent
  | .val (.ptr t) (.own _) _, u => if h : u.t = t then some (.val (.ptr t) (.own u.q) (h ▸ u.x)) else none
  | .val (.sl T e) (.own _) _, u => if h : u.t = .sl T e then (match u.q with | .own q => some (.val (.sl T e) (.own q) (h ▸ u.x)) | _ => none) else none
  | _, _ => none
/-- Nothing owned inside of what the root owns. -/
def Ent.simple : Ent → Bool
  | .val _ (.own q) _ => q.clean
  | _ => false
/-- A root's place. -/
def place (r ver : Nat) (p : List Step) : Rd (Slot × TV) :=
  .get r fun s => match s.e.content with
    | some c => if s.ver = ver then (match c.path p with | some v => .ret (s, v) | none => .fail) else .fail
    | none => .fail

abbrev Op1 := Rd (Out Upd)
def put (d : Option Nat) (e : Ent) (more : Upd) : Op1 :=
  match d with
  | none => .fail
  | some d => .get d fun old => .ret (.done (more ++ [(d, ⟨old.ver + 1, e⟩)]))
def putIf (d : Option Nat) (b : Bool) (e : Ent) : Op1 :=
  match d with
  | none => .fail
  | some d => .get d fun old => .ret (.br b (.done [(d, ⟨old.ver + 1, e⟩)]) .bad)

def isNil : Value → Bool
  | .slice none n c => n == 0 && c == 0
  | _ => false
def ofCells : (t : Ty) → List Value → Option (t.den × List Value)
  | .int k, .int k' n :: r => if k = k' then some (n, r) else none
  | .bool, .bool b :: r => some (b, r)
  | .str, .string s :: r => some (s.data.toList, r)
  | .unit, r => some ((), r)
  | .pair a b, r => match ofCells a r with
    | some (x, r') => match ofCells b r' with
      | some (y, r'') => some ((x, y), r'')
      | none => none
    | none => none
  | .sl T e, v :: r => if isNil v then some (([] : List e.den), r) else none
  | _, _ => none
/-- A constant's entry; `T` its type, `h` the ownership of the elements of a nil slice. -/
def constEnt (C : Ctx) (T : Nat) (h : Ow) : Value → Option Ent
  | .int k n => some (.val (.int k) .fr n)
  | .bool b => some (.val .bool .fr b)
  | .string s => some (.val .str .fr s.data.toList)
  | .slice A n c => if isNil (.slice A n c) then (match C.ty T with
    | some (.sl T' e) => some (.val (.sl T' e) (.own h) [])
    | _ => none) else none
  | .agg cs => match C.ty T with
    | some t => if t.isAgg then (match ofCells t cs.toList with
      | some (x, []) => some (.val t .fr x)
      | _ => none) else none
    | none => none
  | _ => none
def opd (C : Ctx) (T : Nat) (h : Ow) : Operand → Rd Ent
  | .tmp t => .get t fun s => .ret s.e
  | .const v => .ofOpt (constEnt C T h v)
  | .func f => .ret (.fnl f [] [])
  | .global _ => .fail
/-- The place that a pointer names. -/
def asPtr : Operand → Rd (Option (Nat × Nat × List Step))
  | .tmp t => .get t fun s => .ret (match s.e with
    | .pref r v p => some (r, v, p)
    | .val (.ptr _) (.own _) _ => some (t, s.ver, [])
    | .fbox .. => some (t, s.ver, [])
    | _ => none)
  | _ => .ret none
/-- The place of a slice whose header this is. -/
def asSl : Operand → Rd (Option (Nat × Nat × List Step))
  | .tmp t => .get t fun s => .ret (match s.e with
    | .sref r v p none => some (r, v, p)
    | .val (.sl _ _) (.own _) _ => some (t, s.ver, [])
    | _ => none)
  | _ => .ret none

/-- A value that is stored, or put into a struct or a new slice: its content, and what becomes of where it came from. -/
def given (C : Ctx) (T : Nat) (h : Ow) (keepOwn : Bool) : Operand → Rd (TV × Upd)
  | .tmp r => .get r fun s => match s.e with
    | .val t q x =>
      if q.clean then .ret (⟨t, .fr, x⟩, [])
      else if q.whole then (if keepOwn then .ret (⟨t, q, x⟩, [(r, ⟨s.ver + 1, .un⟩)]) else .ret (⟨t, .fr, x⟩, [(r, ⟨s.ver + 1, .val t .fr x⟩)]))
      else .fail
    | .sref r v [] none => .get r fun root => match root.e with
      | .val (.sl T e) (.own q) x => if root.ver = v then
          (if q.whole then
            (if keepOwn then .ret (⟨.sl T e, .own q, x⟩, [(r, ⟨v + 1, .un⟩)])
             else .ret (⟨.sl T e, .fr, x⟩, [(r, ⟨v + 1, .val (.sl T e) .fr x⟩)]))
          else .fail) else .fail
      | _ => .fail
    | _ => .fail
  | .const c => match constEnt C T h c with
    | some (.val t q x) => if q.clean then .ret (⟨t, .fr, x⟩, []) else .ret (⟨t, if keepOwn then q else .fr, x⟩, [])
    | _ => .fail
  | _ => .fail

def eqL {α : Type} (f : α → α → Bool) : List α → List α → Bool
  | [], [] => true
  | x :: xs, y :: ys => f x y && eqL f xs ys
  | _, _ => false
def eqB : (t : Ty) → t.den → t.den → Bool
  | .int _, x, y => @BEq.beq Int _ x y
  | .bool, x, y => @BEq.beq Bool _ x y
  | .str, x, y => @BEq.beq (List UInt8) _ x y
  | .unit, _, _ => true
  | .pair a b, x, y => eqB a x.1 y.1 && eqB b x.2 y.2
  | .arr _ e, x, y => eqL (eqB e) x y
  | _, _, _ => false
def comparable : Ty → Bool
  | .int _ | .bool | .str | .unit => true
  | .pair a b => a != .unit && comparable a && comparable b
  | .arr _ e => e != .unit && comparable e
  | _ => false
def Ty.dep : Ty → Nat
  | .pair a b => max (a.dep + 1) b.dep
  | .arr _ e => e.dep + 1
  | _ => 1
def bytesLt : List UInt8 → List UInt8 → Bool
  | _, [] => false
  | [], _ :: _ => true
  | a :: x, b :: y => a < b || (a == b && bytesLt x y)
/-- A result, and the condition under which the operation gives it. -/
abbrev Res1 := Option (Option Bool × TV)
def kInt (op : BinOp) (k : IntKind) (a b : Int) : Res1 :=
  let i (n : Int) : Res1 := some (none, ⟨.int k, .fr, n⟩)
  let c (x : Bool) : Res1 := some (none, ⟨.bool, .fr, x⟩)
  match op with
  | .add => i (k.wrap (a + b)) | .sub => i (k.wrap (a - b)) | .mul => i (k.wrap (a * b))
  | .quo => some (some (!(b == 0)), ⟨.int k, .fr, k.wrap (a.tdiv b)⟩)
  | .rem => some (some (!(b == 0)), ⟨.int k, .fr, a.tmod b⟩)
  | .eql => c (a == b) | .neq => c (a != b)
  | .lss => c (decide (a < b)) | .leq => c (decide (a ≤ b)) | .gtr => c (decide (a > b)) | .geq => c (decide (a ≥ b))
  | .and => i (k.wrap ((BitVec.ofInt k.bits a &&& BitVec.ofInt k.bits b).toNat : Nat))
  | .or => i (k.wrap ((BitVec.ofInt k.bits a ||| BitVec.ofInt k.bits b).toNat : Nat))
  | .xor => i (k.wrap ((BitVec.ofInt k.bits a ^^^ BitVec.ofInt k.bits b).toNat : Nat))
  | _ => none
def kShift (op : BinOp) (k : IntKind) (a b : Int) : Res1 :=
  match op with
  | .shl => some (some (decide (0 ≤ b)), ⟨.int k, .fr, k.wrap (a * 2 ^ (min b.toNat k.bits))⟩)
  | .shr => some (some (decide (0 ≤ b)), ⟨.int k, .fr, a.fdiv (2 ^ (min b.toNat k.bits))⟩)
  | _ => none
def kStr (op : BinOp) (a b : List UInt8) : Res1 :=
  let c (x : Bool) : Res1 := some (none, ⟨.bool, .fr, x⟩)
  match op with
  | .add => some (some (decide (a.length + b.length ≤ 1152921504606846976)), ⟨.str, .fr, a ++ b⟩)
  | .eql => c (a == b) | .neq => c (!(a == b))
  | .lss => c (bytesLt a b) | .geq => c (!(bytesLt a b))
  | .leq => c (bytesLt a b || a == b) | .gtr => c (!(bytesLt a b || a == b))
  | _ => none
def kBin (op : BinOp) : (t : Ty) → t.den → (u : Ty) → u.den → Res1
  | .int k, a, .int k', b => if op = .shl ∨ op = .shr then kShift op k a b else if k = k' then kInt op k a b else none
  | .str, a, .str, b => kStr op a b
  | .bool, a, .bool, b => (match op with
        | .eql => some (none, ⟨.bool, .fr, a == b⟩)
        | .neq => some (none, ⟨.bool, .fr, !(a == b)⟩)
        | _ => none)
  | .pair t1 t2, a, u, b => if h : u = .pair t1 t2 then
      (if comparable (.pair t1 t2) && decide ((Ty.pair t1 t2).dep ≤ 10000) then
        (match op with
        | .eql => some (none, ⟨.bool, .fr, eqB (.pair t1 t2) a (h ▸ b)⟩)
        | .neq => some (none, ⟨.bool, .fr, !(eqB (.pair t1 t2) a (h ▸ b))⟩)
        | _ => none) else none)
    else none
  | .arr n e, a, u, b => if h : u = .arr n e then
      (if comparable (.arr n e) && decide ((Ty.arr n e).dep ≤ 10000) then
        (match op with
        | .eql => some (none, ⟨.bool, .fr, eqB (.arr n e) a (h ▸ b)⟩)
        | .neq => some (none, ⟨.bool, .fr, !(eqB (.arr n e) a (h ▸ b))⟩)
        | _ => none) else none)
    else none
  | _, _, _, _ => none
def kUn (op : UnOp) : (t : Ty) → t.den → Option TV
  | .int k, a => match op with | .neg => some ⟨.int k, .fr, k.wrap (0 - a)⟩ | _ => none
  | .bool, b => match op with | .not => some ⟨.bool, .fr, !b⟩ | _ => none
  | _, _ => none

def windowed {α : Type} (xs : List α) : Option (Nat × Nat) → List α
  | none => xs
  | some (lo, hi) => (xs.take hi).drop lo
def winIn (win : Option (Nat × Nat)) (l h : Nat) : Nat × Nat := match win with | none => (l, h) | some (lo, _) => (lo + l, lo + h)
/-- A slice that is read. -/
structure SlR where
  T : Nat
  e : Ty
  q : Ow
  xs : List e.den
def rdSl (e : Ent) : Rd SlR :=
  match e with
  | .val (.sl T t) q x => if q.clean then .ret ⟨T, t, .fr, x⟩ else match q with | .own q => .ret ⟨T, t, q, x⟩ | _ => .fail
  | .sref r v p win => (place r v p).bind fun (_, tv) => match tv with
    | ⟨.sl T t, .own q, x⟩ => .ret ⟨T, t, q, windowed x win⟩
    | _ => .fail
  | _ => .fail
def asInt (e : Ent) : Rd Int := match e with | .val (.int _) .fr n => .ret n | _ => .fail
def rdInt (C : Ctx) (o : Operand) : Rd Int := (opd C 0 .fr o).bind asInt
def optInt (C : Ctx) (o : Option Operand) (d : Int) : Rd Int := match o with | none => .ret d | some o => rdInt C o

/-- A captured variable as its reader sees it. -/
def capRd : Cap → Rd (Arg × List Nat)
  | .arg a => .ret (a, [])
  | .root r v => .get r fun root => if root.ver = v then (match root.e with
    | .fbox g f c => .ret (.pfn g f c, [r])
    | .val (.ptr t) (.own q) x => if q.whole then .ret (.v (.ptr t) .fr x, [r]) else .fail
    | _ => .fail) else .fail
def capsRd : List Cap → Rd (List Arg × List Nat)
  | [] => .ret ([], [])
  | c :: cs => (capRd c).bind fun (a, b) => (capsRd cs).bind fun (as, bs) => .ret (a :: as, b ++ bs)
/-- Arguments that are only read. -/
def argRd (C : Ctx) (T : Nat) (o : Operand) : Rd (Arg × List Nat) :=
  (opd C T .fr o).bind fun e => match e with
  | .val t q x => if q.clean then .ret (.v t .fr x, []) else if q.whole then
      (match o with
        | .tmp r => .ret (.v t .fr x, [r])
        | .const _ => .ret (.v t .fr x, [])
        | _ => .fail) else .fail
  | .sref r v p win => (place r v p).bind fun (_, tv) => match tv with
    | ⟨.sl T t, .own q, x⟩ => if q.whole then .ret (.v (.sl T t) .fr (windowed x win), [r]) else .fail
    | _ => .fail
  | .pref r v p => (place r v p).bind fun (_, tv) => if tv.q.whole then .ret (.v (.ptr tv.t) .fr tv.x, [r]) else .fail
  | .fnl g first caps => (capsRd caps).bind fun (as, rs) => .ret (.fn g first as, rs)
  | .pfn g f c => .ret (.pfn g f c, [])
  | _ => .fail
def isRef : Ty → Bool | .ptr _ | .sl _ _ | .mp _ _ => true | _ => false
/-- In-out arguments: a root whose content goes in and comes back. -/
def argMut (o : Operand) : Rd (Arg × Nat) :=
  match o with
  | .tmp t => .get t fun s => match s.e with
    | .val ty (.own q) x => if isRef ty && q.whole then .ret (.v ty (.own q) x, t) else .fail
    | .sref r v [] none => .get r fun root => if root.ver = v then (match root.e with
        | .val (.sl T e) (.own q) x => if q.whole then .ret (.v (.sl T e) (.own q) x, r) else .fail
        | _ => .fail) else .fail
    | .pref r v [] => .get r fun root => if root.ver = v then (match root.e with
        | .val (.ptr t) (.own q) x => if q.whole then .ret (.v (.ptr t) (.own q) x, r) else .fail
        | _ => .fail) else .fail
    | .tref r v [] => .get r fun root => if root.ver = v then (match root.e with
        | .val (.mp kt vt) (.own q) x => if q.whole then .ret (.v (.mp kt vt) (.own q) x, r) else .fail
        | _ => .fail) else .fail
    | _ => .fail
  | _ => .fail
structure Args where
  args : List Arg
  borrowed : List Nat
  back : List Nat
  upd : Upd
def argsOf (C : Ctx) (f : Nat) : Nat → List (Operand × Nat) → Rd Args
  | _, [] => .ret ⟨[], [], [], []⟩
  | i, (o, T) :: r => match C.mode f i with
    | .rd => (argRd C T o).bind fun (a, bs) => (argsOf C f (i + 1) r).bind fun z => .ret ⟨a :: z.args, bs ++ z.borrowed, z.back, z.upd⟩
    | .own => (given C T (C.hint 0) true o).bind fun (tv, u) => (argsOf C f (i + 1) r).bind fun z => .ret ⟨.v tv.t tv.q tv.x :: z.args, z.borrowed, z.back, u ++ z.upd⟩
    | .mut => (argMut o).bind fun (a, b) => (argsOf C f (i + 1) r).bind fun z => .ret ⟨a :: z.args, z.borrowed, b :: z.back, z.upd⟩
/-- Nothing frozen is inside: what memory it has is its own. -/
def selfOwned : Ty → Ow → Bool
  | .int _, _ | .bool, _ | .str, _ | .unit, _ => true
  | .pair a b, q => selfOwned a q.l && selfOwned b q.r
  | .arr _ e, _ => e.flat
  | .sl _ e, .own q => selfOwned e q
  | .ptr t, .own q => selfOwned t q
  | .mp k v, .own _ => k.flat && v.flat
  | _, _ => false
def Arg.isFlat : Arg → Bool
  | .v t q _ => selfOwned t q
  | _ => false
/-- The borrowed roots, frozen for good. -/
def freezeAll : List Nat → Rd (Option Upd)
  | [] => .ret (some [])
  | r :: rs => .get r fun s => (freezeAll rs).bind fun u => .ret (match u, s.e with
      | some u, .val t (.own q) x => if q.whole then some ((r, ⟨s.ver + 1, .val t .fr x⟩) :: u) else none
      | _, _ => none)
def distinct : List Nat → Bool
  | [] => true
  | a :: l => !(l.contains a) && distinct l
/-- What a pointer owns, with nothing owned inside: its type. -/
def Ent.flatPtr : Ent → Option Ty
  | .val (.ptr t) (.own q) _ => if q.clean then some t else none
  | _ => none
def rdRoots : List Nat → Rd (List (Nat × Option Ty))
  | [] => .ret []
  | r :: bs => .get r fun s => (rdRoots bs).bind fun ss => .ret ((s.ver, s.e.flatPtr) :: ss)
/-- The version behind a call: the borrows of what a pointer owns live on, where nothing is owned inside. -/
def backVer (v : Nat) (o : Option Ty) (t : Ty) (q : Ow) : Nat := match o with
  | some t0 => if t = .ptr t0 ∧ q.clean = true then v else v + 1
  | none => v + 1
/-- What comes back of an in-out argument is put into its place. -/
def putBack : List Nat → List (Nat × Option Ty) → List Arg → Option Upd
  | [], [], [] => some []
  | r :: bs, v :: ss, .v t (.own q) x :: as => if isRef t && q.whole then (match putBack bs ss as with
    | none => none
    | some u => some ((r, ⟨backVer v.1 v.2 t q, .val t (.own q) x⟩) :: u)) else none
  | _, _, _ => none
def Arg.ent : Arg → Ent
  | .v t q x => .val t q x
  | .fn g f c => .fnl g f (c.map .arg)
  | .pfn g f c => .pfn g f c
  | .gone => .un
def resEnt : List Arg → Ent
  | [a] => a.ent
  | as => .tup as
def resUpd (d : Option Nat) (old : Nat) (r : List Arg) : Upd := match d with | some d => [(d, ⟨old + 1, resEnt r⟩)] | none => []
def callOut (d : Option Nat) (old : Nat) (z : Args) (fz : Option Upd) (ss : List (Nat × Option Ty)) (r : List Arg × List Arg) : Out Upd :=
  match putBack z.back ss r.2 with
  | none => .bad
  | some ub => match (if r.1.all Arg.isFlat && r.2.all Arg.isFlat then some [] else fz) with
    | none => .bad
    | some uf => .done (z.upd ++ uf ++ ub ++ resUpd d old r.1)
def getVer (d : Option Nat) : Rd Nat := match d with | some d => .get d fun s => .ret s.ver | none => .ret 0
def callWith (C : Ctx) (d : Option Nat) (f : Nat) (first caps : List Arg) (z : Args) : Op1 :=
  if distinct (z.upd.map (·.1) ++ z.borrowed.eraseDups ++ z.back ++ d.toList) then
    (getVer d).bind fun old => (freezeAll z.borrowed.eraseDups).bind fun fz => (rdRoots z.back).bind fun ss =>
        .ret ((C.Φ f (first ++ z.args ++ caps)).bind (callOut d old z fz ss))
  else .fail
def noMut (m : Nat → Mode) : Nat → Nat → Bool
  | _, 0 => true
  | i, n + 1 => m i != .mut && noMut m (i + 1) n
def opCall (C : Ctx) (d : Option Nat) (f : Operand) (args : List (Operand × Nat)) : Op1 :=
  (opd C 0 .fr f).bind fun e => match e with
  | .fnl g first caps => (capsRd caps).bind fun (cs, rs) => (argsOf C g first.length args).bind fun z =>
      if noMut (C.mode g) 0 first.length && noMut (C.mode g) (first.length + args.length) cs.length then callWith C d g first cs { z with borrowed := rs ++ z.borrowed } else .fail
  | _ => .fail

/-- An argument out of an inner place: an own slice inside of a root, that goes in and comes back. -/
def innerArg (o : Operand) : Rd (Arg × Nat × Nat × List Step) :=
  match o with
  | .tmp s => .get s fun e => match e.e with
    | .sref r v p none => .get r fun root => if root.ver = v then (match root.e.content with
      | some c => (match c.path p with
        | some ⟨.sl T t, .own q, xs⟩ => if q.whole then .ret (.v (.sl T t) (.own q) xs, r, v, p) else .fail
        | _ => .fail)
      | none => .fail) else .fail
    | _ => .fail
  | _ => .fail
def plainArg (C : Ctx) (T : Nat) (o : Operand) : Rd Arg := (opd C T .fr o).bind fun e => match e with
  | .val t .fr x => .ret (.v t .fr x)
  | _ => .fail
def argsIn (C : Ctx) (f : Nat) : Nat → List (Operand × Nat) → Rd (List Arg × Option (Nat × Nat × List Step))
  | _, [] => .ret ([], none)
  | i, (o, T) :: r => match C.mode f i with
    | .rd => (plainArg C T o).bind fun a => (argsIn C f (i + 1) r).bind fun z => .ret (a :: z.1, z.2)
    | .mut => (innerArg o).bind fun a => (argsIn C f (i + 1) r).bind fun z => match z.2 with | none => .ret (a.1 :: z.1, some a.2) | some _ => .fail
    | .own => .fail
/-- What a call leaves that was given an inner place. -/
def innerOut (d : Option Nat) (old r v : Nat) (p : List Step) (e0 : Ent) : List Arg × List Arg → Out Upd
  | ([.v tr .fr y], [.v t (.own q) x]) => if tr.flat && selfOwned t (.own q) then (match e0.content with
    | some c => (match c.setPath p ⟨t, .own q, x⟩ with
      | some c' => (match e0.withContent c' with
        | some e => .done ([(r, ⟨v + 1, e⟩)] ++ resUpd d old [.v tr .fr y])
        | none => .bad)
      | none => .bad)
    | none => .bad) else .bad
  | _ => .bad
def opCallIn (C : Ctx) (d : Option Nat) (g : Nat) (args : List (Operand × Nat)) : Op1 :=
  (argsIn C g 0 args).bind fun z => match z.2 with
  | some (r, v, s :: p) => if d = some r then .fail else (getVer d).bind fun old => .get r fun root => .ret ((C.Φ g z.1).bind (innerOut d old r v (s :: p) root.e))
  | _ => .fail
/-- Is an inner place given? -/
def anyInner (C : Ctx) (f : Nat) : Nat → List (Operand × Nat) → Rd Bool
  | _, [] => .ret false
  | i, (o, T) :: r => match C.mode f i with
    | .mut => (match o with
      | .tmp s => .get s fun e => match e.e with
        | .sref _ _ (_ :: _) none => .ret true
        | _ => anyInner C f (i + 1) r
      | _ => anyInner C f (i + 1) r)
    | _ => anyInner C f (i + 1) r
def opCallX (C : Ctx) (d : Option Nat) (f : Operand) (args : List (Operand × Nat)) : Op1 := match f with
  | .func g => (anyInner C g 0 args).bind fun b => if b then opCallIn C d g args else opCall C d f args
  | _ => opCall C d f args

def parts (C : Ctx) (ts : Nat → Nat) (h : Ow) (keepOwn : Bool) : List (Nat × Operand) → Rd (List (Nat × TV) × Upd)
  | [] => .ret ([], [])
  | (i, o) :: r => (given C (ts i) h keepOwn o).bind fun (tv, u) => (parts C ts h keepOwn r).bind fun (l, w) => .ret ((i, tv) :: l, u ++ w)
def fillFlds (v : TV) : List (Nat × TV) → Option TV
  | [] => some v
  | (i, u) :: r => match TV.setFld v.t v.q v.x i u with
    | some (q, x) => fillFlds ⟨v.t, q, x⟩ r
    | none => none
def Ow.norm (q : Ow) : Ow := if q.clean then .fr else q
def elems (e : Ty) (h : Ow) : Nat → List (Nat × TV) → Option (List e.den)
  | _, [] => some []
  | n, (i, u) :: r => if i = n then (if hh : u.t = e then (if u.q = h then (match elems e h (n + 1) r with | some l => some ((hh ▸ u.x) :: l) | none => none) else none) else none) else none
def distinctU (u : Upd) : Bool := distinct (u.map (·.1))

/-- What of a tuple is owned stays where it is. -/
def hideArg : Arg → Arg
  | .v t q x => if q.clean then .v t q x else .gone
  | _ => .gone
def ownsArg : Arg → Bool
  | .v _ q _ => !q.clean
  | _ => false
def opMove (C : Ctx) (d : Option Nat) (T : Nat) : Operand → Op1
  | .tmp r => .get r fun s => match s.e with
    | .val t q y => if q.clean then put d (.val t .fr y) [] else (match t, q with
      | .sl _ _, .own _ => put d (.sref r s.ver [] none) []
      | .ptr _, .own _ => put d (.pref r s.ver []) []
      | .mp _ _, .own _ => put d (.tref r s.ver []) []
      | _, _ => .fail)
    | .fbox .. => put d (.pref r s.ver []) []
    | .sref r v p w => put d (.sref r v p w) []
    | .pref r v p => put d (.pref r v p) []
    | .fnl g f c => put d (.fnl g f c) []
    | .pfn g f c => put d (.pfn g f c) []
    | .tup xs => if d = some r then .fail else if xs.any ownsArg then put d (.tref r s.ver (xs.map hideArg)) [] else put d (.tup xs) [(r, ⟨s.ver + 1, .un⟩)]
    | _ => .fail
  | o => (opd C T (C.hint (d.getD 0)) o).bind fun e => put d e []
/-- Values that no operation of the machine looks at. -/
def dull : Value → Bool
  | .nilFunc => true
  | .pointer none => true
  | _ => false
/-- Where a hint says so, a pointer that is assigned stays where it is, and is borrowed. -/
def iceAs (C : Ctx) (d : Option Nat) : Bool := (C.ice 999996).any (Nat.beq (d.getD 0))
def opAssign (C : Ctx) (d : Option Nat) (T : Nat) : Operand → Op1
  | .tmp r => .get r fun s => match s.e with
    | .val t q y => if q.clean then put d (.val t .fr y) [] else if iceAs C d = true then (match t, q with | .ptr _, .own _ => put d (.pref r s.ver []) [] | _, _ => .fail) else if d = some r then .fail else put d (.val t q y) [(r, ⟨s.ver + 1, .un⟩)]
    | .sref r v p w => put d (.sref r v p w) []
    | .pref r v p => put d (.pref r v p) []
    | .fnl g f c => put d (.fnl g f c) []
    | .pfn g f c => put d (.pfn g f c) []
    | _ => .fail
  | .const v => if dull v then put d .un [] else (opd C T (C.hint (d.getD 0)) (.const v)).bind fun e => put d e []
  | o => (opd C T (C.hint (d.getD 0)) o).bind fun e => put d e []
def pickEnt : Ent → Option Ent
  | .val t q y => if q.clean then some (.val t .fr y) else none
  | _ => none
def opPick (C : Ctx) (d : Option Nat) (T : Nat) (c a b : Operand) : Op1 :=
  (opd C 0 .fr c).bind fun ec => match ec with
    | .val .bool .fr t => (opd C T .fr a).bind fun ea => (opd C T .fr b).bind fun eb => match d with
        | some d => .get d fun old => .ret (match t with
            | true => (match pickEnt ea with | some e => .done [(d, ⟨old.ver + 1, e⟩)] | none => .bad)
            | false => (match pickEnt eb with | some e => .done [(d, ⟨old.ver + 1, e⟩)] | none => .bad))
        | none => .fail
    | _ => .fail
def opAlloc (C : Ctx) (d : Option Nat) (T : Nat) : Op1 :=
  match C.ty T with
  | some t => if t.hasZero && hintOK t (C.hint (d.getD 0)) then put d (.val (.ptr t) (.own (C.hint (d.getD 0))) t.zero) [] else .fail
  | none => .fail
def allArgs : List Cap → Option (List Arg)
  | [] => some []
  | .arg a :: r => (match allArgs r with | some l => some (a :: l) | none => none)
  | .root .. :: _ => none
def notIn (d : Option Nat) (u : Upd) : Bool := match d with | none => true | some d => !((u.map (·.1)).contains d)
/-- Where a hint says so, an assignment takes what is owned from where it lies. -/
def iceOwn (C : Ctx) (d : Option Nat) : Operand → Bool
  | .tmp _ => (C.ice 999995).any (Nat.beq (d.getD 0))
  | _ => false
def opAssignOwn (C : Ctx) (d : Option Nat) (T : Nat) (x : Operand) : Op1 :=
  (given C T .fr true x).bind fun (tv, u) => if distinct (u.map (·.1)) = true ∧ notIn d u = true then put d (.val tv.t tv.q tv.x) u else .fail
def opFieldIce (C : Ctx) (d : Option Nat) (T : Nat) (x : Operand) (f : Nat) : Op1 :=
  (given C T .fr false x).bind fun (tv0, u) => match tv0 with
    | ⟨.ptr t, .fr, y⟩ => (match TV.fldAt t .fr y f with
      | some tv => if C.ty T = some t ∧ tv.t.cells ≠ 0 ∧ distinct (u.map (·.1)) = true ∧ notIn d u = true then put d (.val (.ptr tv.t) .fr tv.x) u else .fail
      | none => .fail)
    | _ => .fail
def opBox (C : Ctx) (d : Option Nat) (T : Nat) (x : Operand) : Op1 :=
  (opd C T .fr x).bind fun e => match e with
    | .fnl g first caps => match allArgs caps with
      | some cs => put d (.fbox g first cs) []
      | none => .fail
    | _ => (given C T .fr true x).bind fun (tv, u) => if notIn d u then put d (.val (.ptr tv.t) (.own tv.q) tv.x) u else .fail
def opBuild (C : Ctx) (ft : Nat → Nat → Nat) (d : Option Nat) (T : Nat) (ps : List (Nat × Operand)) : Op1 :=
  match C.ty T with
  | some (.pair t1 t2) => if (Ty.pair t1 t2).hasZero then (parts C (ft T) (C.hint (d.getD 0)) true ps).bind fun (l, u) => match fillFlds ⟨.pair t1 t2, .fr, (Ty.pair t1 t2).zero⟩ l with
    | some v => if distinctU u && notIn d u then put d (.val v.t v.q.norm v.x) u else .fail
    | none => .fail else .fail
  | some (.arr m e) => if (Ty.arr m e).hasZero then if ps.isEmpty then put d (.val (.arr m e) .fr (Ty.arr m e).zero) [] else (parts C (fun _ => 0) .fr false ps).bind fun (l, u) => match elems e .fr 0 l with
    | some xs => if xs.length = m ∧ (distinctU u && notIn d u) = true then put d (.val (.arr m e) .fr xs) u else .fail
    | none => .fail else .fail
  | _ => .fail
def opBuildSlice (C : Ctx) (et : Nat → Nat) (d : Option Nat) (T n : Nat) (ps : List (Nat × Operand)) : Op1 :=
  match C.ty T with
  | some (.sl Te e) =>
    (parts C (fun _ => et T) ((C.hint (d.getD 0)).el) (!(C.hint (d.getD 0)).clean) ps).bind fun (l, u) => match elems e (C.hint (d.getD 0)) 0 l with
    | some xs => if xs.length = n ∧ n * e.cells ≤ 16777216 ∧ e.hasZero = true then (if distinctU u && notIn d u then put d (.val (.sl Te e) (.own (C.hint (d.getD 0))) xs) u else .fail) else .fail
    | none => .fail
  | _ => .fail
def opLoad (C : Ctx) (d : Option Nat) (T : Nat) (x : Operand) : Op1 :=
  (opd C 0 .fr x).bind fun e => match e with
  | .val (.ptr t) .fr y => if C.ty T = some t then put d (.val t .fr y) [] else .fail
  | .pfn g f c => if C.fty T then put d (.fnl g f (c.map .arg)) [] else .fail
  | _ => (asPtr x).bind fun pl => match pl with
    | some (r, v, p) => .get r fun root => if root.ver = v then (match root.e with
      | .fbox g f c => if C.fty T then put d (.fnl g f (c.map .arg)) [] else .fail
      | e => (match e.content with
        | some c => (match c.path p with
          | some tv => if C.ty T = some tv.t then (if tv.q.clean then put d (.val tv.t .fr tv.x) [] else (match tv.t, tv.q with
            | .sl _ _, .own _ => put d (.sref r v p none) []
            | _, _ => .fail)) else .fail
          | none => .fail)
        | none => .fail)) else .fail
    | none => .fail
def fldOnly (p : List Step) : Bool := p.all fun s => match s with | .fld _ => true | _ => false
def opStore (C : Ctx) (d : Option Nat) (T : Nat) (a x : Operand) : Op1 :=
  if d.isSome then .fail else (asPtr a).bind fun pl => match pl with
  | some (r, v, p) => .get r fun root => if root.ver = v then (match root.e.content with
    | some c => (match c.path p with
      | some tv0 => if C.ty T = some tv0.t ∧ tv0.t.cells ≠ 0 then (given C T .fr ((fldOnly p && !(C.ice 999999).any (Nat.beq r)) || !tv0.q.clean) x).bind fun (tv, u) =>
          if (u.map (·.1)).contains r then .fail else
          (match c.setPath p tv with
          | some c' => (match root.e.withContent c' with
            | some e => .ret (.done (u ++ [(r, ⟨if root.e.simple && e.simple then v else v + 1, e⟩)]))
            | none => .fail)
          | none => .fail) else .fail
      | none => .fail)
    | none => .fail) else .fail
  | none => .fail
def opNilCheck (C : Ctx) (d : Option Nat) (x : Operand) : Op1 :=
  (opd C 0 .fr x).bind fun e => match e with
    | .val (.ptr t) .fr y => put d (.val (.ptr t) .fr y) []
    | .fnl g f c => put d (.fnl g f c) []
    | _ => (asPtr x).bind fun pl => match pl with
      | some (r, v, p) => (place r v p).bind fun _ => put d (.pref r v p) []
      | none => .fail
def opBin (C : Ctx) (d : Option Nat) (op : BinOp) (T : Nat) (x y : Operand) : Op1 :=
  (opd C T .fr x).bind fun ex => (opd C T .fr y).bind fun ey => match ex, ey with
    | .val t q a, .val u q' b => if q.clean ∧ q'.clean ∧ C.ty T = some t then (match kBin op t a u b with
      | some (none, tv) => put d (.val tv.t .fr tv.x) []
      | some (some b, tv) => putIf d b (.val tv.t .fr tv.x)
      | none => .fail) else .fail
    | _, _ => .fail
def opUn (C : Ctx) (d : Option Nat) (op : UnOp) (T : Nat) (x : Operand) : Op1 :=
  (opd C T .fr x).bind fun ex => match ex with
    | .val t .fr a => (match kUn op t a with
      | some tv => put d (.val tv.t .fr tv.x) []
      | none => .fail)
    | _ => .fail
def opConvert (C : Ctx) (d : Option Nat) (S D : Nat) (x : Operand) : Op1 :=
  (opd C S .fr x).bind fun e => match C.ty S, C.ty D with
    | some (.int _), some (.int k) => (match e with | .val (.int _) .fr n => put d (.val (.int k) .fr (k.wrap n)) [] | _ => .fail)
    | some .str, some .str => (match e with | .val .str .fr s => put d (.val .str .fr s) [] | _ => .fail)
    | some (.int _), some .str => (match e with
      | .val (.int .u8) .fr n => putIf d (decide (0 ≤ n) && decide (n < 128)) (.val .str .fr [UInt8.ofNat n.toNat])
      | _ => .fail)
    | some (.sl Te (.int .u8)), some .str => (rdSl e).bind fun s => (match s with
        | ⟨Te', .int .u8, q, xs⟩ => if Te' = Te ∧ q.clean = true then put d (.val .str .fr (xs.map fun n => UInt8.ofNat n.toNat)) [] else .fail
        | _ => .fail)
    | some .str, some (.sl Te (.int .u8)) => (match e with
      | .val .str .fr s => putIf d (decide (s.length ≤ 140737488355328)) (.val (.sl Te (.int .u8)) .fr (s.map fun b => ((b.toNat : Nat) : Int)))
      | _ => .fail)
    | _, _ => .fail
def firsts (C : Ctx) : List Operand → Rd (List Arg)
  | [] => .ret []
  | x :: r => (argRd C 0 x).bind fun (a, b) => (firsts C r).bind fun as => if b.isEmpty then .ret (a :: as) else .fail
def captured (C : Ctx) : List Operand → Rd (List Cap)
  | [] => .ret []
  | x :: r => (opd C 0 .fr x).bind fun e => (captured C r).bind fun l => match e with
      | .val (.ptr _) (.own _) _ => (match x with | .tmp t => .get t fun s => .ret (.root t s.ver :: l) | _ => .fail)
      | .fbox .. => (match x with | .tmp t => .get t fun s => .ret (.root t s.ver :: l) | _ => .fail)
      | .val (.ptr t) .fr y => .ret (.arg (.v (.ptr t) .fr y) :: l)
      | .pfn g f c => .ret (.arg (.pfn g f c) :: l)
      | _ => .fail
def opMakeFunc (C : Ctx) (d : Option Nat) (fn : Fn) (first caps : List Operand) : Op1 :=
  match fn with
  | .func g => (firsts C first).bind fun as => (captured C caps).bind fun l => put d (.fnl g as l) []
  | _ => .fail
def opMakeSlice (C : Ctx) (d : Option Nat) (T : Nat) (n c : Operand) : Op1 :=
  match C.ty T with
  | some (.sl Te e) => if !(e.hasZero && hintOK e (C.hint (d.getD 0))) then .fail else (rdInt C n).bind fun n' => (rdInt C c).bind fun c' =>
        putIf d (decide (0 ≤ n') && decide (n' ≤ c') && decide (c' * C.bytes T ≤ 140737488355328)) (.val (.sl Te e) (.own (C.hint (d.getD 0))) (List.replicate n'.toNat e.zero))
  | _ => .fail
def okRange (l h : Int) (n : Nat) : Bool := decide (0 ≤ l) && decide (l ≤ h) && decide (h ≤ n)
def opSlice (C : Ctx) (d : Option Nat) (T : Nat) (x : Operand) (lo hi mx : Option Operand) : Op1 :=
  if mx.isSome then .fail else (opd C 0 .fr x).bind fun e => match e with
    | .val .str .fr s => (optInt C lo 0).bind fun l => (optInt C hi s.length).bind fun h =>
          if C.ty T = some .str then putIf d (okRange l h s.length) (.val .str .fr ((s.take h.toNat).drop l.toNat)) else .fail
    | .val (.sl Te e) .fr s => (optInt C lo 0).bind fun l => (optInt C hi s.length).bind fun h =>
          if C.ty T = some (.sl Te e) then putIf d (okRange l h s.length) (.val (.sl Te e) .fr ((s.take h.toNat).drop l.toNat)) else .fail
    | .val (.ptr (.arr m e)) .fr s => (optInt C lo 0).bind fun l => (optInt C hi m).bind fun h =>
          if C.ty T = some (.arr m e) ∧ m ≤ 1000000 then putIf d (okRange l h m) (.val (.sl ((C.ice 999997).headD 0) e) .fr ((s.take h.toNat).drop l.toNat)) else .fail
    | .sref r v p (some (a, b)) => (place r v p).bind fun (_, tv) => (match tv with
      | ⟨.sl Te e, .own _, s⟩ => (optInt C lo 0).bind fun l => (optInt C hi (b - a : Nat)).bind fun h =>
          if C.ty T = some (.sl Te e) then putIf d (okRange l h (b - a)) (.sref r v p (some (a + l.toNat, a + h.toNat))) else .fail
      | _ => .fail)
    | _ => (asSl x).bind fun ps => match ps with
      | some (r, v, p) => (place r v p).bind fun (_, tv) => (match tv with
        | ⟨.sl Te e, .own _, s⟩ => (optInt C lo 0).bind fun l => (optInt C hi s.length).bind fun h =>
          if C.ty T = some (.sl Te e) then putIf d (okRange l h s.length) (.sref r v p (some (l.toNat, h.toNat))) else .fail
        | _ => .fail)
      | none => .fail
def opFieldAddr (C : Ctx) (d : Option Nat) (T : Nat) (x : Operand) (f : Nat) : Op1 :=
  (opd C 0 .fr x).bind fun e => match e with
    | .val (.ptr t) .fr y => (match TV.fldAt t .fr y f with
      | some tv => if C.ty T = some t ∧ tv.t.cells ≠ 0 then put d (.val (.ptr tv.t) .fr tv.x) [] else .fail
      | none => .fail)
    | _ => (asPtr x).bind fun pl => match pl with
      | some (r, v, p) => (place r v p).bind fun (_, tv) => (match tv.step (.fld f) with
        | some u => if C.ty T = some tv.t ∧ u.t.cells ≠ 0 then put d (.pref r v (p ++ [.fld f])) [] else .fail
        | none => .fail)
      | none => .fail
/-- What is borrowed is frozen first, where the function's hint says so. -/
def iceOp (C : Ctx) : Operand → Bool
  | .tmp r => (C.ice 999998).any (Nat.beq r)
  | _ => false
def opIndexAddr (C : Ctx) (d : Option Nat) (T : Nat) (x i : Operand) : Op1 :=
  (opd C 0 .fr x).bind fun e => (rdInt C i).bind fun n => match e with
    | .val (.sl Te t) .fr xs => if C.ty T = some (.sl Te t) then putIf d (decide (0 ≤ n) && decide (n < xs.length)) (.val (.ptr t) .fr (xs.getD n.toNat t.zero)) else .fail
    | .val (.ptr (.arr m t)) .fr xs => if C.ty T = some (.arr m t) then putIf d (decide (0 ≤ n) && decide (n < m)) (.val (.ptr t) .fr (xs.getD n.toNat t.zero)) else .fail
    | .sref r v p (some (lo, hi)) => (place r v p).bind fun (_, tv) => (match tv with
        | ⟨.sl Te t, .own _, xs⟩ => if C.ty T = some (.sl Te t) then putIf d (decide (0 ≤ n) && decide (n < (windowed xs (some (lo, hi))).length)) (.pref r v (p ++ [.idx (lo + n.toNat)])) else .fail
        | _ => .fail)
    | _ => (asSl x).bind fun ps => match ps with
      | some (r, v, p) => (place r v p).bind fun (_, tv) => (match tv with
        | ⟨.sl Te t, .own _, xs⟩ => if C.ty T = some (.sl Te t) then putIf d (decide (0 ≤ n) && decide (n < xs.length)) (.pref r v (p ++ [.idx n.toNat])) else .fail
        | _ => .fail)
      | none => (asPtr x).bind fun pl => match pl with
        | some (r, v, p) => (place r v p).bind fun (_, tv) => (match tv with
          | ⟨.arr m t, q, xs⟩ => if C.ty T = some (.arr m t) ∧ q.clean = true then putIf d (decide (0 ≤ n) && decide (n < m)) (.pref r v (p ++ [.idx n.toNat])) else .fail
          | _ => .fail)
        | none => .fail
def opIndex (C : Ctx) (d : Option Nat) (T : Nat) (x i : Operand) : Op1 :=
  (opd C T .fr x).bind fun e => (rdInt C i).bind fun n => match e with
    | .val .str .fr s => if C.ty T = some .str then putIf d (decide (0 ≤ n) && decide (n < s.length)) (.val (.int .u8) .fr (((s.getD n.toNat 0).toNat : Nat) : Int)) else .fail
    | .val (.arr m t) .fr xs => if C.ty T = some (.arr m t) then putIf d (decide (0 ≤ n) && decide (n < m)) (.val t .fr (xs.getD n.toNat t.zero)) else .fail
    | _ => .fail
def opExtract (d : Option Nat) (x : Operand) (i : Nat) : Op1 :=
  match x with
  | .tmp r => .get r fun s => match s.e with
    | .tup xs => (match xs[i]? with
      | some (.v t q y) => if q.clean then put d (.val t .fr y) [] else if d = some r then .fail else put d (.val t q y) [(r, ⟨s.ver + 1, .tup (xs.set i .gone)⟩)]
      | _ => .fail)
    | .tref r' v xs => (match xs[i]? with
      | some (.v t q y) => if q.clean then put d (.val t .fr y) [] else .fail
      | some .gone => .get r' fun s' => if s'.ver = v then (match s'.e with
        | .tup ys => (match ys[i]? with
          | some (.v t q y) => if q.clean then .fail else if d = some r' then .fail else put d (.val t q y) [(r', ⟨s'.ver + 1, .tup (ys.set i .gone)⟩)]
          | _ => .fail)
        | _ => .fail) else .fail
      | _ => .fail)
    | _ => .fail
  | _ => .fail
def opLen (C : Ctx) (d : Option Nat) (T : Nat) (x : Operand) : Op1 :=
  (opd C T .fr x).bind fun e => match e with
      | .val .str .fr s => if C.ty T = some .str then put d (.val (.int .i64) .fr (s.length : Int)) [] else .fail
      | .val (.arr m t) .fr _ => if C.ty T = some (.arr m t) then put d (.val (.int .i64) .fr (m : Int)) [] else .fail
      | _ => (rdSl e).bind fun s => if C.ty T = some (.sl s.T s.e) then put d (.val (.int .i64) .fr (s.xs.length : Int)) [] else .fail
def opMinMax (C : Ctx) (d : Option Nat) (args : List Operand) (f : Int → Int → Int) : Op1 := match args with
    | [x, y] => (opd C 0 .fr x).bind fun ex => (opd C 0 .fr y).bind fun ey => match ex, ey with
      | .val (.int k) .fr a, .val (.int k') .fr b => if k = k' then put d (.val (.int k) .fr (f a b)) [] else .fail
      | _, _ => .fail
    | _ => .fail
/-- The slice that grows: taken from where it is. -/
def grown (C : Ctx) (T : Nat) (h : Ow) : Operand → Rd (SlR × Upd)
  | .tmp t => .get t fun s => match s.e with
    | .val (.sl Te e) (.own q) xs => .ret (⟨Te, e, q, xs⟩, [(t, ⟨s.ver + 1, .un⟩)])
    | .sref r v [] none => .get r fun root => if root.ver = v then (match root.e with
        | .val (.sl Te e) (.own q) xs => .ret (⟨Te, e, q, xs⟩, [(r, ⟨v + 1, .un⟩)])
        | _ => .fail) else .fail
    | _ => .fail
  | .const c => match constEnt C T h c with
    | some (.val (.sl Te e) (.own q) xs) => .ret (⟨Te, e, q, xs⟩, [])
    | _ => .fail
  | _ => .fail
/-- What is appended. -/
def appended (C : Ctx) (T : Nat) (h : Ow) : Operand → Rd (SlR × Upd)
  | .tmp t => .get t fun s => match s.e with
    | .val (.sl Te e) q ys => if q.clean then .ret (⟨Te, e, .fr, ys⟩, []) else (match q with
      | .own q => if q.clean then .ret (⟨Te, e, .fr, ys⟩, []) else .ret (⟨Te, e, q, ys⟩, [(t, ⟨s.ver + 1, .un⟩)])
      | _ => .fail)
    | .sref r v p win => (place r v p).bind fun (_, tv) => (match tv with
      | ⟨.sl Te e, .own q, ys⟩ => if q.clean then .ret (⟨Te, e, .fr, windowed ys win⟩, []) else .fail
      | _ => .fail)
    | _ => .fail
  | .const c => match constEnt C T h c with
    | some (.val (.sl Te e) (.own q) xs) => .ret (⟨Te, e, q, xs⟩, [])
    | _ => .fail
  | _ => .fail
def opAppend (C : Ctx) (d : Option Nat) (s x : Operand) (T T2 : Nat) : Op1 :=
  match d with
  | none => .fail
  | some d => (grown C T (C.hint d) s).bind fun (g, u) => (appended C T2 g.q x).bind fun (m, w) =>
      if h : m.e = g.e then
        (if m.q = g.q ∧ C.ty T = some (.sl g.T g.e) ∧ C.ty T2 = some (.sl m.T m.e) ∧ g.e.hasZero = true then
          (if distinctU (u ++ w) && notIn (some d) (u ++ w) then
            .get d fun old => .ret (.br (decide ((g.xs.length + m.xs.length) * C.bytes T ≤ 140737488355328))
                (.done (u ++ w ++ [(d, ⟨old.ver + 1, .val (.sl g.T g.e) (.own g.q) (g.xs ++ (h ▸ m.xs))⟩)])) .bad)
          else .fail) else .fail) else .fail

def cleared {α : Type} (xs : List α) (z : α) (lo hi : Nat) : List α := xs.take lo ++ (List.replicate (hi - lo) z ++ xs.drop hi)
def opClear (C : Ctx) (d : Option Nat) (x : Operand) (T : Nat) : Op1 :=
  if d.isSome then .fail else (opd C 0 .fr x).bind fun e => match e with
    | .sref r v [] (some (lo, hi)) => .get r fun root => (match root.e with
      | .val (.sl Te t) (.own .fr) xs => if root.ver = v ∧ t.flat = true ∧ t.hasZero = true ∧ C.ty T = some (.sl Te t) then
          .ret (.done [(r, ⟨v + 1, .val (.sl Te t) (.own .fr) (cleared xs t.zero lo hi)⟩)]) else .fail
      | _ => .fail)
    | _ => .fail

/-- What a map holds at a key; what is put there. -/
def mpFind {α β : Type} (eq : α → α → Bool) (k : α) : List (α × β) → Option β
  | [] => none
  | x :: l => bif eq k x.1 then some x.2 else mpFind eq k l
def mpPut {α β : Type} (eq : α → α → Bool) (k : α) (v : β) : List (α × β) → List (α × β)
  | [] => [(k, v)]
  | x :: l => bif eq k x.1 then (k, v) :: l else x :: mpPut eq k v l
def keyTy (t : Ty) : Bool := comparable t && t != .unit && decide (t.dep ≤ 9000)
def opMakeMap (C : Ctx) (d : Option Nat) (T : Nat) : Op1 := match C.ty T with
  | some (.mp k v) => put d (.val (.mp k v) (.own .fr) []) []
  | _ => .fail
def asKey (C : Ctx) (kt : Ty) (o : Operand) : Rd kt.den := (opd C 0 .fr o).bind fun e => match e with
  | .val t q x => if h : t = kt then (if q.clean then .ret (h ▸ x) else .fail) else .fail
  | _ => .fail
/-- Where a map lies. -/
def asMap : Operand → Rd Nat
  | .tmp t => .get t fun s => match s.e with
    | .val (.mp _ _) (.own _) _ => .ret t
    | .tref r v [] => .get r fun root => if root.ver = v then .ret r else .fail
    | _ => .fail
  | _ => .fail
def opLookup (C : Ctx) (d : Option Nat) (T : Nat) (m k : Operand) (ok : Bool) : Op1 := (asMap m).bind fun r => .get r fun s => match s.e with
  | .val (.mp kt vt) (.own .fr) l => (asKey C kt k).bind fun x =>
      if keyTy kt && vt.hasZero && decide (C.ty T = some (.mp kt vt)) then
        (match ok with
        | true => put d (.tup [.v vt .fr ((mpFind (eqB kt) x l).getD vt.zero), .v .bool .fr (mpFind (eqB kt) x l).isSome]) []
        | false => put d (.val vt .fr ((mpFind (eqB kt) x l).getD vt.zero)) []) else .fail
  | _ => .fail
def opMapUpdate (C : Ctx) (d : Option Nat) (T : Nat) (m k v : Operand) : Op1 := if d.isSome then .fail else (asMap m).bind fun r => .get r fun s => match s.e with
  | .val (.mp kt vt) (.own .fr) l => (asKey C kt k).bind fun x => (asKey C vt v).bind fun y =>
      if keyTy kt && decide (C.ty T = some (.mp kt vt)) then .ret (.done [(r, ⟨s.ver + 1, .val (.mp kt vt) (.own .fr) (mpPut (eqB kt) x y l)⟩)]) else .fail
  | _ => .fail

structure FC where
  C : Ctx
  ft : Nat → Nat → Nat
  et : Nat → Nat
def step (F : FC) (o : Oper) : Op1 :=
  match o.op with
  | .move x => opMove F.C o.dst o.type x
  | .assign x => if iceOwn F.C o.dst x = true then opAssignOwn F.C o.dst o.type x else opAssign F.C o.dst o.type x
  | .pick c a b => opPick F.C o.dst o.type c a b
  | .alloc T => opAlloc F.C o.dst T
  | .box T x => opBox F.C o.dst T x
  | .build T ps => opBuild F.C F.ft o.dst T ps.toList
  | .buildSlice T n ps => opBuildSlice F.C F.et o.dst T n ps.toList
  | .load T x => opLoad F.C o.dst T x
  | .store T a x => opStore F.C o.dst T a x
  | .nilCheck x => opNilCheck F.C o.dst x
  | .binOp op T x y _ => opBin F.C o.dst op T x y
  | .unOp op T x => opUn F.C o.dst op T x
  | .convert S D x => opConvert F.C o.dst S D x
  | .makeFunc fn first caps => opMakeFunc F.C o.dst fn first.toList caps.toList
  | .makeSlice T n c => opMakeSlice F.C o.dst T n c
  | .slice T x lo hi mx => opSlice F.C o.dst T x lo hi mx
  | .fieldAddr T x f => if iceOp F.C x = true then opFieldIce F.C o.dst T x f else opFieldAddr F.C o.dst T x f
  | .indexAddr T x i => opIndexAddr F.C o.dst T x i
  | .index T x i => opIndex F.C o.dst T x i
  | .extract x i => opExtract o.dst x i
  | .makeMap T none => opMakeMap F.C o.dst T
  | .lookup T m k ok => opLookup F.C o.dst T m k ok
  | .mapUpdate T m k v => opMapUpdate F.C o.dst T m k v
  | .call c => match c.callee with
    | .builtin .len => (match c.args.toList, c.argTypes.toList with
      | [x], [T] => opLen F.C o.dst T x
      | _, _ => .fail)
    | .builtin .min => opMinMax F.C o.dst c.args.toList (fun a b => if b < a then b else a)
    | .builtin .max => opMinMax F.C o.dst c.args.toList (fun a b => if b > a then b else a)
    | .builtin .append => (match c.args.toList, c.argTypes.toList with
      | [s, x], [T, T2] => opAppend F.C o.dst s x T T2
      | _, _ => .fail)
    | .builtin .clear => (match c.args.toList, c.argTypes.toList with
      | [x], [T] => opClear F.C o.dst x T
      | _, _ => .fail)
    | .builtin _ => .fail
    | .invoke .. => .fail
    | .value f => if c.args.size = c.argTypes.size then opCallX F.C o.dst f (c.args.toList.zip c.argTypes.toList) else .fail
  | _ => .fail
end Go.K

/- K, part C: regions, code, functions. -/
set_option linter.unusedVariables false
namespace Go.K

structure Log where
  i : Nat
  rd : List Nat
  wr : List Nat

def opRun (F : FC) (o : Oper) (i : Nat) (σ : St) (more : List Nat) : Out (St × Log) :=
  match (step F o).run σ more with
  | none => .bad
  | some (out, rd) => out.bind fun u => .done (σ.upd u, ⟨i, rd, u.map (·.1)⟩)
def skipOp (o : Oper) (i : Nat) (σ : St) (more : List Nat) : Out (St × Log) :=
  match o.dst with
  | none => .done (σ, ⟨i, more, []⟩)
  | some d => .done (σ.set d ⟨(σ.at d).ver + 1, .undf⟩, ⟨i, more, [d]⟩)
/-- At a guard that is no literal the tree parts, and each arm knows the guard's value. -/
def evOpBr (F : FC) (ops : Array Oper) (i : Nat) (o : Oper) (σ : St) (k : St × Log → Out (St × List Log)) : Out (St × List Log) :=
  if o.dst.any F.C.pin then .bad else match o.guard with
  | none => (opRun F o i σ []).bind k
  | some (j, want) => match (ops[j]?).bind (·.dst) with
    | none => .bad
    | some g => match (σ.at g).e with
      | .undf => (skipOp o i σ [g]).bind k
      | .val .bool .fr b => .br b
          ((bif want then opRun F o i (σ.set g ⟨(σ.at g).ver, .val .bool .fr true⟩) [g] else skipOp o i (σ.set g ⟨(σ.at g).ver, .val .bool .fr true⟩) [g]).bind k)
          ((bif want then skipOp o i (σ.set g ⟨(σ.at g).ver, .val .bool .fr false⟩) [g] else opRun F o i (σ.set g ⟨(σ.at g).ver, .val .bool .fr false⟩) [g]).bind k)
      | _ => .bad
def evOps (F : FC) (ops : Array Oper) : List (Oper × Nat) → St → List Log → Out (St × List Log)
  | [], σ, ls => .done (σ, ls)
  | (o, i) :: r, σ, ls => evOpBr F ops i o σ fun (σ', l) => evOps F ops r σ' (l :: ls)
def meets (a b : List Nat) : Bool := a.any fun x => b.contains x
def apartLogs (bf : Array Nat) (a b : Log) : Bool :=   -- a stands behind b in the text
  (bf.getD a.i 0).testBit b.i || !(meets a.wr b.wr || meets a.wr b.rd || meets a.rd b.wr)
def okLogs (bf : Array Nat) : List Log → Bool
  | [] => true
  | a :: ls => ls.all (fun b => apartLogs bf a b) && okLogs bf ls
/-- The edges that bind lead back in the text. -/
def edgesOk (ops : Array Oper) : Bool := ops.toList.zipIdx.all fun (o, i) => o.after.toList.all fun e => !Region.binds .any e || decide (e.on < i)
def evRegion (F : FC) (ops : Array Oper) (draw : Bool) (σ : St) : Out (St) :=
  (evOps F ops ops.toList.zipIdx σ []).bind fun (σ', ls) =>
    if draw then (if okLogs (Region.before ops) ls && edgesOk ops then .done σ' else .bad) else .done σ'
/-- What is kept at a loop's head: the values of the temporaries that live on, and the borrows that still stand. -/
def stands (keep : Nat → Bool) (σ : St) (r v : Nat) : Bool := keep r && Nat.beq (σ.at r).ver v
def capsCanon (keep : Nat → Bool) (σ : St) : List Cap → Option (List Cap)
  | [] => some []
  | .arg a :: cs => match capsCanon keep σ cs with | some l => some (.arg a :: l) | none => none
  | .root r v :: cs => match capsCanon keep σ cs with | some l => (if stands keep σ r v then some (.root r 0 :: l) else none) | none => none
def Ent.canon (keep : Nat → Bool) (σ : St) : Ent → Ent
  | .val t q x => .val t q x
  | .fnl g f c => match capsCanon keep σ c with | some l => .fnl g f l | none => .un
  | .fbox g f c => .fbox g f c
  | .pfn g f c => .pfn g f c
  | .sref r v p win => if stands keep σ r v then .sref r 0 p win else .un
  | .pref r v p => if stands keep σ r v then .pref r 0 p else .un
  | _ => .un
def canonFrom (keep : Nat → Bool) (σ : St) : Nat → St → St
  | _, [] => []
  | i, s :: r => (if keep i then ⟨0, s.e.canon keep σ⟩ else ⟨0, .un⟩) :: canonFrom keep σ (i + 1) r
def canonAt (keep : Nat → Bool) (σ : St) : St := canonFrom keep σ 0 σ
/-- What is frozen at a loop's head. -/
def iceAt : List Nat → St → St
  | [], σ => σ
  | t :: ts, σ => iceAt ts (match (σ.at t).e with
    | .val ty q x => bif !q.clean && q.whole then σ.set t ⟨(σ.at t).ver + 1, .val ty .fr x⟩ else σ
    | _ => σ)
def headAt (F : FC) (i : Nat) (σ : St) : St := canonAt (F.C.keep i) (iceAt (F.C.ice i) σ)
/-- Loops go by their summaries, told by the block around them. -/
abbrev Sums := Nat → St → Out (Exit × St)
def ev (F : FC) (L : Sums) : Nat → Code → St → Out (Exit × St)
  | _, .skip, σ => .done (.normal, σ)
  | _, .region _ ops draw, σ => (evRegion F ops draw σ).bind fun σ' => .done (.normal, σ')
  | cur, .seq a b, σ => (ev F L cur a σ).bind fun (e, σ') => match e with
    | .normal => ev F L cur b σ'
    | e => .done (e, σ')
  | cur, .cond c a b, σ => match c with
    | .tmp t => (match (σ.at t).e with
      | .val .bool .fr x => .br x (ev F L cur a (σ.set t ⟨(σ.at t).ver, .val .bool .fr true⟩)) (ev F L cur b (σ.set t ⟨(σ.at t).ver, .val .bool .fr false⟩))
      | _ => .bad)
    | .const (.bool true) => ev F L cur a σ
    | .const (.bool false) => ev F L cur b σ
    | _ => .bad
  | _, .block id c, σ => (ev F L id c σ).bind fun (e, σ') => match e with
    | .exit i => if i = id then .done (.normal, σ') else .done (.exit i, σ')
    | e => .done (e, σ')
  | cur, .loop c, σ => L cur (headAt F (3 * cur) σ)
  | _, .exit id, σ => .done (.exit id, σ)
  | _, .ret, σ => .done (.ret, σ)
  | _, _, _ => .bad

def Arg.entry : Arg → Ent
  | .v t q x => .val t q x
  | .fn g f c => .fnl g f (c.map .arg)
  | .pfn g f c => .pfn g f c
  | .gone => .un
def enter (fn : Func) (args : List Arg) : St := args.map (fun a => ⟨0, a.entry⟩) ++ List.replicate (fn.ntmps - args.length) ⟨0, .un⟩
/-- What a closure that is handed out has captured: taken out of where it lies, and frozen. -/
def capsGive (σ : St) : List Cap → Option (List Arg × St)
  | [] => some ([], σ)
  | .arg a :: cs => match capsGive σ cs with | some (as, σ') => some (a :: as, σ') | none => none
  | .root r v :: cs => if (σ.at r).ver = v then (match (σ.at r).e with
      | .val (.ptr t) (.own q) x => if q.whole then (match capsGive (σ.set r ⟨0, .un⟩) cs with | some (as, σ') => some (.v (.ptr t) .fr x :: as, σ') | none => none) else none
      | .fbox g f c => (match capsGive (σ.set r ⟨0, .un⟩) cs with | some (as, σ') => some (.pfn g f c :: as, σ') | none => none)
      | _ => none) else none
/-- A result: taken out of where it lies. -/
def result (ty : Nat → Option Ty) (σ : St) : ResultVar → Option (Arg × St)
  | .tmp t => match (σ.at t).e with
    | .val ty q x => some (.v ty q x, if q.clean then σ else σ.set t ⟨0, .un⟩)
    | .sref r v [] none => (match (σ.at r).e with
      | .val (.sl T e) (.own q) x => if (σ.at r).ver = v then some (.v (.sl T e) (.own q) x, σ.set r ⟨0, .un⟩) else none
      | _ => none)
    | .sref r v [] (some (lo, hi)) => (match (σ.at r).e with
      | .val (.sl T e) (.own q) x => if (σ.at r).ver = v then some (.v (.sl T e) (.own q) (x.take hi), σ.set r ⟨0, .un⟩) else none
      | _ => none)
    | .pref r v [] => (match (σ.at r).e with
      | .val (.ptr t) (.own q) x => if (σ.at r).ver = v then some (.v (.ptr t) (.own q) x, σ.set r ⟨0, .un⟩) else none
      | _ => none)
    | .fnl g f caps => (match capsGive σ caps with | some (as, σ') => some (.fn g f as, σ') | none => none)
    | _ => none
  | .cell a T => match (σ.at a).e with
    | .val (.ptr t) (.own q) x => if q.whole ∧ ty T = some t then some (.v t q x, σ.set a ⟨0, .un⟩) else none
    | _ => none
def iced (b : Bool) : Arg × St → Option (Arg × St)
  | (.v t q x, σ) => if b && !q.clean then (if q.whole then some (.v t .fr x, σ) else none) else some (.v t q x, σ)
  | a => some a
def resultsOf (ty : Nat → Option Ty) (fr : Nat → Bool) : Nat → List ResultVar → St → Option (List Arg × St)
  | _, [], σ => some ([], σ)
  | i, r :: rs, σ => match result ty σ r with
    | some p => (match iced (fr i) p with
      | some (a, σ') => (match resultsOf ty fr (i + 1) rs σ' with
        | some (as, σ'') => some (a :: as, σ'')
        | none => none)
      | none => none)
    | none => none
def finals (m : Nat → Mode) (σ : St) : Nat → Nat → Option (List Arg)
  | _, 0 => some []
  | i, n + 1 => match m i with
    | .mut => (match (σ.at i).e with
      | .val t (.own q) x => (match finals m σ (i + 1) n with | some l => some (.v t (.own q) x :: l) | none => none)
      | _ => none)
    | _ => finals m σ (i + 1) n
/-- Where the stretches of slices that are handed out begin: they are to begin at 0. -/
def winsOf (σ : St) : List ResultVar → List Nat
  | [] => []
  | .tmp t :: rs => (match (σ.at t).e with
    | .sref _ _ _ (some (lo, _)) => lo :: winsOf σ rs
    | _ => winsOf σ rs)
  | _ :: rs => winsOf σ rs
def zeros {α : Type} : List Nat → Out α → Out α
  | [], o => o
  | n :: ns, o => .br (Nat.beq n 0) (zeros ns o) .bad
theorem zeros_run {α : Type} : ∀ {l : List Nat} {o : Out α} {a : α}, (zeros l o).run = some a → (∀ n ∈ l, n = 0) ∧ o.run = some a
  | [], o, a, h => ⟨fun _ hm => (List.not_mem_nil hm).elim, h⟩
  | n :: l, o, a, h => by
    simp only [zeros, Out.run] at h
    cases hb : Nat.beq n 0 with
    | false => rw [hb] at h; cases h
    | true =>
      rw [hb] at h
      obtain ⟨h1, h2⟩ := zeros_run (l := l) h
      refine ⟨fun m hm => ?_, h2⟩
      rcases List.mem_cons.1 hm with rfl | hm
      · exact Nat.eq_of_beq_eq_true hb
      · exact h1 m hm
def leave (F : FC) (f : Nat) (fn : Func) (n : Nat) (σ : St) : Out (List Arg × List Arg) :=
  zeros (winsOf σ fn.results.toList) (match resultsOf F.C.ty F.C.rfr 0 fn.results.toList σ with
  | some (res, σ') => match finals (F.C.mode f) σ' 0 n with
    | some fin => .done (res, fin)
    | none => .bad
  | none => .bad)
def leaving (F : FC) (f : Nat) (fn : Func) (n : Nat) : Exit × St → Out (List Arg × List Arg)
  | (.normal, σ) => leave F f fn n σ
  | (.ret, σ) => leave F f fn n σ
  | _ => .bad
def evFn (F : FC) (L : Sums) (f : Nat) (fn : Func) (args : List Arg) : Out (List Arg × List Arg) :=
  match fn.body with
  | none => .bad
  | some c => (ev F L 0 c (enter fn args)).bind (leaving F f fn args.length)
/-- A round of a loop, from one canonical state to the next. -/
def evRound (F : FC) (L : Sums) (cur : Nat) (c : Code) (σ : St) : Out (Exit × St) :=
  (ev F L cur c σ).bind fun (e, σ') => match e with
    | .normal => .done (.normal, headAt F (3 * cur) σ')
    | .ret => .done (.ret, headAt F (3 * cur + 2) σ')
    | e => .done (e, headAt F (3 * cur + 1) σ')
/-- A loop by rounds. -/
def evLoop (F : FC) (L : Sums) (cur : Nat) (c : Code) : Nat → St → Out (Exit × St)
  | 0, _ => .bad
  | k + 1, σ => (evRound F L cur c σ).bind fun (e, σ') => match e with
    | .normal => evLoop F L cur c k σ'
    | e => .done (e, σ')
end Go.K

/- K, part D: what it is that memory holds a typed value. -/
set_option linter.unusedVariables false
set_option linter.unusedSimpArgs false
namespace Go.K

abbrev BSet := Nat → Prop
def E0 (F : BSet) : Prop := ∀ b, ¬ F b
def Join (F F1 F2 : BSet) : Prop := (∀ b, F b ↔ F1 b ∨ F2 b) ∧ ∀ b, F1 b → F2 b → False
theorem Join.left {F F1 F2 : BSet} (h : Join F F1 F2) {b : Nat} (x : F1 b) : F b := (h.1 b).2 (.inl x)
theorem Join.right {F F1 F2 : BSet} (h : Join F F1 F2) {b : Nat} (x : F2 b) : F b := (h.1 b).2 (.inr x)
theorem Join.none : Join (fun _ => False) (fun _ => False) (fun _ => False) := ⟨fun _ => by simp, fun _ h => h.elim⟩

def ElemsRep {α : Type} (R : α → List Value → BSet → Prop) : List α → List Value → BSet → Prop
  | [], cs, F => cs = [] ∧ E0 F
  | x :: xs, cs, F => ∃ c1 c2 F1 F2, cs = c1 ++ c2 ∧ R x c1 F1 ∧ ElemsRep R xs c2 F2 ∧ Join F F1 F2

/-- Cells from an address on. -/
def CellsAt (w : World) (ad : Addr) (cs : List Value) : Prop := ∀ j u, cs[j]? = some u → w.cell? (ad.add j) = some u

/-- A map's entries. -/
def MapRep {α β : Type} (R : α → List Value → Prop) (S : β → List Value → Prop) (ka va : Bool) : List (α × β) → List MapEntry → Prop
  | [], es => es = []
  | x :: l, es => ∃ e es', es = e :: es' ∧ (R x.1 e.key.cells.toList ∧ (ka = true ↔ ∃ cs, e.key = .agg cs)) ∧ (S x.2 e.val.cells.toList ∧ (va = true ↔ ∃ cs, e.val = .agg cs)) ∧ MapRep R S ka va l es'

def Rep (w : World) (Z : BSet) : (t : Ty) → Ow → t.den → List Value → BSet → Prop
  | .int k, q, n, cs, F => q ≠ .hole ∧ cs = [.int k n] ∧ E0 F ∨ q = .hole ∧ cs.length = 1 ∧ (∀ u ∈ cs, u.oneCell' = true) ∧ E0 F
  | .bool, q, n, cs, F => q ≠ .hole ∧ cs = [.bool n] ∧ E0 F ∨ q = .hole ∧ cs.length = 1 ∧ (∀ u ∈ cs, u.oneCell' = true) ∧ E0 F
  | .str, q, s, cs, F => q ≠ .hole ∧ cs = [.string ⟨s.toArray⟩] ∧ E0 F ∨ q = .hole ∧ cs.length = 1 ∧ (∀ u ∈ cs, u.oneCell' = true) ∧ E0 F
  | .unit, _, _, cs, F => cs = [] ∧ E0 F
  | .pair a b, q, x, cs, F => ∃ c1 c2 F1 F2, cs = c1 ++ c2 ∧ Rep w Z a q.l x.1 c1 F1 ∧ Rep w Z b q.r x.2 c2 F2 ∧ Join F F1 F2
  | .arr n e, q, xs, cs, F => q ≠ .hole ∧ xs.length = n ∧ ElemsRep (fun y => Rep w Z e .fr y) xs cs F ∧ E0 F ∨ q = .hole ∧ cs.length = n * e.cells ∧ (∀ u ∈ cs, u.oneCell' = true) ∧ E0 F
  | .sl T e, .own qe, xs, cs, F => ∃ V cells Fe, cs = [V] ∧ w.ownsRow 0 T e.cells V xs.length cells ∧ ElemsRep (fun y => Rep w Z e qe y) xs cells Fe ∧
      (∀ b, F b ↔ V.ownBlock = some b ∨ Fe b) ∧ (∀ b, V.ownBlock = some b → ¬ Fe b)
  | .sl T e, .hole, xs, cs, F => cs.length = 1 ∧ (∀ u ∈ cs, u.oneCell' = true) ∧ E0 F
  | .sl T e, _, xs, cs, F => ∃ A c cells, cs = [.slice A xs.length c] ∧ E0 F ∧ xs.length ≤ c ∧ c ≤ maxLen ∧
      (xs ≠ [] → ∃ ad, A = some ad ∧ ad.spot = none ∧ Z ad.block ∧ CellsAt w ad cells) ∧ ElemsRep (fun y => Rep w Z e .fr y) xs cells (fun _ => False)
  | .ptr t, .own q, x, cs, F => ∃ g cur T Fe, cs = [.pointer (some ⟨g, 0, none⟩)] ∧ w.heap[g]? = some (.cells cur T (0, 0)) ∧ Rep w Z t q x cur.toList Fe ∧
      (∀ b, F b ↔ b = g ∨ Fe b) ∧ ¬ Fe g
  | .ptr t, .hole, x, cs, F => cs.length = 1 ∧ (∀ u ∈ cs, u.oneCell' = true) ∧ E0 F
  | .ptr t, _, x, cs, F => ∃ ad cells, cs = [.pointer (some ad)] ∧ E0 F ∧ ad.spot = none ∧ Z ad.block ∧ CellsAt w ad cells ∧ Rep w Z t .fr x cells (fun _ => False)
  | .mp k v, .own _, l, cs, F => ∃ g es ck, cs = [.map (some g)] ∧ w.heap[g]? = some (.map es ck) ∧
      MapRep (fun y cs => Rep w Z k .fr y cs (fun _ => False)) (fun y cs => Rep w Z v .fr y cs (fun _ => False)) k.isAgg v.isAgg l es.toList ∧ ∀ b, F b ↔ b = g
  | .mp _ _, _, _, cs, F => cs.length = 1 ∧ (∀ u ∈ cs, u.oneCell' = true) ∧ E0 F
theorem MapRep.mono {α β : Type} {R R' : α → List Value → Prop} {S S' : β → List Value → Prop} {ka va : Bool} (h1 : ∀ x cs, R x cs → R' x cs) (h2 : ∀ x cs, S x cs → S' x cs) :
    ∀ {l : List (α × β)} {es : List MapEntry}, MapRep R S ka va l es → MapRep R' S' ka va l es
  | [], _, h => h
  | x :: l, _, ⟨e, es', he, a, b, h⟩ => ⟨e, es', he, ⟨h1 _ _ a.1, a.2⟩, ⟨h2 _ _ b.1, b.2⟩, h.mono h1 h2⟩

theorem ElemsRep.mono {α : Type} {R R' : α → List Value → BSet → Prop} (h : ∀ x cs F, R x cs F → R' x cs F) : ∀ {xs : List α} {cs : List Value} {F : BSet}, ElemsRep R xs cs F → ElemsRep R' xs cs F
  | [], _, _, hh => hh
  | x :: xs, _, _, ⟨c1, c2, F1, F2, e, h1, h2, j⟩ => ⟨c1, c2, F1, F2, e, h _ _ _ h1, h2.mono h, j⟩
theorem ElemsRep.monoF {α : Type} {R R' : α → List Value → BSet → Prop} {S : BSet} (h : ∀ x cs F, (∀ b, F b → S b) → R x cs F → R' x cs F) :
    ∀ {xs : List α} {cs : List Value} {F : BSet}, (∀ b, F b → S b) → ElemsRep R xs cs F → ElemsRep R' xs cs F
  | [], _, _, _, hh => hh
  | x :: xs, _, _, hs, ⟨c1, c2, F1, F2, e, h1, h2, j⟩ => ⟨c1, c2, F1, F2, e, h _ _ _ (fun b hb => hs b (j.left hb)) h1, h2.monoF h (fun b hb => hs b (j.right hb)), j⟩
theorem ElemsRep.length {α : Type} {R : α → List Value → BSet → Prop} {k : Nat} (h : ∀ x cs F, R x cs F → cs.length = k) : ∀ {xs : List α} {cs : List Value} {F : BSet}, ElemsRep R xs cs F → cs.length = xs.length * k
  | [], _, _, hh => by simp [hh.1]
  | x :: xs, _, _, ⟨c1, c2, F1, F2, e, h1, h2, j⟩ => by
    subst e; rw [List.length_append, h _ _ _ h1, h2.length h, List.length_cons, Nat.add_mul, Nat.one_mul, Nat.add_comm]
theorem ElemsRep.all {α : Type} {R : α → List Value → BSet → Prop} {p : Value → Prop} (h : ∀ x cs F, R x cs F → ∀ u ∈ cs, p u) : ∀ {xs : List α} {cs : List Value} {F : BSet}, ElemsRep R xs cs F → ∀ u ∈ cs, p u
  | [], _, _, hh, u, hu => by rw [hh.1] at hu; cases hu
  | x :: xs, _, _, ⟨c1, c2, F1, F2, e, h1, h2, j⟩, u, hu => by
    subst e
    rcases List.mem_append.1 hu with hu | hu
    · exact h _ _ _ h1 u hu
    · exact h2.all h u hu

theorem Rep.length {w : World} {Z : BSet} : ∀ {t : Ty} {q : Ow} {x : t.den} {cs : List Value} {F : BSet}, Rep w Z t q x cs F → cs.length = t.cells
  | .int k, q, x, cs, F, h => by rcases h with ⟨_, rfl, _⟩ | ⟨_, h, _⟩ <;> simp_all [Ty.cells]
  | .bool, q, x, cs, F, h => by rcases h with ⟨_, rfl, _⟩ | ⟨_, h, _⟩ <;> simp_all [Ty.cells]
  | .str, q, x, cs, F, h => by rcases h with ⟨_, rfl, _⟩ | ⟨_, h, _⟩ <;> simp_all [Ty.cells]
  | .unit, q, x, cs, F, h => by simp [h.1, Ty.cells]
  | .pair a b, q, x, cs, F, h => by
    obtain ⟨c1, c2, F1, F2, rfl, h1, h2, _⟩ := h
    rw [List.length_append, h1.length, h2.length, Ty.cells]
  | .arr n e, q, x, cs, F, h => by
    rcases h with ⟨_, hl, h, _⟩ | ⟨_, h, _⟩
    · rw [h.length (fun _ _ _ h => h.length), hl, Ty.cells]
    · simpa [Ty.cells] using h
  | .sl T e, q, x, cs, F, h => by
    cases q with
    | own qe => obtain ⟨V, cells, Fe, rfl, _⟩ := h; rfl
    | hole => exact h.1
    | fr => obtain ⟨A, c, cells, rfl, _⟩ := h; rfl
    | pr a b => obtain ⟨A, c, cells, rfl, _⟩ := h; rfl
  | .ptr t, q, x, cs, F, h => by
    cases q with
    | own qe => obtain ⟨g, cur, T, Fe, rfl, _⟩ := h; rfl
    | hole => exact h.1
    | fr => obtain ⟨ad, cells, rfl, _⟩ := h; rfl
    | pr a b => obtain ⟨ad, cells, rfl, _⟩ := h; rfl
  | .mp k v, q, x, cs, F, h => by
    cases q with
    | own qe => obtain ⟨g, es, ck, rfl, _⟩ := h; rfl
    | hole => exact h.1
    | fr => exact h.1
    | pr a b => exact h.1

theorem own_oneCell {w : World} {base : Nat} {e : TypeId} {size n : Nat} {v : Value} {xs : List Value} (h : w.ownsRow base e size v n xs) : v.oneCell' = true := by
  rcases h.2 with ⟨rfl, _⟩ | ⟨g, cap, cur, rfl, _⟩ <;> rfl
theorem Rep.one {w : World} {Z : BSet} : ∀ {t : Ty} {q : Ow} {x : t.den} {cs : List Value} {F : BSet}, Rep w Z t q x cs F → ∀ u ∈ cs, u.oneCell' = true
  | .int k, q, x, cs, F, h => by
    rcases h with ⟨_, rfl, _⟩ | ⟨_, _, h, _⟩
    · intro u hu; simp at hu; subst hu; rfl
    · exact h
  | .bool, q, x, cs, F, h => by
    rcases h with ⟨_, rfl, _⟩ | ⟨_, _, h, _⟩
    · intro u hu; simp at hu; subst hu; rfl
    · exact h
  | .str, q, x, cs, F, h => by
    rcases h with ⟨_, rfl, _⟩ | ⟨_, _, h, _⟩
    · intro u hu; simp at hu; subst hu; rfl
    · exact h
  | .unit, q, x, cs, F, h => by intro u hu; rw [h.1] at hu; cases hu
  | .pair a b, q, x, cs, F, h => by
    obtain ⟨c1, c2, F1, F2, rfl, h1, h2, _⟩ := h
    intro u hu
    rcases List.mem_append.1 hu with hu | hu
    · exact h1.one u hu
    · exact h2.one u hu
  | .arr n e, q, x, cs, F, h => by
    rcases h with ⟨_, hl, h, _⟩ | ⟨_, _, h, _⟩
    · exact h.all (fun _ _ _ h => h.one)
    · exact h
  | .sl T e, q, x, cs, F, h => by
    cases q with
    | own qe => obtain ⟨V, cells, Fe, rfl, h, _⟩ := h; intro u hu; simp at hu; subst hu; exact own_oneCell h
    | hole => exact h.2.1
    | fr => obtain ⟨A, c, cells, rfl, _⟩ := h; intro u hu; simp at hu; subst hu; rfl
    | pr a b => obtain ⟨A, c, cells, rfl, _⟩ := h; intro u hu; simp at hu; subst hu; rfl
  | .ptr t, q, x, cs, F, h => by
    cases q with
    | own qe => obtain ⟨g, cur, T, Fe, rfl, _⟩ := h; intro u hu; simp at hu; subst hu; rfl
    | hole => exact h.2.1
    | fr => obtain ⟨ad, cells, rfl, _⟩ := h; intro u hu; simp at hu; subst hu; rfl
    | pr a b => obtain ⟨ad, cells, rfl, _⟩ := h; intro u hu; simp at hu; subst hu; rfl
  | .mp k v, q, x, cs, F, h => by
    cases q with
    | own qe => obtain ⟨g, es, ck, rfl, _⟩ := h; intro u hu; simp at hu; subst hu; rfl
    | hole => exact h.2.1
    | fr => exact h.2.1
    | pr a b => exact h.2.1

theorem cell_of_heap {w w' : World} {ad : Addr} (h : w'.heap[ad.block]? = w.heap[ad.block]?) : w'.cell? ad = w.cell? ad := by
  unfold World.cell?; rw [h]
theorem add_block (ad : Addr) (j : Nat) : (ad.add j).block = ad.block := by unfold Addr.add; split <;> rfl
theorem CellsAt.frame {w w' : World} {ad : Addr} {cs : List Value} (h : CellsAt w ad cs) (hh : w'.heap[ad.block]? = w.heap[ad.block]?) : CellsAt w' ad cs :=
  fun j u hj => (cell_of_heap (w := w) (w' := w') (ad := ad.add j) (by rw [add_block]; exact hh)).trans (h j u hj)
theorem ownsRow_frame {w w' : World} {base : Nat} {e : TypeId} {size n : Nat} {v : Value} {xs : List Value} (h : w.ownsRow base e size v n xs)
    (hh : ∀ b, v.ownBlock = some b → w'.heap[b]? = w.heap[b]?) : w'.ownsRow base e size v n xs := by
  refine ⟨h.1, ?_⟩
  rcases h.2 with h | ⟨g, cap, cur, rfl, hb, hg, r⟩
  · exact .inl h
  · exact .inr ⟨g, cap, cur, rfl, hb, by rw [hh g rfl]; exact hg, r⟩

/-- The reading stands wherever its own blocks and the frozen ones are as they were. -/
theorem Rep.frame {w w' : World} {Z Z' : BSet} (hZ : ∀ b, Z b → Z' b ∧ w'.heap[b]? = w.heap[b]?) :
    ∀ {t : Ty} {q : Ow} {x : t.den} {cs : List Value} {F : BSet}, (∀ b, F b → w'.heap[b]? = w.heap[b]?) → Rep w Z t q x cs F → Rep w' Z' t q x cs F
  | .int k, q, x, cs, F, hF, h => h
  | .bool, q, x, cs, F, hF, h => h
  | .str, q, x, cs, F, hF, h => h
  | .unit, q, x, cs, F, hF, h => h
  | .pair a b, q, x, cs, F, hF, h => by
    obtain ⟨c1, c2, F1, F2, rfl, h1, h2, j⟩ := h
    exact ⟨c1, c2, F1, F2, rfl, h1.frame hZ (fun b hb => hF b (j.left hb)), h2.frame hZ (fun b hb => hF b (j.right hb)), j⟩
  | .arr n e, q, x, cs, F, hF, h => by
    rcases h with ⟨hq, hl, h, h0⟩ | h
    · exact .inl ⟨hq, hl, h.monoF (S := F) (fun _ _ _ hs h => h.frame hZ (fun b hb => hF b (hs b hb))) (fun _ h => h), h0⟩
    · exact .inr h
  | .sl T e, q, x, cs, F, hF, h => by
    cases q with
    | own qe =>
      obtain ⟨V, cells, Fe, rfl, ho, h, hf, hd⟩ := h
      exact ⟨V, cells, Fe, rfl, ownsRow_frame ho (fun b hb => hF b ((hf b).2 (.inl hb))),
        h.monoF (S := Fe) (fun _ _ _ hs h => h.frame hZ (fun b hb => hF b ((hf b).2 (.inr (hs b hb))))) (fun _ h => h), hf, hd⟩
    | hole => exact h
    | fr =>
      obtain ⟨A, c, cells, rfl, h0, hc, hm, hA, h⟩ := h
      refine ⟨A, c, cells, rfl, h0, hc, hm, fun hx => ?_, h.monoF (S := fun _ => False) (fun _ _ _ hs h => h.frame hZ (fun b hb => (hs b hb).elim)) (fun _ h => h)⟩
      obtain ⟨ad, e1, e2, e3, e4⟩ := hA hx
      exact ⟨ad, e1, e2, (hZ _ e3).1, e4.frame (hZ _ e3).2⟩
    | pr a b =>
      obtain ⟨A, c, cells, rfl, h0, hc, hm, hA, h⟩ := h
      refine ⟨A, c, cells, rfl, h0, hc, hm, fun hx => ?_, h.monoF (S := fun _ => False) (fun _ _ _ hs h => h.frame hZ (fun b hb => (hs b hb).elim)) (fun _ h => h)⟩
      obtain ⟨ad, e1, e2, e3, e4⟩ := hA hx
      exact ⟨ad, e1, e2, (hZ _ e3).1, e4.frame (hZ _ e3).2⟩
  | .ptr t, q, x, cs, F, hF, h => by
    cases q with
    | own qe =>
      obtain ⟨g, cur, T, Fe, rfl, ho, h, hf, hd⟩ := h
      exact ⟨g, cur, T, Fe, rfl, by rw [hF g ((hf g).2 (.inl rfl))]; exact ho, h.frame hZ (fun b hb => hF b ((hf b).2 (.inr hb))), hf, hd⟩
    | hole => exact h
    | fr =>
      obtain ⟨ad, cells, rfl, h0, hs, hz, hc, h⟩ := h
      exact ⟨ad, cells, rfl, h0, hs, (hZ _ hz).1, hc.frame (hZ _ hz).2, h.frame hZ (fun b hb => hb.elim)⟩
    | pr a b =>
      obtain ⟨ad, cells, rfl, h0, hs, hz, hc, h⟩ := h
      exact ⟨ad, cells, rfl, h0, hs, (hZ _ hz).1, hc.frame (hZ _ hz).2, h.frame hZ (fun b hb => hb.elim)⟩
  | .mp k v, q, x, cs, F, hF, h => by
    cases q with
    | own qe =>
      obtain ⟨g, es, ck, rfl, ho, h, hf⟩ := h
      exact ⟨g, es, ck, rfl, by rw [hF g ((hf g).2 rfl)]; exact ho, h.mono (fun _ _ h => h.frame hZ (fun b hb => hb.elim)) (fun _ _ h => h.frame hZ (fun b hb => hb.elim)), hf⟩
    | hole => exact h
    | fr => exact h
    | pr a b => exact h

theorem ElemsRep.e0 {α : Type} {R : α → List Value → BSet → Prop} (h : ∀ x cs F, R x cs F → E0 F) : ∀ {xs : List α} {cs : List Value} {F : BSet}, ElemsRep R xs cs F → E0 F
  | [], _, _, hh => hh.2
  | x :: xs, _, _, ⟨c1, c2, F1, F2, e, h1, h2, j⟩ => fun b hb => by
    rcases (j.1 b).1 hb with hb | hb
    · exact h _ _ _ h1 b hb
    · exact h2.e0 h b hb
theorem clean_l {q : Ow} (h : q.clean = true) : q.l.clean = true := by cases q <;> simp_all [Ow.l, Ow.clean]
theorem clean_r {q : Ow} (h : q.clean = true) : q.r.clean = true := by cases q <;> simp_all [Ow.r, Ow.clean]
theorem whole_l {q : Ow} (h : q.whole = true) : q.l.whole = true := by cases q <;> simp_all [Ow.l, Ow.whole]
theorem whole_r {q : Ow} (h : q.whole = true) : q.r.whole = true := by cases q <;> simp_all [Ow.r, Ow.whole]
theorem clean_whole : ∀ {q : Ow}, q.clean = true → q.whole = true
  | .fr, _ => rfl
  | .pr a b, h => by
    simp only [Ow.clean, Bool.and_eq_true] at h
    simp only [Ow.whole, Bool.and_eq_true]
    exact ⟨clean_whole h.1, clean_whole h.2⟩
theorem Rep.e0 {w : World} {Z : BSet} : ∀ {t : Ty} {q : Ow} {x : t.den} {cs : List Value} {F : BSet}, q.clean = true → Rep w Z t q x cs F → E0 F
  | .int k, q, x, cs, F, hq, h => by rcases h with ⟨_, _, h⟩ | ⟨_, _, _, h⟩ <;> exact h
  | .bool, q, x, cs, F, hq, h => by rcases h with ⟨_, _, h⟩ | ⟨_, _, _, h⟩ <;> exact h
  | .str, q, x, cs, F, hq, h => by rcases h with ⟨_, _, h⟩ | ⟨_, _, _, h⟩ <;> exact h
  | .unit, q, x, cs, F, hq, h => h.2
  | .pair a b, q, x, cs, F, hq, h => by
    obtain ⟨c1, c2, F1, F2, rfl, h1, h2, j⟩ := h
    intro b hb
    rcases (j.1 b).1 hb with hb | hb
    · exact h1.e0 (clean_l hq) b hb
    · exact h2.e0 (clean_r hq) b hb
  | .arr n e, q, x, cs, F, hq, h => by rcases h with ⟨_, _, _, h⟩ | ⟨_, _, _, h⟩ <;> exact h
  | .sl T e, q, x, cs, F, hq, h => by
    cases q with
    | own qe => simp [Ow.clean] at hq
    | hole => simp [Ow.clean] at hq
    | fr => obtain ⟨A, c, cells, rfl, h, _⟩ := h; exact h
    | pr a b => obtain ⟨A, c, cells, rfl, h, _⟩ := h; exact h
  | .ptr t, q, x, cs, F, hq, h => by
    cases q with
    | own qe => simp [Ow.clean] at hq
    | hole => simp [Ow.clean] at hq
    | fr => obtain ⟨A, c, rfl, h, _⟩ := h; exact h
    | pr a b => obtain ⟨A, c, rfl, h, _⟩ := h; exact h
  | .mp k v, q, x, cs, F, hq, h => by
    cases q with
    | own qe => simp [Ow.clean] at hq
    | hole => simp [Ow.clean] at hq
    | fr => exact h.2.2
    | pr a b => exact h.2.2

theorem own_cells {w : World} {base : Nat} {e : TypeId} {size n : Nat} {v : Value} {xs : List Value} (h : w.ownsRow base e size v n xs) :
    ∃ A c, v = .slice A n c ∧ n ≤ c ∧ c ≤ maxLen ∧ (0 < n → ∃ g, A = some ⟨g, 0, none⟩ ∧ v.ownBlock = some g ∧ CellsAt w ⟨g, 0, none⟩ xs) := by
  have h0 := h
  rcases h.2 with ⟨rfl, rfl⟩ | ⟨g, cap, cur, rfl, hb, hg, h1, h2, h3, h4⟩
  · exact ⟨none, 0, rfl, Nat.le_refl _, Nat.zero_le _, fun h => absurd h (Nat.lt_irrefl _)⟩
  · refine ⟨_, cap, rfl, h1, h2, fun _ => ⟨g, rfl, rfl, fun j u hj => ?_⟩⟩
    exact h0.cells rfl j u hj

theorem ElemsRep.toFalse {α : Type} {R : α → List Value → BSet → Prop} : ∀ {xs : List α} {cs : List Value} {F : BSet}, ElemsRep (fun y cs _ => R y cs (fun _ => False)) xs cs F → ElemsRep R xs cs (fun _ => False)
  | [], _, _, hh => ⟨hh.1, fun _ h => h⟩
  | x :: xs, _, _, ⟨c1, c2, F1, F2, e, h1, h2, j⟩ => ⟨c1, c2, _, _, e, h1, h2.toFalse, Join.none⟩
theorem E0.eq {F : BSet} (h : E0 F) : F = fun _ => False := funext fun b => by simp [h b]
/-- What is owned may be taken for frozen. -/
theorem Rep.freeze {w : World} {Z Z' : BSet} (hZ : ∀ b, Z b → Z' b) :
    ∀ {t : Ty} {q : Ow} {x : t.den} {cs : List Value} {F : BSet}, q.whole = true → (∀ b, F b → Z' b) → Rep w Z t q x cs F → Rep w Z' t .fr x cs (fun _ => False)
  | .int k, q, x, cs, F, hq, hF, h => by
    rcases h with ⟨_, h, _⟩ | ⟨rfl, _⟩
    · exact .inl ⟨by simp, h, fun _ h => h⟩
    · simp [Ow.whole] at hq
  | .bool, q, x, cs, F, hq, hF, h => by
    rcases h with ⟨_, h, _⟩ | ⟨rfl, _⟩
    · exact .inl ⟨by simp, h, fun _ h => h⟩
    · simp [Ow.whole] at hq
  | .str, q, x, cs, F, hq, hF, h => by
    rcases h with ⟨_, h, _⟩ | ⟨rfl, _⟩
    · exact .inl ⟨by simp, h, fun _ h => h⟩
    · simp [Ow.whole] at hq
  | .unit, q, x, cs, F, hq, hF, h => ⟨h.1, fun _ h => h⟩
  | .pair a b, q, x, cs, F, hq, hF, h => by
    obtain ⟨c1, c2, F1, F2, rfl, h1, h2, j⟩ := h
    exact ⟨c1, c2, _, _, rfl, h1.freeze hZ (whole_l hq) (fun b hb => hF b (j.left hb)), h2.freeze hZ (whole_r hq) (fun b hb => hF b (j.right hb)), Join.none⟩
  | .arr n e, q, x, cs, F, hq, hF, h => by
    rcases h with ⟨_, hl, h, h0⟩ | ⟨rfl, _⟩
    · refine .inl ⟨by simp, hl, ?_, fun _ h => h⟩
      rw [h0.eq] at h
      exact h.monoF (S := fun _ => False) (fun _ _ F' hs h => by
        have : F' = fun _ => False := E0.eq hs
        subst this
        exact h.freeze hZ rfl (fun _ h => h.elim)) (fun _ h => h)
    · simp [Ow.whole] at hq
  | .sl T e, q, x, cs, F, hq, hF, h => by
    cases q with
    | own qe =>
      obtain ⟨V, cells, Fe, rfl, ho, h, hf, hd⟩ := h
      obtain ⟨A, c, rfl, h1, h2, h3⟩ := own_cells ho
      refine ⟨A, c, cells, rfl, fun _ h => h, h1, h2, fun hx => ?_, ?_⟩
      · obtain ⟨g, rfl, hb, hc⟩ := h3 (List.length_pos_iff.2 hx)
        exact ⟨_, rfl, rfl, hF g ((hf g).2 (.inl hb)), hc⟩
      · exact ElemsRep.toFalse (h.monoF (S := Fe) (R' := fun y cs _ => Rep w Z' e .fr y cs (fun _ => False))
          (fun _ _ F' hs h => h.freeze hZ (by simpa [Ow.whole] using hq) (fun b hb => hF b ((hf b).2 (.inr (hs b hb))))) (fun _ h => h))
    | hole => simp [Ow.whole] at hq
    | fr =>
      obtain ⟨A, c, cells, rfl, h0, hc, hm, hA, h⟩ := h
      refine ⟨A, c, cells, rfl, fun _ h => h, hc, hm, fun hx => ?_, ?_⟩
      · obtain ⟨ad, e1, e2, e3, e4⟩ := hA hx
        exact ⟨ad, e1, e2, hZ _ e3, e4⟩
      · exact ElemsRep.toFalse (h.monoF (S := fun _ => False) (R' := fun y cs _ => Rep w Z' e .fr y cs (fun _ => False)) (fun _ _ F' hs h => h.freeze hZ rfl (fun b hb => (hs b hb).elim)) (fun _ h => h))
    | pr a b =>
      obtain ⟨A, c, cells, rfl, h0, hc, hm, hA, h⟩ := h
      refine ⟨A, c, cells, rfl, fun _ h => h, hc, hm, fun hx => ?_, ?_⟩
      · obtain ⟨ad, e1, e2, e3, e4⟩ := hA hx
        exact ⟨ad, e1, e2, hZ _ e3, e4⟩
      · exact ElemsRep.toFalse (h.monoF (S := fun _ => False) (R' := fun y cs _ => Rep w Z' e .fr y cs (fun _ => False)) (fun _ _ F' hs h => h.freeze hZ rfl (fun b hb => (hs b hb).elim)) (fun _ h => h))
  | .ptr t, q, x, cs, F, hq, hF, h => by
    cases q with
    | own qe =>
      obtain ⟨g, cur, T, Fe, rfl, ho, h, hf, hd⟩ := h
      refine ⟨⟨g, 0, none⟩, cur.toList, rfl, fun _ h => h, rfl, hF g ((hf g).2 (.inl rfl)), fun j u hj => ?_, h.freeze hZ (by simpa [Ow.whole] using hq) (fun b hb => hF b ((hf b).2 (.inr hb)))⟩
      have e : (⟨g, 0, none⟩ : Addr).add j = ⟨g, j, none⟩ := by unfold Addr.add; split <;> simp_all
      rw [e]
      unfold World.cell?
      rw [ho]
      simpa using hj
    | hole => simp [Ow.whole] at hq
    | fr =>
      obtain ⟨ad, cells, rfl, h0, hs, hz, hc, h⟩ := h
      exact ⟨ad, cells, rfl, fun _ h => h, hs, hZ _ hz, hc, h.freeze hZ rfl (fun b hb => hb.elim)⟩
    | pr a b =>
      obtain ⟨ad, cells, rfl, h0, hs, hz, hc, h⟩ := h
      exact ⟨ad, cells, rfl, fun _ h => h, hs, hZ _ hz, hc, h.freeze hZ rfl (fun b hb => hb.elim)⟩
  | .mp k v, q, x, cs, F, hq, hF, h => by
    cases q with
    | own qe =>
      obtain ⟨g, es, ck, rfl, _⟩ := h
      exact ⟨rfl, fun u hu => by simp at hu; subst hu; rfl, fun _ h => h⟩
    | hole => simp [Ow.whole] at hq
    | fr => exact ⟨h.1, h.2.1, fun _ h => h⟩
    | pr a b => exact ⟨h.1, h.2.1, fun _ h => h⟩
theorem Rep.toFr {w : World} {Z : BSet} {t : Ty} {q : Ow} {x : t.den} {cs : List Value} {F : BSet} (hq : q.clean = true) (h : Rep w Z t q x cs F) : Rep w Z t .fr x cs F := by
  have e := (h.e0 hq).eq
  subst e
  exact h.freeze (fun _ h => h) (clean_whole hq) (fun _ h => h.elim)
end Go.K

/- K, part E: where a path leads in memory, and what a change there makes of the whole. -/
set_option linter.unusedVariables false
set_option linter.unusedSimpArgs false
namespace Go.K

inductive Loc where
  | mem (b o : Nat)
  | hdr (V : Value)
def Loc.header (w : World) : Loc → Option Value
  | .mem b o => w.cell? ⟨b, o, none⟩
  | .hdr V => some V
def fldOff : Ty → Nat → Nat
  | .pair a b, n + 1 => a.cells + fldOff b n
  | _, _ => 0
def stepLoc (w : World) (t : Ty) (l : Loc) : Step → Option Loc
  | .fld i => match l with | .mem b o => some (.mem b (o + fldOff t i)) | _ => none
  | .idx n => match t with
    | .sl _ e => match l.header w with | some (.slice (some ad) _ _) => some (.mem ad.block (ad.off + n * e.cells)) | _ => none
    | .arr _ e => match l with | .mem b o => some (.mem b (o + n * e.cells)) | _ => none
    | _ => none
def pathLoc (w : World) : TV → Loc → List Step → Option Loc
  | _, l, [] => some l
  | v, l, s :: p => match v.step s, stepLoc w v.t l s with
    | some u, some l' => pathLoc w u l' p
    | _, _ => none
/-- The indices are within what they lead through. -/
def StepOK (v : TV) : Step → Prop
  | .fld _ => True
  | .idx n => match v with
    | ⟨.sl _ _, .own _, xs⟩ => n < xs.length
    | ⟨.arr m _, _, xs⟩ => n < m
    | _ => False
def PathOK : TV → List Step → Prop
  | _, [] => True
  | v, s :: p => StepOK v s ∧ ∀ u, v.step s = some u → PathOK u p
def RepAt (w : World) (Z : BSet) (v : TV) : Loc → BSet → Prop
  | .mem b o, F => ¬ F b ∧ ∃ cs, CellsAt w ⟨b, o, none⟩ cs ∧ Rep w Z v.t v.q v.x cs F
  | .hdr V, F => Rep w Z v.t v.q v.x [V] F

theorem add_mem (b o j : Nat) : (⟨b, o, none⟩ : Addr).add j = ⟨b, o + j, none⟩ := by unfold Addr.add; split <;> simp_all
theorem CellsAt.mid {w : World} {b o : Nat} {p c r : List Value} (h : CellsAt w ⟨b, o, none⟩ (p ++ c ++ r)) : CellsAt w ⟨b, o + p.length, none⟩ c := by
  intro j u hj
  have hlt : j < c.length := by
    rcases Nat.lt_or_ge j c.length with h | h
    · exact h
    · rw [List.getElem?_eq_none h] at hj; cases hj
  have := h (p.length + j) u (by
    rw [List.append_assoc, List.getElem?_append_right (by omega), List.getElem?_append_left (by omega), Nat.add_sub_cancel_left]; exact hj)
  rw [add_mem] at this ⊢
  rw [Nat.add_assoc]; exact this
theorem CellsAt.app {w : World} {b o : Nat} {p c : List Value} (h1 : CellsAt w ⟨b, o, none⟩ p) (h2 : CellsAt w ⟨b, o + p.length, none⟩ c) : CellsAt w ⟨b, o, none⟩ (p ++ c) := by
  intro j u hj
  rw [add_mem]
  rcases Nat.lt_or_ge j p.length with h | h
  · rw [List.getElem?_append_left h] at hj
    have := h1 j u hj
    rwa [add_mem] at this
  · rw [List.getElem?_append_right h] at hj
    have := h2 _ u hj
    rw [add_mem] at this
    rwa [show o + p.length + (j - p.length) = o + j by omega] at this

/-- A field taken out of a struct's cells, and put back. -/
theorem Rep.fld {w : World} {Z : BSet} : ∀ {t : Ty} {q : Ow} {x : t.den} {cs : List Value} {F : BSet} {i : Nat} {u : TV},
    Rep w Z t q x cs F → TV.fldAt t q x i = some u →
    ∃ pre ci post Fi Fr, cs = pre ++ ci ++ post ∧ pre.length = fldOff t i ∧ Join F Fi Fr ∧ Rep w Z u.t u.q u.x ci Fi ∧
      ∀ (w' : World) (Z' : BSet) (u' : TV) (ci' : List Value) (Fi' : BSet) (q' : Ow) (x' : t.den),
        TV.setFld t q x i u' = some (q', x') → Rep w' Z' u'.t u'.q u'.x ci' Fi' → (∀ b, Fi' b → ¬ Fr b) →
        (∀ b, Z b → Z' b ∧ w'.heap[b]? = w.heap[b]?) → (∀ b, Fr b → w'.heap[b]? = w.heap[b]?) →
        ∃ F', Join F' Fi' Fr ∧ Rep w' Z' t q' x' (pre ++ ci' ++ post) F'
  | .pair a b, q, x, cs, F, 0, u, h, hu => by
    simp only [TV.fldAt, Option.some.injEq] at hu
    subst hu
    obtain ⟨c1, c2, F1, F2, rfl, h1, h2, j⟩ := h
    refine ⟨[], c1, c2, F1, F2, by simp, rfl, j, h1, ?_⟩
    intro w' Z' u' ci' Fi' q' x' hs hr hd hZ hF
    simp only [TV.setFld] at hs
    split at hs
    · rename_i e
      simp only [Option.some.injEq, Prod.mk.injEq] at hs
      obtain ⟨rfl, rfl⟩ := hs
      obtain ⟨ut, uq, ux⟩ := u'
      simp only at e
      subst e
      exact ⟨fun b => Fi' b ∨ F2 b, ⟨fun _ => Iff.rfl, fun b h1 h2 => hd b h1 h2⟩, ci', c2, Fi', F2, by simp, by rw [mkPr_l]; exact hr, by rw [mkPr_r]; exact h2.frame hZ hF, ⟨fun _ => Iff.rfl, fun b h1 h2 => hd b h1 h2⟩⟩
    · cases hs
  | .pair a b, q, x, cs, F, i + 1, u, h, hu => by
    simp only [TV.fldAt] at hu
    obtain ⟨c1, c2, F1, F2, rfl, h1, h2, j⟩ := h
    obtain ⟨pre, ci, post, Fi, Fr, rfl, hl, hj, hr, hput⟩ := h2.fld hu
    refine ⟨c1 ++ pre, ci, post, Fi, (fun b => F1 b ∨ Fr b), by simp, by simp [fldOff, hl, h1.length], ⟨fun b => ?_, fun b h1' h2' => ?_⟩, hr, ?_⟩
    · rw [j.1, hj.1]; constructor
      · rintro (h | h | h)
        · exact .inr (.inl h)
        · exact .inl h
        · exact .inr (.inr h)
      · rintro (h | h | h)
        · exact .inr (.inl h)
        · exact .inl h
        · exact .inr (.inr h)
    · rcases h2' with h2' | h2'
      · exact j.2 b h2' (hj.left h1')
      · exact hj.2 b h1' h2'
    · intro w' Z' u' ci' Fi' q' x' hs hr' hd hZ hF
      simp only [TV.setFld] at hs
      cases hs' : TV.setFld b q.r x.2 i u' with
      | none => simp [hs'] at hs
      | some qy =>
        obtain ⟨qy, y⟩ := qy
        simp only [hs', Option.map_some, Option.some.injEq, Prod.mk.injEq] at hs
        obtain ⟨rfl, rfl⟩ := hs
        obtain ⟨F', jF, hR⟩ := hput w' Z' u' ci' Fi' qy y hs' hr' (fun b hb hf => hd b hb (.inr hf)) hZ (fun b hb => hF b (.inr hb))
        have jj : Join (fun b => F1 b ∨ F' b) F1 F' := ⟨fun _ => Iff.rfl, fun b h1' h2' => by
          rcases (jF.1 b).1 h2' with h | h
          · exact hd b h (.inl h1')
          · exact j.2 b h1' (hj.right h)⟩
        refine ⟨fun b => F1 b ∨ F' b, ⟨fun b => ?_, fun b h1' h2' => hd b h1' h2'⟩, c1, pre ++ ci' ++ post, F1, F', by simp, by rw [mkPr_l]; exact h1.frame hZ (fun b hb => hF b (.inl hb)), by rw [mkPr_r]; exact hR, jj⟩
        simp only [jF.1]; constructor
        · rintro (h | h | h)
          · exact .inr (.inl h)
          · exact .inl h
          · exact .inr (.inr h)
        · rintro (h | h | h)
          · exact .inr (.inl h)
          · exact .inl h
          · exact .inr (.inr h)
  | .int k, q, x, cs, F, i, u, h, hu => by simp [TV.fldAt] at hu
  | .bool, q, x, cs, F, i, u, h, hu => by simp [TV.fldAt] at hu
  | .str, q, x, cs, F, i, u, h, hu => by simp [TV.fldAt] at hu
  | .unit, q, x, cs, F, i, u, h, hu => by simp [TV.fldAt] at hu
  | .sl T e, q, x, cs, F, i, u, h, hu => by simp [TV.fldAt] at hu
  | .ptr t, q, x, cs, F, i, u, h, hu => by simp [TV.fldAt] at hu
  | .arr n t, q, x, cs, F, i, u, h, hu => by simp [TV.fldAt] at hu
  | .mp k v, q, x, cs, F, i, u, h, hu => by simp [TV.fldAt] at hu

/-- An element taken out of a row's cells, and put back. -/
theorem ElemsRep.at {α : Type} {k : Nat} {R : α → List Value → BSet → Prop} (hk : ∀ x cs F, R x cs F → cs.length = k) (d : α) :
    ∀ {xs : List α} {cs : List Value} {F : BSet} {n : Nat}, n < xs.length → ElemsRep R xs cs F →
    ∃ pre ci post Fi Fr, cs = pre ++ ci ++ post ∧ pre.length = n * k ∧ Join F Fi Fr ∧ R (xs.getD n d) ci Fi ∧
      ∀ (R' : α → List Value → BSet → Prop) (y : α) (ci' : List Value) (Fi' : BSet), R' y ci' Fi' → (∀ b, Fi' b → ¬ Fr b) →
        (∀ x cs F, (∀ b, F b → Fr b) → R x cs F → R' x cs F) →
        ∃ F', Join F' Fi' Fr ∧ ElemsRep R' (xs.set n y) (pre ++ ci' ++ post) F'
  | x :: xs, cs, F, 0, hn, ⟨c1, c2, F1, F2, e, h1, h2, j⟩ => by
    subst e
    refine ⟨[], c1, c2, F1, F2, by simp, by simp, j, h1, ?_⟩
    intro R' y ci' Fi' hr hd hf
    exact ⟨fun b => Fi' b ∨ F2 b, ⟨fun _ => Iff.rfl, fun b h1 h2 => hd b h1 h2⟩, ci', c2, Fi', F2, by simp, hr, h2.monoF hf (fun _ h => h), ⟨fun _ => Iff.rfl, fun b h1 h2 => hd b h1 h2⟩⟩
  | x :: xs, cs, F, n + 1, hn, ⟨c1, c2, F1, F2, e, h1, h2, j⟩ => by
    subst e
    obtain ⟨pre, ci, post, Fi, Fr, rfl, hl, hj, hr, hput⟩ := ElemsRep.at hk d (by simpa using hn) h2
    refine ⟨c1 ++ pre, ci, post, Fi, (fun b => F1 b ∨ Fr b), by simp, by rw [List.length_append, hk _ _ _ h1, hl, Nat.add_mul, Nat.one_mul, Nat.add_comm], ⟨fun b => ?_, fun b h1' h2' => ?_⟩, by simpa using hr, ?_⟩
    · rw [j.1, hj.1]; constructor
      · rintro (h | h | h)
        · exact .inr (.inl h)
        · exact .inl h
        · exact .inr (.inr h)
      · rintro (h | h | h)
        · exact .inr (.inl h)
        · exact .inl h
        · exact .inr (.inr h)
    · rcases h2' with h2' | h2'
      · exact j.2 b h2' (hj.left h1')
      · exact hj.2 b h1' h2'
    · intro R' y ci' Fi' hr' hd hf
      obtain ⟨F', jF, hR⟩ := hput R' y ci' Fi' hr' (fun b hb hf => hd b hb (.inr hf)) (fun x cs F hs h => hf x cs F (fun b hb => .inr (hs b hb)) h)
      have jj : Join (fun b => F1 b ∨ F' b) F1 F' := ⟨fun _ => Iff.rfl, fun b h1' h2' => by
        rcases (jF.1 b).1 h2' with h | h
        · exact hd b h (.inl h1')
        · exact j.2 b h1' (hj.right h)⟩
      refine ⟨fun b => F1 b ∨ F' b, ⟨fun b => ?_, fun b h1' h2' => hd b h1' h2'⟩, c1, pre ++ ci' ++ post, F1, F', by simp, hf _ _ _ (fun b hb => .inl hb) h1, by simpa using hR, jj⟩
      simp only [jF.1]; constructor
      · rintro (h | h | h)
        · exact .inr (.inl h)
        · exact .inl h
        · exact .inr (.inr h)
      · rintro (h | h | h)
        · exact .inr (.inl h)
        · exact .inl h
        · exact .inr (.inr h)

theorem setPath_t : ∀ {p : List Step} {v u v' : TV}, v.setPath p u = some v' → v'.t = v.t
  | [], v, u, v', h => by
    simp only [TV.setPath] at h
    split at h
    · simp only [Option.some.injEq] at h; rw [← h]
    · cases h
  | .fld i :: p, v, u, v', h => by
    simp only [TV.setPath, Option.bind_eq_some_iff, Option.map_eq_some_iff] at h
    obtain ⟨c, _, c', _, ⟨q, x⟩, _, rfl⟩ := h
    rfl
  | .idx n :: p, v, u, v', h => by
    obtain ⟨t, q, x⟩ := v
    simp only [TV.setPath] at h
    split at h
    · rename_i T e q xs heq
      simp only [Option.bind_eq_some_iff] at h
      obtain ⟨c, _, h⟩ := h
      split at h
      · split at h
        · simp only [Option.some.injEq] at h; rw [← h]; cases heq; rfl
        · cases h
      · cases h
    · rename_i m e q xs heq
      split at h
      · simp only [Option.bind_eq_some_iff] at h
        obtain ⟨c, _, h⟩ := h
        split at h
        · split at h
          · simp only [Option.some.injEq] at h; rw [← h]; cases heq; rfl
          · cases h
        · cases h
      · cases h
    · cases h

/-- Only a stretch of one block has turned. -/
def Reg (w w' : World) (b o k : Nat) : Prop :=
  ∃ cur cur' T fz, w.heap[b]? = some (.cells cur T fz) ∧ w'.heap[b]? = some (.cells cur' T fz) ∧ cur'.size = cur.size ∧ ∀ i, (i < o ∨ o + k ≤ i) → cur'[i]? = cur[i]?
theorem Reg.wider {w w' : World} {b o k o' k' : Nat} (h : Reg w w' b o k) (h1 : o' ≤ o) (h2 : o + k ≤ o' + k') : Reg w w' b o' k' := by
  obtain ⟨cur, cur', T, fz, e1, e2, e3, e4⟩ := h
  exact ⟨cur, cur', T, fz, e1, e2, e3, fun i hi => e4 i (by omega)⟩
theorem Reg.same {w w' : World} {b : Nat} {cur : Array Value} {T : TypeId} {fz : Nat × Nat} (o k : Nat) (h : w.heap[b]? = some (.cells cur T fz)) (h' : w'.heap[b]? = w.heap[b]?) : Reg w w' b o k :=
  ⟨cur, cur, T, fz, h, by rw [h', h], rfl, fun _ _ => rfl⟩
theorem Reg.cell {w w' : World} {b o k i : Nat} (h : Reg w w' b o k) (hi : i < o ∨ o + k ≤ i) : w'.cell? ⟨b, i, none⟩ = w.cell? ⟨b, i, none⟩ := by
  obtain ⟨cur, cur', T, fz, e1, e2, e3, e4⟩ := h
  unfold World.cell?
  simp only [e1, e2]
  simpa using e4 i hi
theorem CellsAt.lo {w w' : World} {b o o1 k : Nat} {c : List Value} (h : CellsAt w ⟨b, o, none⟩ c) (hr : Reg w w' b o1 k) (hl : o + c.length ≤ o1 ∨ o1 + k ≤ o) : CellsAt w' ⟨b, o, none⟩ c := by
  intro j u hj
  have hlt : j < c.length := by
    rcases Nat.lt_or_ge j c.length with h | h
    · exact h
    · rw [List.getElem?_eq_none h] at hj; cases hj
  have := h j u hj
  rw [add_mem] at this ⊢
  rw [hr.cell (by omega)]; exact this

/-- How a place lies towards the whole. -/
def Inside (v u : TV) (F : BSet) : Loc → Loc → Prop
  | .mem b o, .mem b' o' => b' = b ∧ o ≤ o' ∧ o' + u.t.cells ≤ o + v.t.cells ∨ F b'
  | .hdr _, .mem b' _ => F b'
  | .hdr V, .hdr V' => V = V'
  | .mem _ _, .hdr _ => False
def Loc.blk : Loc → Option Nat | .mem b _ => some b | .hdr _ => none

theorem heap_of_cell {w : World} {ad : Addr} {v : Value} (h : w.cell? ad = some v) : ∃ cur T fz, w.heap[ad.block]? = some (.cells cur T fz) := by
  unfold World.cell? at h
  split at h
  · rename_i c _ _ hh; exact ⟨_, _, _, hh⟩
  · cases h

structure PutOK (w w' : World) (Z Z' : BSet) (F Fu Fu' : BSet) (l l' : Loc) (k : Nat) : Prop where
  z : ∀ b, Z b → Z' b ∧ w'.heap[b]? = w.heap[b]?
  new : ∀ b, Fu' b → F b → Fu b
  base : ∀ b, l.blk = some b → ¬ Fu' b
  rest : ∀ b, (F b ∧ ¬ Fu b ∨ l.blk = some b) → l'.blk ≠ some b → w'.heap[b]? = w.heap[b]?
  reg : ∀ b o, l' = .mem b o → Reg w w' b o k

theorem lens {w : World} {Z : BSet} : ∀ (p : List Step) {v u : TV} {l : Loc} {F : BSet}, (∀ V, l = .hdr V → ∃ T e, v.t = .sl T e) → RepAt w Z v l F → PathOK v p → v.path p = some u →
    ∃ l' Fu, pathLoc w v l p = some l' ∧ RepAt w Z u l' Fu ∧ (∀ b, Fu b → F b) ∧ Inside v u F l l' ∧ (p ≠ [] → ∃ b o, l' = .mem b o) ∧
      ∀ (w' : World) (Z' : BSet) (u' : TV) (Fu' : BSet) (v' : TV), v.setPath p u' = some v' → RepAt w' Z' u' l' Fu' → PutOK w w' Z Z' F Fu Fu' l l' u.t.cells →
        ∃ F', (∀ b, F' b ↔ (F b ∧ ¬ Fu b) ∨ Fu' b) ∧ RepAt w' Z' v' l F'
  | [], v, u, l, F, hl, h, hp, hu => by
    simp only [TV.path, Option.some.injEq] at hu
    subst hu
    refine ⟨l, F, rfl, h, fun _ h => h, ?_, fun h => absurd rfl h, ?_⟩
    · cases l with
      | mem b o => exact .inl ⟨rfl, Nat.le_refl _, Nat.le_refl _⟩
      | hdr V => rfl
    · intro w' Z' u' Fu' v' hs hr _
      simp only [TV.setPath] at hs
      split at hs
      · rename_i e
        simp only [Option.some.injEq] at hs
        subst hs
        obtain ⟨vt, vq, vx⟩ := v
        obtain ⟨ut, uq, ux⟩ := u'
        simp only at e
        subst e
        exact ⟨Fu', fun b => ⟨fun h => .inr h, fun h => h.elim (fun h => absurd h.1 h.2) id⟩, hr⟩
      · cases hs
  | .fld i :: p, v, u, l, F, hl, h, hp, hu => by
    simp only [TV.path, Option.bind_eq_some_iff] at hu
    obtain ⟨c, hc, hu⟩ := hu
    have hpc : PathOK c p := hp.2 c hc
    simp only [TV.step] at hc
    cases l with
    | hdr V =>
      obtain ⟨T, e, ht⟩ := hl V rfl
      obtain ⟨t, q, x⟩ := v
      simp only at ht
      subst ht
      simp [TV.fldAt] at hc
    | mem b o =>
      obtain ⟨hb, cs, hcs, hr⟩ := h
      obtain ⟨pre, ci, post, Fi, Fr, rfl, hlen, hj, hri, hput⟩ := hr.fld hc
      have hci : RepAt w Z c (.mem b (o + fldOff v.t i)) Fi := ⟨fun h => hb (hj.left h), ci, by rw [← hlen]; exact hcs.mid, hri⟩
      obtain ⟨l', Fu, hl', hru, hsub, hin, hne, hset⟩ := lens p (l := .mem b (o + fldOff v.t i)) (fun V h => by cases h) hci hpc hu
      have hcl : ci.length = c.t.cells := hri.length
      have hvl : pre.length + ci.length + post.length = v.t.cells := by have := hr.length; simp only [List.length_append] at this; omega
      have hmem : ∃ b' o', l' = .mem b' o' := by
        cases l' with
        | mem b' o' => exact ⟨b', o', rfl⟩
        | hdr V => exact hin.elim
      refine ⟨l', Fu, ?_, hru, fun b h => hj.left (hsub b h), ?_, fun _ => hmem, ?_⟩
      · simp only [pathLoc, TV.step, hc, stepLoc]; exact hl'
      · cases l' with
        | mem b' o' =>
          rcases hin with ⟨rfl, h1, h2⟩ | h
          · exact .inl ⟨rfl, by omega, by omega⟩
          · exact .inr (hj.left h)
        | hdr V => exact hin.elim
      · intro w' Z' u' Fu' v' hs hru' hok
        simp only [TV.setPath, Option.bind_eq_some_iff, Option.map_eq_some_iff] at hs
        obtain ⟨c0, hc0, c', hc', ⟨q', x'⟩, hq', rfl⟩ := hs
        rw [hc] at hc0
        cases hc0
        have hok' : PutOK w w' Z Z' Fi Fu Fu' (.mem b (o + fldOff v.t i)) l' u.t.cells :=
          ⟨hok.z, fun b h1 h2 => hok.new b h1 (hj.left h2), hok.base, fun b hb' hn => hok.rest b (hb'.imp (fun h => ⟨hj.left h.1, h.2⟩) id) hn, hok.reg⟩
        obtain ⟨F'c, hF'c, hb', ci', hci', hrc'⟩ := hset w' Z' u' Fu' c' hc' hru' hok'
        have hdis : ∀ b, F'c b → ¬ Fr b := by
          intro b h1 h2
          rcases (hF'c b).1 h1 with h | h
          · exact hj.2 b h.1 h2
          · exact hj.2 b (hsub b (hok.new b h (hj.right h2))) h2
        have hblk : ∀ b', Fr b' → l'.blk ≠ some b' := by
          intro b' h1 h2
          cases l' with
          | mem b'' o'' =>
            simp only [Loc.blk, Option.some.injEq] at h2
            subst h2
            rcases hin with ⟨rfl, _⟩ | h
            · exact hb (hj.right h1)
            · exact hj.2 _ h h1
          | hdr V => cases h2
        obtain ⟨F', jF', hR'⟩ := hput w' Z' c' ci' F'c q' x' hq' hrc' hdis hok.z
          (fun b' h1 => hok.rest b' (.inl ⟨hj.right h1, fun h => hj.2 _ (hsub _ h) h1⟩) (hblk b' h1))
        have hcl' : ci'.length = ci.length := by rw [hrc'.length, hcl, setPath_t hc']
        -- the block that holds the whole
        have hreg : Reg w w' b (o + pre.length) ci.length ∨ (pre ++ ci ++ post = []) ∨ w'.heap[b]? = w.heap[b]? := by
          obtain ⟨b', o', rfl⟩ := hmem
          rcases Nat.decEq b' b with hne | rfl
          · exact .inr (.inr (hok.rest b (.inr rfl) (by simp [Loc.blk, hne])))
          · rcases hin with ⟨_, h1, h2⟩ | h
            · exact .inl ((hok.reg b' o' rfl).wider (by omega) (by omega))
            · exact absurd (hj.left h) hb
        refine ⟨F', fun b => ?_, fun h => ?_, pre ++ ci' ++ post, ?_, hR'⟩
        · rw [jF'.1, hF'c, hj.1]; constructor
          · rintro ((h | h) | h)
            · exact .inl ⟨.inl h.1, h.2⟩
            · exact .inr h
            · exact .inl ⟨.inr h, fun h' => hj.2 _ (hsub _ h') h⟩
          · rintro (⟨h | h, h'⟩ | h)
            · exact .inl (.inl ⟨h, h'⟩)
            · exact .inr h
            · exact .inl (.inr h)
        · rcases (jF'.1 b).1 h with h | h
          · exact hb' h
          · exact hb (hj.right h)
        · have h1 : CellsAt w ⟨b, o, none⟩ pre := by
            intro j u hj'
            have := hcs j u (by rw [List.append_assoc]; rw [List.getElem?_append_left]; exact hj'; exact (List.getElem?_eq_some_iff.1 hj').1)
            exact this
          have h2 : CellsAt w ⟨b, o + (pre ++ ci).length, none⟩ post := by
            have := CellsAt.mid (p := pre ++ ci) (c := post) (r := []) (by simpa using hcs)
            exact this
          rcases hreg with hreg | hnil | hsame
          · refine CellsAt.app (CellsAt.app (h1.lo hreg (.inl (by omega))) (by rw [hlen]; exact hci')) ?_
            have := h2.lo hreg (.inr (by simp only [List.length_append]; omega))
            simpa [List.length_append, hcl'] using this
          · simp only [List.append_eq_nil_iff] at hnil
            obtain ⟨⟨rfl, rfl⟩, rfl⟩ := hnil
            have : ci' = [] := List.eq_nil_of_length_eq_zero (by simpa using hcl')
            subst this
            intro j u hj'; simp at hj'
          · refine CellsAt.app (CellsAt.app (h1.frame hsame) (by rw [hlen]; exact hci')) ?_
            have := h2.frame (w' := w') hsame
            simpa [List.length_append, hcl'] using this
  | .idx n :: p, v, u, l, F, hl, h, hp, hu => by
    simp only [TV.path, Option.bind_eq_some_iff] at hu
    obtain ⟨c, hc, hu⟩ := hu
    have hpc : PathOK c p := hp.2 c hc
    obtain ⟨t, q, x⟩ := v
    cases t with
    | sl T e =>
      cases q with
      | own q =>
        have hn : n < x.length := hp.1
        simp only [TV.step, Option.some.injEq] at hc
        subst hc
        -- the header
        have hh : ∃ V, l.header w = some V ∧ Rep w Z (.sl T e) (.own q) x [V] F ∧ (∀ b, l.blk = some b → ¬ F b) := by
          cases l with
          | mem b o =>
            obtain ⟨hb, cs, hcs, hr⟩ := h
            have h0 := hr
            obtain ⟨V, cells, Fe, rfl, _⟩ := hr
            refine ⟨V, ?_, h0, fun b' e => by simp only [Loc.blk, Option.some.injEq] at e; exact e ▸ hb⟩
            have := hcs 0 V rfl
            rwa [add_mem] at this
          | hdr V => exact ⟨V, rfl, h, fun b' e => by cases e⟩
        obtain ⟨V, hV, hr, hnb⟩ := hh
        obtain ⟨V', cells, Fe, hV', ho, hel, hF, hFd⟩ := hr
        simp only [List.cons.injEq, and_true] at hV'
        subst hV'
        have hrow := ho
        rcases ho.2 with ⟨_, h0⟩ | ⟨g, cap, cur, rfl, _, hg, hcap, hmax, hsz, htake⟩
        · omega
        have hgb : (Value.slice (some ⟨g, 0, none⟩) x.length cap).ownBlock = some g := rfl
        have hFg : F g := (hF g).2 (.inl hgb)
        have hFeg : ¬ Fe g := hFd g hgb
        have hbg : l.blk ≠ some g := fun e => hnb g e hFg
        have hcells : CellsAt w ⟨g, 0, none⟩ cells := fun j u hj => hrow.cells rfl j u hj
        obtain ⟨pre, ci, post, Fi, Fr, rfl, hlen, hj, hri, hput⟩ := hel.at (k := e.cells) (fun _ _ _ h => h.length) e.zero hn
        have hci : RepAt w Z ⟨e, q, x.getD n e.zero⟩ (.mem g (0 + n * e.cells)) Fi := ⟨fun h => hFeg (hj.left h), ci, by rw [← hlen]; exact hcells.mid, hri⟩
        obtain ⟨l', Fu, hl', hru, hsub, hin, hne, hset⟩ := lens p (l := .mem g (0 + n * e.cells)) (fun V h => by cases h) hci hpc hu
        have hcl : ci.length = e.cells := hri.length
        have htl : (pre ++ ci ++ post).length = x.length * e.cells := hrow.1
        have hmem : ∃ b' o', l' = .mem b' o' := by
          cases l' with
          | mem b' o' => exact ⟨b', o', rfl⟩
          | hdr V => exact hin.elim
        have hFl : ∀ b', l'.blk = some b' → F b' := by
          intro b' e'
          obtain ⟨b'', o', rfl⟩ := hmem
          simp only [Loc.blk, Option.some.injEq] at e'
          subst e'
          rcases hin with ⟨rfl, _⟩ | h
          · exact hFg
          · exact (hF _).2 (.inr (hj.left h))
        refine ⟨l', Fu, ?_, hru, fun b h => (hF b).2 (.inr (hj.left (hsub b h))), ?_, fun _ => hmem, ?_⟩
        · simp only [pathLoc, TV.step, stepLoc, hV]; exact hl'
        · obtain ⟨b', o', rfl⟩ := hmem
          have := hFl b' rfl
          cases l with
          | mem b o => exact .inr this
          | hdr V => exact this
        · intro w' Z' u' Fu' v' hs hru' hok
          simp only [TV.setPath, Option.bind_eq_some_iff] at hs
          obtain ⟨c', hc', hs⟩ := hs
          split at hs
          · rename_i ht
            split at hs
            · rename_i hq
              simp only [Option.some.injEq] at hs
              subst hs
              have hok' : PutOK w w' Z Z' Fi Fu Fu' (.mem g (0 + n * e.cells)) l' u.t.cells :=
                ⟨hok.z, fun b h1 h2 => hok.new b h1 ((hF b).2 (.inr (hj.left h2))),
                 fun b hb h1 => by simp only [Loc.blk, Option.some.injEq] at hb; subst hb; exact hFeg (hj.left (hsub _ (hok.new _ h1 hFg))),
                 fun b hb' hn' => hok.rest b (.inl (by
                   rcases hb' with hb' | hb'
                   · exact ⟨(hF b).2 (.inr (hj.left hb'.1)), hb'.2⟩
                   · simp only [Loc.blk, Option.some.injEq] at hb'; subst hb'; exact ⟨hFg, fun h => hFeg (hj.left (hsub _ h))⟩)) hn', hok.reg⟩
              obtain ⟨F'c, hF'c, hb', ci', hci', hrc'⟩ := hset w' Z' u' Fu' c' hc' hru' hok'
              obtain ⟨ct, cq, cx⟩ := c'
              simp only at ht hq
              subst ht
              subst hq
              have hcl' : ci'.length = ci.length := by rw [hrc'.length, hcl]
              have hdis : ∀ b, F'c b → ¬ Fr b := by
                intro b h1 h2
                rcases (hF'c b).1 h1 with h | h
                · exact hj.2 b h.1 h2
                · exact hj.2 b (hsub b (hok.new b h ((hF b).2 (.inr (hj.right h2))))) h2
              have hblk : ∀ b', Fr b' → l'.blk ≠ some b' := by
                intro b' h1 h2
                obtain ⟨b'', o'', rfl⟩ := hmem
                simp only [Loc.blk, Option.some.injEq] at h2
                subst h2
                rcases hin with ⟨rfl, _⟩ | h
                · exact hFeg (hj.right h1)
                · exact hj.2 _ h h1
              obtain ⟨F', jF', hR'⟩ := hput (fun y => Rep w' Z' ct cq y) cx ci' F'c hrc' hdis (fun y cs F0 hs h => h.frame hok.z (fun b hb => hok.rest b
                (.inl ⟨(hF b).2 (.inr (hj.right (hs b hb))), fun h => hj.2 _ (hsub _ h) (hs b hb)⟩) (hblk b (hs b hb))))
              have hreg : Reg w w' g (n * ct.cells) (ct.cells) := by
                obtain ⟨b', o', rfl⟩ := hmem
                rcases Nat.decEq b' g with hne' | rfl
                · exact Reg.same _ _ hg (hok.rest g (.inl ⟨hFg, fun h => hFeg (hj.left (hsub _ h))⟩) (by simp [Loc.blk, hne']))
                · rcases hin with ⟨_, h1, h2⟩ | h
                  · exact (hok.reg b' o' rfl).wider (by simpa using h1) (by simpa using h2)
                  · exact absurd (hj.left h) hFeg
              obtain ⟨cur0, cur', T0, fz0, e1, e2, e3, e4⟩ := hreg
              rw [hg] at e1
              simp only [Option.some.injEq, Obj.cells.injEq] at e1
              obtain ⟨rfl, rfl, rfl⟩ := e1
              have hrow' : w'.ownsRow 0 T (ct.cells) (.slice (some ⟨g, 0, none⟩) (x.set n cx).length cap) (x.set n cx).length (pre ++ ci' ++ post) := by
                rw [List.length_set]
                refine ⟨by rw [← htl]; simp [hcl'], .inr ⟨g, cap, cur', rfl, Nat.zero_le _, e2, hcap, hmax, by rw [e3]; exact hsz, ?_⟩⟩
                have hck : x.length * ct.cells ≤ cap * ct.cells := Nat.mul_le_mul_right _ hcap
                have hcs' : cur'.toList.length = cap * ct.cells := by rw [Array.length_toList, e3]; exact hsz
                apply List.ext_getElem?
                intro j
                rw [List.getElem?_take]
                have hold : (cur.toList.take (x.length * ct.cells))[j]? = (pre ++ ci ++ post)[j]? := by rw [htake]
                rw [List.getElem?_take] at hold
                by_cases hjl : j < x.length * ct.cells
                · simp only [hjl, if_true] at hold ⊢
                  by_cases h1 : j < pre.length
                  · have := e4 j (.inl (by omega))
                    rw [List.append_assoc, List.getElem?_append_left h1] at hold ⊢
                    rw [← hold]; simpa using this
                  · by_cases h2 : j < pre.length + ci.length
                    · have := hci' (j - pre.length) (ci'[j - pre.length]'(by omega)) (List.getElem?_eq_getElem _)
                      rw [add_mem] at this
                      rw [List.append_assoc, List.getElem?_append_right (by omega), List.getElem?_append_left (by omega)]
                      rw [List.getElem?_eq_getElem (l := ci') (by omega), ← this]
                      unfold World.cell?
                      rw [e2]
                      have : n * ct.cells + (j - pre.length) = j := by rw [← hlen]; omega
                      simp [this]
                    · have := e4 j (.inr (by omega))
                      rw [List.getElem?_append_right (by simp; omega)] at hold ⊢
                      rw [List.length_append, hcl', ← List.length_append, ← hold]; simpa using this
                · simp only [hjl, if_false]
                  rw [List.getElem?_eq_none]
                  rw [← htl] at hjl
                  simp only [List.length_append] at hjl ⊢
                  omega
              have hV' : Rep w' Z' (.sl T ct) (.own cq) (x.set n cx) [.slice (some ⟨g, 0, none⟩) x.length cap] (fun b => b = g ∨ F' b) := by
                refine ⟨.slice (some ⟨g, 0, none⟩) x.length cap, pre ++ ci' ++ post, F', rfl, by simpa using hrow', hR', fun b => ⟨fun h => h.imp (fun h => by rw [h]; rfl) id, fun h => h.imp (fun h => by simpa [Value.ownBlock] using h.symm) id⟩, fun b hb h => ?_⟩
                have : b = g := by simpa [Value.ownBlock] using hb.symm
                subst this
                rcases (jF'.1 b).1 h with h | h
                · exact hb' h
                · exact hFeg (hj.right h)
              have hFF : ∀ b, (b = g ∨ F' b) ↔ (F b ∧ ¬ Fu b) ∨ Fu' b := by
                intro b
                rw [jF'.1, hF'c, hF, hj.1]
                simp only [Value.ownBlock, Option.some.injEq]
                constructor
                · rintro (h | (h | h) | h)
                  · subst h; exact .inl ⟨.inl rfl, fun h => hFeg (hj.left (hsub _ h))⟩
                  · exact .inl ⟨.inr (.inl h.1), h.2⟩
                  · exact .inr h
                  · exact .inl ⟨.inr (.inr h), fun h' => hj.2 _ (hsub _ h') h⟩
                · rintro (⟨h | h | h, h'⟩ | h)
                  · exact .inl h.symm
                  · exact .inr (.inl (.inl ⟨h, h'⟩))
                  · exact .inr (.inr h)
                  · exact .inr (.inl (.inr h))
              refine ⟨fun b => b = g ∨ F' b, hFF, ?_⟩
              cases l with
              | mem b o =>
                obtain ⟨hb, cs, hcs, hr⟩ := h
                refine ⟨fun h => ?_, [.slice (some ⟨g, 0, none⟩) x.length cap], fun j u hj' => ?_, hV'⟩
                · rcases (hFF b).1 h with h | h
                  · exact hb h.1
                  · exact hok.base b rfl h
                · cases j with
                  | zero =>
                    simp only [List.getElem?_cons_zero, Option.some.injEq] at hj'
                    subst hj'
                    have hs := hok.rest b (.inr rfl) (fun e' => hb (hFl b e'))
                    rw [add_mem, cell_of_heap hs]
                    exact hV
                  | succ j => simp at hj'
              | hdr V =>
                simp only [Loc.header, Option.some.injEq] at hV
                subst hV
                exact hV'
            · cases hs
          · cases hs
      | fr => simp [TV.step] at hc
      | pr a b => simp [TV.step] at hc
      | hole => simp [TV.step] at hc
    | arr m e =>
      have hn : n < m := hp.1
      simp only [TV.step] at hc
      split at hc
      · rename_i hq
        simp only [Option.some.injEq] at hc
        subst hc
        cases l with
        | hdr V => obtain ⟨T, e', ht⟩ := hl V rfl; cases ht
        | mem b o =>
          obtain ⟨hb, cs, hcs, hr⟩ := h
          rcases hr with ⟨_, hlx, hel, h0⟩ | ⟨rfl, _⟩
          case inr => simp [Ow.clean] at hq
          have hF0 : F = fun _ => False := h0.eq
          subst hF0
          obtain ⟨pre, ci, post, Fi, Fr, rfl, hlen, hj, hri, hput⟩ := hel.at (k := e.cells) (fun _ _ _ h => h.length) e.zero (by rw [hlx]; exact hn)
          have hci : RepAt w Z ⟨e, .fr, x.getD n e.zero⟩ (.mem b (o + n * e.cells)) Fi := ⟨fun h => (hj.left h), ci, by rw [← hlen]; exact hcs.mid, hri⟩
          obtain ⟨l', Fu, hl', hru, hsub, hin, hne, hset⟩ := lens p (l := .mem b (o + n * e.cells)) (fun V h => by cases h) hci hpc hu
          have hcl : ci.length = e.cells := hri.length
          have htl : (pre ++ ci ++ post).length = x.length * e.cells := hel.length (fun _ _ _ h => h.length)
          have hmem : ∃ b' o', l' = .mem b' o' := by
            cases l' with
            | mem b' o' => exact ⟨b', o', rfl⟩
            | hdr V => exact hin.elim
          refine ⟨l', Fu, ?_, hru, fun b h => hj.left (hsub b h), ?_, fun _ => hmem, ?_⟩
          · simp only [pathLoc, TV.step, hq, if_true, stepLoc]; exact hl'
          · obtain ⟨b', o', rfl⟩ := hmem
            rcases hin with ⟨rfl, h1, h2⟩ | h
            · refine .inl ⟨rfl, by omega, ?_⟩
              have : n * e.cells + e.cells ≤ m * e.cells := by rw [← Nat.succ_mul]; exact Nat.mul_le_mul_right _ hn
              simp only [Ty.cells] at h2 ⊢
              omega
            · exact (hj.left h).elim
          · intro w' Z' u' Fu' v' hs hru' hok
            simp only [TV.setPath] at hs
            split at hs
            case isFalse h => exact absurd hq h
            simp only [Option.bind_eq_some_iff] at hs
            obtain ⟨c', hc', hs⟩ := hs
            split at hs
            · rename_i ht
              split at hs
              · rename_i hcq
                simp only [Option.some.injEq] at hs
                subst hs
                have hok' : PutOK w w' Z Z' Fi Fu Fu' (.mem b (o + n * e.cells)) l' u.t.cells :=
                  ⟨hok.z, fun b h1 h2 => (hj.left h2).elim, hok.base, fun b hb' hn => hok.rest b (hb'.imp (fun h => (hj.left h.1).elim) id) hn, hok.reg⟩
                obtain ⟨F'c, hF'c, hb', ci', hci', hrc'⟩ := hset w' Z' u' Fu' c' hc' hru' hok'
                obtain ⟨ct, cq, cx⟩ := c'
                simp only at ht hcq
                subst ht
                have hcl' : ci'.length = ci.length := by rw [hrc'.length, hcl]
                have hrc0 : Rep w' Z' ct .fr cx ci' F'c := hrc'.toFr hcq
                obtain ⟨F', jF', hR'⟩ := hput (fun y => Rep w' Z' ct .fr y) cx ci' F'c hrc0 (fun b h1 h2 => (hj.right h2).elim) (fun y cs F0 hs h => h.frame hok.z (fun b hb => (hj.right (hs b hb)).elim))
                have hF'e : E0 F' := fun b hb => by
                  rcases (jF'.1 b).1 hb with h | h
                  · exact hrc0.e0 rfl b h
                  · exact (hj.right h).elim
                have hreg : Reg w w' b (o + pre.length) ci.length ∨ w'.heap[b]? = w.heap[b]? := by
                  obtain ⟨b', o', rfl⟩ := hmem
                  rcases Nat.decEq b' b with hne | rfl
                  · exact .inr (hok.rest b (.inr rfl) (by simp [Loc.blk, hne]))
                  · rcases hin with ⟨_, h1, h2⟩ | h
                    · exact .inl ((hok.reg b' o' rfl).wider (by omega) (by simp only at h2; omega))
                    · exact (hj.left h).elim
                refine ⟨F', fun b => ⟨fun h => (hF'e b h).elim, fun h => ?_⟩, fun h => (hF'e b h), pre ++ ci' ++ post, ?_, .inl ⟨by simp, by simpa using hlx, hR', hF'e⟩⟩
                · rcases h with h | h
                  · exact h.1.elim
                  · exact jF'.left ((hF'c b).2 (.inr h))
                · have h1 : CellsAt w ⟨b, o, none⟩ pre := by
                    intro j u hj'
                    exact hcs j u (by rw [List.append_assoc]; rw [List.getElem?_append_left]; exact hj'; exact (List.getElem?_eq_some_iff.1 hj').1)
                  have h2 : CellsAt w ⟨b, o + (pre ++ ci).length, none⟩ post := CellsAt.mid (p := pre ++ ci) (c := post) (r := []) (by simpa using hcs)
                  rcases hreg with hreg | hsame
                  · refine CellsAt.app (CellsAt.app (h1.lo hreg (.inl (by omega))) (by rw [hlen]; exact hci')) ?_
                    have := h2.lo hreg (.inr (by simp only [List.length_append]; omega))
                    simpa [List.length_append, hcl'] using this
                  · refine CellsAt.app (CellsAt.app (h1.frame hsame) (by rw [hlen]; exact hci')) ?_
                    have := h2.frame (w' := w') hsame
                    simpa [List.length_append, hcl'] using this
              · cases hs
            · cases hs
      · cases hc
    | int k => simp [TV.step] at hc
    | bool => simp [TV.step] at hc
    | str => simp [TV.step] at hc
    | unit => simp [TV.step] at hc
    | pair a b => simp [TV.step] at hc
    | ptr t => simp [TV.step] at hc
    | mp k v => simp [TV.step] at hc
end Go.K

/- K, part F: what it is that a frame's temporaries and the memory are as the entries say; how it lives on. -/
set_option linter.unusedVariables false
set_option linter.unusedSimpArgs false
namespace Go.K
variable [drI : Dr]

def VRep (w : World) (Z : BSet) (t : Ty) (q : Ow) (x : t.den) (V : Value) (F : BSet) : Prop :=
  Rep w Z t q x V.cells.toList F ∧ (t.isAgg = true ↔ ∃ cs, V = .agg cs)
mutual
/-- A frozen argument. -/
inductive FRep (w : World) (Z : BSet) : Arg → Value → Prop where
  | v {t x V} : VRep w Z t .fr x V (fun _ => False) → FRep w Z (.v t .fr x) V
  | fn {g first caps fs cs} : FReps w Z first fs → FReps w Z caps cs → FRep w Z (.fn g first caps) (.func (.func g) fs.toArray cs.toArray)
  | pfn {g first caps ad V} : ad.spot = none → Z ad.block → w.cell? ad = some V → FRep w Z (.fn g first caps) V → FRep w Z (.pfn g first caps) (.pointer (some ad))
inductive FReps (w : World) (Z : BSet) : List Arg → List Value → Prop where
  | nil : FReps w Z [] []
  | cons {a as V Vs} : FRep w Z a V → FReps w Z as Vs → FReps w Z (a :: as) (V :: Vs)
end
def ArgRep (w : World) (Z : BSet) : Arg → Value → BSet → Prop
  | .v t q x, V, F => VRep w Z t q x V F
  | .gone, _, F => E0 F
  | a, V, F => FRep w Z a V ∧ E0 F
def ArgsRep (w : World) (Z : BSet) : List Arg → List Value → BSet → Prop
  | [], Vs, F => Vs = [] ∧ E0 F
  | a :: as, Vs, F => ∃ V Vs' F1 F2, Vs = V :: Vs' ∧ ArgRep w Z a V F1 ∧ ArgsRep w Z as Vs' F2 ∧ Join F F1 F2

def CapsOK (w : World) (Z : BSet) : List Cap → List Value → Prop
  | [], Vs => Vs = []
  | c :: cs, Vs => ∃ V Vs', Vs = V :: Vs' ∧ (∀ a, c = .arg a → FRep w Z a V) ∧ CapsOK w Z cs Vs'
def EntOK (w : World) (Z : BSet) : Ent → Value → BSet → Prop
  | .un, _, F => E0 F
  | .undf, V, F => V = undef ∧ E0 F
  | .val t q x, V, F => VRep w Z t q x V F
  | .sref .., _, F => E0 F
  | .pref .., _, F => E0 F
  | .fnl g first caps, V, F => E0 F ∧ ∃ fs cs, V = .func (.func g) fs.toArray cs.toArray ∧ FReps w Z first fs ∧ CapsOK w Z caps cs
  | .fbox g f c, V, F => ∃ b T V', V = .pointer (some ⟨b, 0, none⟩) ∧ w.heap[b]? = some (.cells #[V'] T (0, 0)) ∧ FRep w Z (.fn g f c) V' ∧ ∀ b', F b' ↔ b' = b
  | .pfn g f c, V, F => FRep w Z (.pfn g f c) V ∧ E0 F
  | .tup xs, V, F => ∃ vs, V = .tuple vs ∧ ArgsRep w Z xs vs.toList F
  | .tref _ _ xs, V, F => E0 F ∧ (xs = [] ∨ ∃ vs, V = .tuple vs ∧ ArgsRep w Z xs vs.toList (fun _ => False))

mutual
theorem FRep.frame {w w' : World} {Z Z' : BSet} (hZ : ∀ b, Z b → Z' b ∧ w'.heap[b]? = w.heap[b]?) : ∀ {a : Arg} {V : Value}, FRep w Z a V → FRep w' Z' a V
  | _, _, .v h => .v ⟨h.1.frame hZ (fun _ h => h.elim), h.2⟩
  | _, _, .fn h1 h2 => .fn (h1.frame hZ) (h2.frame hZ)
  | _, _, .pfn h1 h2 h3 h4 => .pfn h1 (hZ _ h2).1 ((cell_of_heap (hZ _ h2).2).trans h3) (h4.frame hZ)
theorem FReps.frame {w w' : World} {Z Z' : BSet} (hZ : ∀ b, Z b → Z' b ∧ w'.heap[b]? = w.heap[b]?) : ∀ {a : List Arg} {V : List Value}, FReps w Z a V → FReps w' Z' a V
  | _, _, .nil => .nil
  | _, _, .cons h1 h2 => .cons (h1.frame hZ) (h2.frame hZ)
end
theorem VRep.frame {w w' : World} {Z Z' : BSet} (hZ : ∀ b, Z b → Z' b ∧ w'.heap[b]? = w.heap[b]?) {t : Ty} {q : Ow} {x : t.den} {V : Value} {F : BSet}
    (hF : ∀ b, F b → w'.heap[b]? = w.heap[b]?) (h : VRep w Z t q x V F) : VRep w' Z' t q x V F := ⟨h.1.frame hZ hF, h.2⟩
theorem ArgRep.frame {w w' : World} {Z Z' : BSet} (hZ : ∀ b, Z b → Z' b ∧ w'.heap[b]? = w.heap[b]?) : ∀ {a : Arg} {V : Value} {F : BSet}, (∀ b, F b → w'.heap[b]? = w.heap[b]?) → ArgRep w Z a V F → ArgRep w' Z' a V F
  | .v .., _, _, hF, h => VRep.frame hZ hF h
  | .gone, _, _, _, h => h
  | .fn .., _, _, _, h => ⟨h.1.frame hZ, h.2⟩
  | .pfn .., _, _, _, h => ⟨h.1.frame hZ, h.2⟩
theorem ArgsRep.frame {w w' : World} {Z Z' : BSet} (hZ : ∀ b, Z b → Z' b ∧ w'.heap[b]? = w.heap[b]?) : ∀ {a : List Arg} {V : List Value} {F : BSet}, (∀ b, F b → w'.heap[b]? = w.heap[b]?) → ArgsRep w Z a V F → ArgsRep w' Z' a V F
  | [], _, _, _, h => h
  | a :: as, _, _, hF, ⟨V, Vs, F1, F2, e, h1, h2, j⟩ => ⟨V, Vs, F1, F2, e, h1.frame hZ (fun b hb => hF b (j.left hb)), h2.frame hZ (fun b hb => hF b (j.right hb)), j⟩
theorem CapsOK.frame {w w' : World} {Z Z' : BSet} (hZ : ∀ b, Z b → Z' b ∧ w'.heap[b]? = w.heap[b]?) : ∀ {c : List Cap} {V : List Value}, CapsOK w Z c V → CapsOK w' Z' c V
  | [], _, h => h
  | c :: cs, _, ⟨V, Vs, e, h1, h2⟩ => ⟨V, Vs, e, fun a ha => (h1 a ha).frame hZ, h2.frame hZ⟩
theorem EntOK.frame {w w' : World} {Z Z' : BSet} (hZ : ∀ b, Z b → Z' b ∧ w'.heap[b]? = w.heap[b]?) : ∀ {e : Ent} {V : Value} {F : BSet}, (∀ b, F b → w'.heap[b]? = w.heap[b]?) → EntOK w Z e V F → EntOK w' Z' e V F
  | .un, _, _, _, h => h
  | .undf, _, _, _, h => h
  | .val .., _, _, hF, h => VRep.frame hZ hF h
  | .sref .., _, _, _, h => h
  | .pref .., _, _, _, h => h
  | .fnl .., _, _, _, ⟨h0, fs, cs, e, h1, h2⟩ => ⟨h0, fs, cs, e, h1.frame hZ, h2.frame hZ⟩
  | .fbox .., _, _, hF, ⟨b, T, V', e, h1, h2, h3⟩ => ⟨b, T, V', e, (hF b ((h3 b).2 rfl)).trans h1, h2.frame hZ, h3⟩
  | .pfn .., _, _, _, h => ⟨h.1.frame hZ, h.2⟩
  | .tup .., _, _, hF, ⟨vs, e, h⟩ => ⟨vs, e, h.frame hZ hF⟩
  | .tref .., _, _, hF, ⟨h0, .inl h⟩ => ⟨h0, .inl h⟩
  | .tref .., _, _, hF, ⟨h0, .inr ⟨vs, e, h⟩⟩ => ⟨h0, .inr ⟨vs, e, h.frame hZ (fun _ h => h.elim)⟩⟩

def rootLoc : Value → Loc
  | .pointer (some a) => .mem a.block a.off
  | V => .hdr V
/-- The header of a stretch of a slice. -/
def WinRep (H : Value) (k n : Nat) : Option (Nat × Nat) → Value → Prop
  | none, V => V = H
  | some (lo, hi), V => lo ≤ hi ∧ hi ≤ n ∧ ∃ A m cap A' c', H = .slice A m cap ∧ V = .slice A' (hi - lo) c' ∧ hi - lo ≤ c' ∧ c' ≤ maxLen ∧ (lo < hi → ∃ ad, A = some ad ∧ A' = some (ad.add (lo * k))) ∧ (lo = 0 → A' = A ∧ c' = cap)
def SRefOK (w : World) (root : Ent) (Vr : Value) (p : List Step) (win : Option (Nat × Nat)) (V : Value) : Prop :=
  ∀ c, root.content = some c → PathOK c p ∧ ∃ T te q xs l H, c.path p = some ⟨.sl T te, .own q, xs⟩ ∧ pathLoc w c (rootLoc Vr) p = some l ∧ l.header w = some H ∧ WinRep H te.cells xs.length win V
def PRefOK (w : World) (root : Ent) (Vr : Value) (p : List Step) (V : Value) : Prop :=
  (∀ c, root.content = some c → PathOK c p ∧ (∃ u, c.path p = some u) ∧ ∃ b o, pathLoc w c (rootLoc Vr) p = some (.mem b o) ∧ V = .pointer (some ⟨b, o, none⟩)) ∧
  (∀ g f c, root = .fbox g f c → V = Vr)
def tm (a : Act) (t : Nat) : Value := a.tmps.getD t undef
def RefOK (σ : St) (a : Act) (w : World) (t : Nat) : Prop :=
  match (σ.at t).e with
  | .sref r v p win => v ≤ (σ.at r).ver ∧ ((σ.at r).ver = v → SRefOK w (σ.at r).e (tm a r) p win (tm a t))
  | .pref r v p => v ≤ (σ.at r).ver ∧ ((σ.at r).ver = v → PRefOK w (σ.at r).e (tm a r) p (tm a t))
  | .fnl g f caps => ∀ (i r v : Nat), caps[i]? = some (Cap.root r v) → v ≤ (σ.at r).ver ∧ ((σ.at r).ver = v → ∃ fs cs, tm a t = Value.func (.func g) fs cs ∧ cs[i]? = some (tm a r))
  | .tref r v xs => v ≤ (σ.at r).ver ∧ ((σ.at r).ver = v → tm a t = tm a r)
  | _ => True

structure Inv (B : Nat) (M Z0 : BSet) (w0 : World) (σ : St) (a : Act) (w : World) (Z : BSet) (F : Nat → BSet) : Prop where
  len : a.tmps.size = σ.length
  ent : ∀ t, EntOK w Z (σ.at t).e (tm a t) (F t)
  ref : ∀ t, RefOK σ a w t
  disj : ∀ t t' b, F t b → F t' b → t = t'
  own : ∀ t b, F t b → ¬ Z b ∧ (B ≤ b ∨ M b) ∧ b < w.heap.size
  z : ∀ b, Z b → (Z0 b ∨ B ≤ b ∨ M b) ∧ b < w.heap.size
  z0 : ∀ b, Z0 b → Z b
  frame : ∀ b, b < B → ¬ M b → w.heap[b]? = w0.heap[b]?
  size : B ≤ w.heap.size
  os : w.os = w0.os
  tape : w.tape = w0.tape
  output : w.output = w0.output
  defers : a.defers = []
  drawn : Dr.le w0.drawn w.drawn

/-- All but some blocks is as it was; there may be new ones. -/
structure Ext (w w' : World) (S : BSet) : Prop where
  os : w'.os = w.os
  tape : w'.tape = w.tape
  output : w'.output = w.output
  size : w.heap.size ≤ w'.heap.size
  block : ∀ b, b < w.heap.size → ¬ S b → w'.heap[b]? = w.heap[b]?
  drawn : Dr.le w.drawn w'.drawn
theorem Ext.refl (w : World) (S : BSet) : Ext w w S := ⟨rfl, rfl, rfl, Nat.le_refl _, fun _ _ _ => rfl, Dr.refl _⟩

theorem RepAt.frame {w w' : World} {Z Z' : BSet} (hZ : ∀ b, Z b → Z' b ∧ w'.heap[b]? = w.heap[b]?) {v : TV} {l : Loc} {F : BSet}
    (hF : ∀ b, (F b ∨ l.blk = some b) → w'.heap[b]? = w.heap[b]?) (h : RepAt w Z v l F) : RepAt w' Z' v l F := by
  cases l with
  | mem b o => exact ⟨h.1, h.2.imp fun cs ⟨h1, h2⟩ => ⟨h1.frame (hF b (.inr rfl)), h2.frame hZ (fun b hb => hF b (.inl hb))⟩⟩
  | hdr V => exact Rep.frame hZ (fun b hb => hF b (.inl hb)) h
theorem header_frame {w w' : World} {l : Loc} (h : ∀ b, l.blk = some b → w'.heap[b]? = w.heap[b]?) : l.header w' = l.header w := by
  cases l with
  | mem b o => exact cell_of_heap (h b rfl)
  | hdr V => rfl
/-- Where a path leads does not turn with what lies elsewhere. -/
theorem pathLoc_frame {w w' : World} {Z : BSet} : ∀ (p : List Step) {v u : TV} {l l' : Loc} {F : BSet}, (∀ V, l = .hdr V → ∃ T e, v.t = .sl T e) → RepAt w Z v l F → PathOK v p → v.path p = some u →
    (∀ b, (F b ∨ l.blk = some b) → w'.heap[b]? = w.heap[b]?) → pathLoc w v l p = some l' → pathLoc w' v l p = some l' ∧ (∀ b, l'.blk = some b → w'.heap[b]? = w.heap[b]?)
  | [], v, u, l, l', F, hl, h, hp, hu, hs, hh => by
    simp only [pathLoc, Option.some.injEq] at hh ⊢
    subst hh
    exact ⟨rfl, fun b hb => hs b (.inr hb)⟩
  | s :: p, v, u, l, l', F, hl, h, hp, hu, hs, hh => by
    simp only [TV.path, Option.bind_eq_some_iff] at hu
    obtain ⟨c, hc, hu⟩ := hu
    obtain ⟨l1, F1, e1, h1, hsub, hin, hne, _⟩ := lens (w := w) (Z := Z) [s] (v := v) (u := c) hl h ⟨hp.1, fun _ _ => trivial⟩ (by simp [TV.path, hc])
    obtain ⟨b1, o1, rfl⟩ := hne (by simp)
    have e2 : stepLoc w v.t l s = some (.mem b1 o1) := by
      simp only [pathLoc, hc] at e1
      split at e1
      · rename_i u' l2 hcu hl2
        cases hcu
        simp only [Option.some.injEq] at e1
        rw [hl2, e1]
      · cases e1
    have e3 : stepLoc w' v.t l s = some (.mem b1 o1) := by
      rw [← e2]
      have hhd : l.header w' = l.header w := header_frame (fun b hb => hs b (.inr hb))
      unfold stepLoc
      cases s <;> simp only [hhd]
    simp only [pathLoc, hc, e2] at hh
    simp only [pathLoc, hc, e3]
    refine pathLoc_frame p (fun V h => by cases h) h1 (hp.2 c hc) hu (fun b hb => hs b ?_) hh
    rcases hb with hb | hb
    · exact .inl (hsub b hb)
    · simp only [Loc.blk, Option.some.injEq] at hb
      subst hb
      cases l with
      | mem b o =>
        rcases hin with ⟨rfl, _⟩ | h
        · exact .inr rfl
        · exact .inl h
      | hdr V => exact .inl hin

/-- A root's content lies where its temporary says. -/
theorem Inv.root {B : Nat} {M Z0 : BSet} {w0 : World} {σ : St} {a : Act} {w : World} {Z : BSet} {F : Nat → BSet} (I : Inv B M Z0 w0 σ a w Z F) {r : Nat} {c : TV} (h : (σ.at r).e.content = some c) :
    ∃ Fc, RepAt w Z c (rootLoc (tm a r)) Fc ∧ (∀ b, F r b ↔ Fc b ∨ (rootLoc (tm a r)).blk = some b) ∧ (∀ V, rootLoc (tm a r) = .hdr V → ∃ T e, c.t = .sl T e) := by
  have he := I.ent r
  generalize hee : (σ.at r).e = e at h he
  cases e with
  | val t q x =>
    cases t with
    | ptr t =>
      cases q with
      | own q =>
        simp only [Ent.content, Option.some.injEq] at h
        subst h
        obtain ⟨⟨g, cur, T, Fe, hV, hg, hr, hF, hd⟩, hagg⟩ := he
        have hV' : tm a r = .pointer (some ⟨g, 0, none⟩) := by
          cases hv : tm a r <;> rw [hv] at hV hagg <;> simp_all [Value.cells, Ty.isAgg]
        rw [hV']
        refine ⟨Fe, ⟨hd, cur.toList, fun j u hj => ?_, hr⟩, fun b => ?_, fun V h => by simp [rootLoc] at h⟩
        · rw [add_mem]; unfold World.cell?; rw [hg]; simpa using hj
        · rw [hF]; simp only [rootLoc, Loc.blk, Option.some.injEq]; constructor
          · rintro (h | h)
            · exact .inr h.symm
            · exact .inl h
          · rintro (h | h)
            · exact .inr h
            · exact .inl h.symm
      | fr => simp [Ent.content] at h
      | pr a b => simp [Ent.content] at h
      | hole => simp [Ent.content] at h
    | sl T e =>
      cases q with
      | own q =>
        simp only [Ent.content, Option.some.injEq] at h
        subst h
        obtain ⟨hr, hagg⟩ := he
        have h0 := hr
        obtain ⟨V, cells, Fe, hV, ho, _⟩ := hr
        have hV' : tm a r = V := by
          cases hv : tm a r <;> rw [hv] at hV hagg <;> simp_all [Value.cells, Ty.isAgg]
        have hroot : rootLoc V = .hdr V := by
          rcases ho.2 with ⟨rfl, _⟩ | ⟨g, cap, cur, rfl, _⟩ <;> rfl
        rw [hV] at h0
        rw [hV', hroot]
        exact ⟨F r, h0, fun b => ⟨fun h => .inl h, fun h => h.elim id (fun h => by cases h)⟩, fun _ _ => ⟨T, e, rfl⟩⟩
      | fr => simp [Ent.content] at h
      | pr a b => simp [Ent.content] at h
      | hole => simp [Ent.content] at h
    | _ => simp [Ent.content] at h
  | _ => simp [Ent.content] at h

/-- A borrow goes on where its root, what the root owns and the borrow itself are as they were. -/
theorem RefOK.frame {σ σ' : St} {a a' : Act} {w w' : World} {t : Nat} (h : RefOK σ a w t) (ht : σ'.at t = σ.at t) (hat : tm a' t = tm a t)
    (hr : ∀ r, ((σ.at r).ver < (σ'.at r).ver) ∨ (σ'.at r = σ.at r ∧ tm a' r = tm a r ∧
      (∀ p win V, SRefOK w (σ.at r).e (tm a r) p win V → SRefOK w' (σ.at r).e (tm a r) p win V) ∧ (∀ p V, PRefOK w (σ.at r).e (tm a r) p V → PRefOK w' (σ.at r).e (tm a r) p V))) : RefOK σ' a' w' t := by
  unfold RefOK at *
  rw [ht]
  split
  · rename_i r v p win he
    simp only [he] at h
    rcases hr r with hv | ⟨e1, e2, h1, h2⟩
    · exact ⟨by omega, fun e => by omega⟩
    · rw [e1, e2, hat]; exact ⟨h.1, fun e => h1 _ _ _ (h.2 e)⟩
  · rename_i r v p he
    simp only [he] at h
    rcases hr r with hv | ⟨e1, e2, h1, h2⟩
    · exact ⟨by omega, fun e => by omega⟩
    · rw [e1, e2, hat]; exact ⟨h.1, fun e => h2 _ _ (h.2 e)⟩
  · rename_i g f caps he
    simp only [he] at h
    intro i r v hi
    obtain ⟨h3, h4⟩ := h i r v hi
    rcases hr r with hv | ⟨e1, e2, h1, h2⟩
    · exact ⟨by omega, fun e => by omega⟩
    · rw [e1, e2, hat]; exact ⟨h3, h4⟩
  · rename_i r v xs he
    simp only [he] at h
    rcases hr r with hv | ⟨e1, e2, h1, h2⟩
    · exact ⟨by omega, fun e => by omega⟩
    · rw [e1, e2, hat]; exact h
  · trivial

theorem Inv.srefs {B : Nat} {M Z0 : BSet} {w0 : World} {σ : St} {a : Act} {w w' : World} {Z : BSet} {F : Nat → BSet} (I : Inv B M Z0 w0 σ a w Z F) {r : Nat}
    (hF : ∀ b, F r b → w'.heap[b]? = w.heap[b]?) :
    (∀ p win V, SRefOK w (σ.at r).e (tm a r) p win V → SRefOK w' (σ.at r).e (tm a r) p win V) ∧ (∀ p V, PRefOK w (σ.at r).e (tm a r) p V → PRefOK w' (σ.at r).e (tm a r) p V) := by
  constructor
  · intro p win V h c hc
    obtain ⟨h1, T, te, q, xs, l, H, h2, h3, h4, h5⟩ := h c hc
    obtain ⟨Fc, hR, hFc, hh⟩ := I.root hc
    obtain ⟨h6, h7⟩ := pathLoc_frame p hh hR h1 h2 (fun b hb => hF b ((hFc b).2 hb)) h3
    exact ⟨h1, T, te, q, xs, l, H, h2, h6, by rw [header_frame h7]; exact h4, h5⟩
  · intro p V h
    refine ⟨fun c hc => ?_, h.2⟩
    obtain ⟨h1, ⟨u, h2⟩, b, o, h3, h5⟩ := h.1 c hc
    obtain ⟨Fc, hR, hFc, hh⟩ := I.root hc
    obtain ⟨h6, h7⟩ := pathLoc_frame p hh hR h1 h2 (fun b hb => hF b ((hFc b).2 hb)) h3
    exact ⟨h1, ⟨u, h2⟩, b, o, h6, h5⟩

/-- The general change: some temporaries turn (their versions go up, or the borrows of them are looked after); memory turns in what they owned alone. -/
theorem Inv.change {B : Nat} {M Z0 : BSet} {w0 : World} {σ σ' : St} {a a' : Act} {w w' : World} {Z Z' : BSet} {F F' : Nat → BSet} (I : Inv B M Z0 w0 σ a w Z F)
    (C : Nat → Prop) (hlen : a'.tmps.size = σ'.length) (hdef : a'.defers = [])
    (hσ : ∀ t, ¬ C t → σ'.at t = σ.at t ∧ tm a' t = tm a t ∧ F' t = F t)
    (hw : Ext w w' (fun b => ∃ c, C c ∧ F c b))
    (hZ1 : ∀ b, Z b → Z' b) (hZ2 : ∀ b, Z' b → b < w'.heap.size ∧ (Z b ∨ (∃ c, C c ∧ F c b) ∨ w.heap.size ≤ b))
    (hent : ∀ t, C t → EntOK w' Z' (σ'.at t).e (tm a' t) (F' t))
    (href : ∀ t, C t → RefOK σ' a' w' t)
    (hown : ∀ t, C t → ∀ b, F' t b → ¬ Z' b ∧ b < w'.heap.size ∧ ((∃ c, C c ∧ F c b) ∨ w.heap.size ≤ b))
    (hdis : ∀ t t', C t → C t' → ∀ b, F' t b → F' t' b → t = t')
    (hver : ∀ r, C r → (σ.at r).ver < (σ'.at r).ver ∨ ∀ t, ¬ C t → RefOK σ' a' w' t) : Inv B M Z0 w0 σ' a' w' Z' F' := by
  have hS : ∀ b, (∃ c, C c ∧ F c b) → ¬ Z b ∧ (B ≤ b ∨ M b) ∧ b < w.heap.size := fun b ⟨c, _, h⟩ => I.own c b h
  have hZs : ∀ b, Z b → Z' b ∧ w'.heap[b]? = w.heap[b]? := fun b hb => ⟨hZ1 b hb, hw.block b (I.z b hb).2 (fun h => (hS b h).1 hb)⟩
  have hFs : ∀ t, ¬ C t → ∀ b, F t b → w'.heap[b]? = w.heap[b]? := fun t ht b hb => hw.block b (I.own t b hb).2.2 (fun ⟨c, hc, h⟩ => ht (I.disj t c b hb h ▸ hc))
  refine ⟨hlen, fun t => ?_, fun t => ?_, fun t t' b h1 h2 => ?_, fun t b h => ?_, fun b h => ?_, fun b h => hZ1 b (I.z0 b h), fun b h1 h2 => ?_, Nat.le_trans I.size hw.size, hw.os.trans I.os, hw.tape.trans I.tape, hw.output.trans I.output, hdef, Dr.trans I.drawn hw.drawn⟩
  · by_cases ht : C t
    · exact hent t ht
    · obtain ⟨e1, e2, e3⟩ := hσ t ht
      rw [e1, e2, e3]
      exact (I.ent t).frame hZs (hFs t ht)
  · by_cases ht : C t
    · exact href t ht
    · obtain ⟨e1, e2, e3⟩ := hσ t ht
      by_cases hall : ∃ r, C r ∧ ¬ (σ.at r).ver < (σ'.at r).ver
      · obtain ⟨r, hr, hv⟩ := hall
        exact (hver r hr).resolve_left hv t ht
      · refine (I.ref t).frame e1 e2 fun r => ?_
        by_cases hr : C r
        · exact .inl (Classical.byContradiction fun h => hall ⟨r, hr, h⟩)
        · obtain ⟨e4, e5, _⟩ := hσ r hr
          exact .inr ⟨e4, e5, I.srefs (hFs r hr)⟩
  · by_cases ht : C t <;> by_cases ht' : C t'
    · exact hdis t t' ht ht' b h1 h2
    · rw [(hσ t' ht').2.2] at h2
      rcases (hown t ht b h1).2.2 with ⟨c, hc, h⟩ | h
      · exact absurd (I.disj c t' b h h2 ▸ hc) ht'
      · have := (I.own t' b h2).2.2; omega
    · rw [(hσ t ht).2.2] at h1
      rcases (hown t' ht' b h2).2.2 with ⟨c, hc, h⟩ | h
      · exact absurd (I.disj c t b h h1 ▸ hc) ht
      · have := (I.own t b h1).2.2; omega
    · rw [(hσ t ht).2.2] at h1
      rw [(hσ t' ht').2.2] at h2
      exact I.disj t t' b h1 h2
  · by_cases ht : C t
    · obtain ⟨h1, h2, h3⟩ := hown t ht b h
      refine ⟨h1, ?_, h2⟩
      rcases h3 with h3 | h3
      · exact (hS b h3).2.1
      · exact .inl (Nat.le_trans I.size h3)
    · rw [(hσ t ht).2.2] at h
      obtain ⟨h1, h2, h3⟩ := I.own t b h
      refine ⟨fun hz => ?_, h2, Nat.lt_of_lt_of_le h3 hw.size⟩
      rcases (hZ2 b hz).2 with h4 | ⟨c, hc, h4⟩ | h4
      · exact h1 h4
      · exact ht (I.disj t c b h h4 ▸ hc)
      · omega
  · obtain ⟨h1, h2⟩ := hZ2 b h
    refine ⟨?_, h1⟩
    rcases h2 with h2 | h2 | h2
    · exact (I.z b h2).1
    · exact .inr (hS b h2).2.1
    · exact .inr (.inl (Nat.le_trans I.size h2))
  · rw [hw.block b (Nat.lt_of_lt_of_le h1 I.size) (fun h => by
      rcases (hS b h).2.1 with h | h
      · omega
      · exact h2 h)]
    exact I.frame b h1 h2
end Go.K

/- K, part G: the types' table held against the program; what an operation's result makes of the invariant. -/
set_option linter.unusedVariables false
set_option linter.unusedSimpArgs false
namespace Go.K
variable [drI : Dr]

def zcells : Ty → List Value
  | .int k => [.int k 0]
  | .bool => [.bool false]
  | .str => [.string ByteArray.empty]
  | .unit => []
  | .pair a b => zcells a ++ zcells b
  | .sl _ _ => [.slice none 0 0]
  | .ptr _ => [.pointer none]
  | .arr n e => (List.replicate n (zcells e)).flatten
  | .mp _ _ => [.map none]
def fieldsOK (ty : Nat → Option Ty) : List Field → Ty → Nat → Bool
  | [], .unit, _ => true
  | f :: fs, .pair a b, o => f.name != "_" && ty f.type == some a && f.offset == o && fieldsOK ty fs b (o + a.cells)
  | _, _, _ => false
def valueEq (a b : Value) : Bool := match a, b with
  | .int k n, .int k' n' => k == k' && n == n'
  | .bool b, .bool b' => b == b'
  | .string s, .string s' => s.data.toList == s'.data.toList
  | .slice none 0 0, .slice none 0 0 => true
  | .pointer none, .pointer none => true
  | _, _ => false
def cellsEq : List Value → List Value → Bool
  | [], [] => true
  | a :: x, b :: y => valueEq a b && cellsEq x y
  | _, _ => false
/-- The row of the types' table for `T` is what the program says. -/
def tyChk (P : Program) (ty : Nat → Option Ty) (T : Nat) (t : Ty) : Bool :=
  (match P.info? T with
    | some i => i.size == t.cells && (!t.hasZero || (match i.zero with | some z => cellsEq z.cells.toList (zcells t) && ((match z with | .agg _ => true | _ => false) == t.isAgg) | none => false))
    | none => false) &&
  (match t, P.underlying T with
    | .int k, some (.int k') => k == k'
    | .bool, some .bool => true
    | .str, some .string => true
    | .pair a b, some (.struct fs) => fieldsOK ty fs.toList (.pair a b) 0 && !P.stoodInHeld T && !P.eqGuardType P.depth T
    | .unit, some (.struct fs) => fieldsOK ty fs.toList .unit 0
    | .sl Te e, some (.slice Te') => Te == Te' && ty Te == some e && decide (0 < e.cells)
    | .ptr t, some (.pointer _) => true
    | .arr n e, some (.array n' Te) => n == n' && ty Te == some e && !P.eqGuardType P.depth T
    | .mp k v, some (.map Tk Tv) => ty Tk == some k && ty Tv == some v
    | _, _ => false)
structure CtxOK (P : Program) (F : FC) : Prop where
  ty : ∀ T t, F.C.ty T = some t → tyChk P F.C.ty T t = true
  bytes : ∀ T Te e, F.C.ty T = some (.sl Te e) → ∃ i, P.info? Te = some i ∧ i.bytes = F.C.bytes T ∧ 0 < i.bytes
  fty : ∀ T, F.C.fty T = true → ∃ ps rs v, P.underlying T = some (.func ps rs v)
  mixed : P.follows .mixedOrders = true

theorem at_set (σ : St) (t d : Nat) (s : Slot) : St.at (σ.set d s) t = if t = d ∧ d < σ.length then s else σ.at t := by
  unfold St.at
  rw [List.getD_eq_getElem?_getD, List.getD_eq_getElem?_getD, List.getElem?_set]
  by_cases h : d = t
  · subst h
    by_cases h2 : d < σ.length
    · simp [h2]
    · simp [h2, List.getElem?_eq_none (Nat.le_of_not_lt h2)]
  · have : ¬ t = d := fun e => h e.symm
    simp [h, this]
theorem length_upd : ∀ (u : Upd) (σ : St), (σ.upd u).length = σ.length
  | [], σ => rfl
  | (t, e) :: u, σ => by rw [St.upd, length_upd u, List.length_set]
theorem upd_append : ∀ (u v : Upd) (σ : St), σ.upd (u ++ v) = (σ.upd u).upd v
  | [], v, σ => rfl
  | (t, e) :: u, v, σ => by rw [List.cons_append, St.upd, St.upd, upd_append u v]
theorem at_upd_not : ∀ (u : Upd) (σ : St) (t : Nat), t ∉ u.map (·.1) → (σ.upd u).at t = σ.at t
  | [], σ, t, h => rfl
  | (d, e) :: u, σ, t, h => by
    simp only [List.map_cons, List.mem_cons, not_or] at h
    rw [St.upd, at_upd_not u _ t h.2, at_set]
    simp [h.1]
theorem at_upd_mem : ∀ (u : Upd) (σ : St) (t : Nat), distinct (u.map (·.1)) = true → t ∈ u.map (·.1) → t < σ.length → ∃ s, (t, s) ∈ u ∧ (σ.upd u).at t = s
  | (d, e) :: u, σ, t, hd, h, hl => by
    simp only [List.map_cons, distinct, Bool.and_eq_true, Bool.not_eq_true', List.contains_eq_mem, decide_eq_false_iff_not] at hd
    simp only [List.map_cons, List.mem_cons] at h
    rcases h with rfl | h
    · exact ⟨e, List.mem_cons_self, by rw [St.upd, at_upd_not u _ _ hd.1, at_set]; simp [hl]⟩
    · obtain ⟨s, h1, h2⟩ := at_upd_mem u (σ.set d e) t hd.2 h (by rw [List.length_set]; exact hl)
      exact ⟨s, List.mem_cons_of_mem _ h1, h2⟩
theorem at_ge {σ : St} {t : Nat} (h : σ.length ≤ t) : σ.at t = ⟨0, .un⟩ := by unfold St.at; rw [List.getD_eq_getElem?_getD, List.getElem?_eq_none h]; rfl

theorem tm_put (a : Act) (d t : Nat) (V : Value) : tm (a.put (some d) V) t = if t = d ∧ d < a.tmps.size then V else tm a t := by
  unfold tm Act.put
  simp only [Array.getD_eq_getD_getElem?, Array.getElem?_setIfInBounds]
  by_cases h : d = t
  · subst h
    by_cases h2 : d < a.tmps.size
    · simp [h2]
    · simp [h2, Array.getElem?_eq_none (Nat.le_of_not_lt h2)]
  · have : ¬ t = d := fun e => h e.symm
    simp [h, this]
theorem put_size (a : Act) (d : Option Nat) (V : Value) : (a.put d V).tmps.size = a.tmps.size := by cases d <;> simp [Act.put]
theorem put_defers (a : Act) (d : Option Nat) (V : Value) : (a.put d V).defers = a.defers := by cases d <;> rfl

theorem EntOK.un {w : World} {Z : BSet} {V : Value} : EntOK w Z .un V (fun _ => False) := fun _ h => h
/-- What is eaten: roots that are given up, or frozen where they lie. -/
def Eaten (σ : St) (u : Upd) : Prop := ∀ r s, (r, s) ∈ u → (σ.at r).ver < s.ver ∧ (s.e = .un ∨ ∃ t q x, (σ.at r).e = .val t q x ∧ q.whole = true ∧ s.e = .val t .fr x)
def Freed (u : Upd) (F : Nat → BSet) : BSet := fun b => ∃ r s, (r, s) ∈ u ∧ s.e = .un ∧ F r b
def Iced (u : Upd) (F : Nat → BSet) : BSet := fun b => ∃ r s, (r, s) ∈ u ∧ s.e ≠ .un ∧ F r b
theorem VRep.freeze {w : World} {Z Z' : BSet} (hZ : ∀ b, Z b → Z' b) {t : Ty} {q : Ow} {x : t.den} {V : Value} {F : BSet} (hq : q.whole = true) (hF : ∀ b, F b → Z' b) (h : VRep w Z t q x V F) : VRep w Z' t .fr x V (fun _ => False) :=
  ⟨h.1.freeze hZ hq hF, h.2⟩

theorem Inv.lt_size {B : Nat} {M Z0 : BSet} {w0 : World} {σ : St} {a : Act} {w : World} {Z : BSet} {F : Nat → BSet} (I : Inv B M Z0 w0 σ a w Z F) {t b : Nat} (h : F t b) : b < w.heap.size := (I.own t b h).2.2
theorem Inv.lt_len {B : Nat} {M Z0 : BSet} {w0 : World} {σ : St} {a : Act} {w : World} {Z : BSet} {F : Nat → BSet} (I : Inv B M Z0 w0 σ a w Z F) {t b : Nat} (h : F t b) : t < σ.length := by
  rcases Nat.lt_or_ge t σ.length with h2 | h2
  · exact h2
  · have := I.ent t
    rw [at_ge h2] at this
    exact absurd h (this b)

/-- An operation that writes nothing that was there: it eats, and puts its result. -/
theorem Inv.give {B : Nat} {M Z0 : BSet} {w0 : World} {σ : St} {a : Act} {w w' : World} {Z : BSet} {F : Nat → BSet} (I : Inv B M Z0 w0 σ a w Z F)
    {more : Upd} {d : Nat} {e : Ent} {V : Value} {Fe : BSet} {ver : Nat} (hver : (σ.at d).ver < ver) (he : Eaten σ more) (hdis : distinct (more.map (·.1)) = true) (hd : d ∉ more.map (·.1))
    (hw : Ext w w' (Freed more F)) (N : BSet) (hN : ∀ b, N b → w.heap.size ≤ b ∧ b < w'.heap.size) (hent : EntOK w' (fun b => Z b ∨ Iced more F b ∨ N b) e V Fe)
    (hown : ∀ b, Fe b → Freed more F b ∨ (w.heap.size ≤ b ∧ b < w'.heap.size) ∧ ¬ N b)
    (href : d < σ.length → RefOK (σ.upd (more ++ [(d, ⟨ver, e⟩)])) (a.put (some d) V) w' d) :
    ∃ Z' F', Inv B M Z0 w0 (σ.upd (more ++ [(d, ⟨ver, e⟩)])) (a.put (some d) V) w' Z' F' := by
  have hlen : (σ.upd (more ++ [(d, ⟨ver, e⟩)])).length = σ.length := length_upd _ _
  have hat : ∀ t, (σ.upd (more ++ [(d, ⟨ver, e⟩)])).at t = if t = d ∧ d < σ.length then ⟨ver, e⟩ else (σ.upd more).at t := by
    intro t; rw [upd_append, St.upd, St.upd, at_set, length_upd]
  -- what is owned by a temporary that is not eaten is neither freed nor iced
  have hnot : ∀ t b, t ∉ more.map (·.1) → F t b → ¬ Freed more F b ∧ ¬ Iced more F b := by
    intro t b ht hb
    constructor
    · rintro ⟨r, s, h1, _, h2⟩; exact ht (I.disj t r b hb h2 ▸ List.mem_map.2 ⟨_, h1, rfl⟩)
    · rintro ⟨r, s, h1, _, h2⟩; exact ht (I.disj t r b hb h2 ▸ List.mem_map.2 ⟨_, h1, rfl⟩)
  have huniq : ∀ r s s', (r, s) ∈ more → (r, s') ∈ more → s = s' := by
    intro r s s' h1 h2
    clear hat hlen href hnot he hd hown hent hw
    induction more with
    | nil => cases h1
    | cons x l ih =>
      obtain ⟨r0, s0⟩ := x
      simp only [List.map_cons, distinct, Bool.and_eq_true, Bool.not_eq_true', List.contains_eq_mem, decide_eq_false_iff_not] at hdis
      rcases List.mem_cons.1 h1 with h3 | h3 <;> rcases List.mem_cons.1 h2 with h4 | h4
      · cases h3; cases h4; rfl
      · cases h3; have := List.mem_map_of_mem (f := fun x : Nat × Slot => x.1) h4; exact absurd this hdis.1
      · cases h4; have := List.mem_map_of_mem (f := fun x : Nat × Slot => x.1) h3; exact absurd this hdis.1
      · exact ih hdis.2 h3 h4
  have hZs : ∀ b, Z b → w'.heap[b]? = w.heap[b]? := fun b hb => hw.block b (I.z b hb).2 (fun ⟨r, s, _, _, h⟩ => (I.own r b h).1 hb)
  have hFs : ∀ t b, t ∉ more.map (·.1) → F t b → w'.heap[b]? = w.heap[b]? := fun t b ht hb => hw.block b (I.lt_size hb) (hnot t b ht hb).1
  refine ⟨fun b => Z b ∨ Iced more F b ∨ N b, fun t => if t = d ∧ d < σ.length then Fe else if t ∈ more.map (·.1) then (fun _ => False) else if t = d then (fun _ => False) else F t,
    I.change (fun t => t = d ∨ t ∈ more.map (·.1)) (by rw [put_size, I.len, hlen]) (by rw [put_defers]; exact I.defers) ?_ ?_ (fun b h => .inl h) ?_ ?_ ?_ ?_ ?_ ?_⟩
  · intro t ht
    simp only [not_or] at ht
    refine ⟨?_, ?_, ?_⟩
    · rw [hat, at_upd_not _ _ _ ht.2]; simp [ht.1]
    · rw [tm_put]; simp [ht.1]
    · simp only [ht.1, ht.2, if_false, false_and]
  · exact ⟨hw.os, hw.tape, hw.output, hw.size, fun b h hn => hw.block b h (fun ⟨r, s, h1, _, h2⟩ => hn ⟨r, .inr (List.mem_map.2 ⟨_, h1, rfl⟩), h2⟩), hw.drawn⟩
  · rintro b (h | ⟨r, s, h1, h2, h3⟩ | h)
    · exact ⟨Nat.lt_of_lt_of_le (I.z b h).2 hw.size, .inl h⟩
    rotate_left
    · exact ⟨(hN b h).2, .inr (.inr (hN b h).1)⟩
    · exact ⟨Nat.lt_of_lt_of_le (I.lt_size h3) hw.size, .inr (.inl ⟨r, .inr (List.mem_map.2 ⟨_, h1, rfl⟩), h3⟩)⟩
  · intro t ht
    rw [hat, tm_put, I.len]
    by_cases hc : t = d ∧ d < σ.length
    · simp only [hc, and_self, if_true]; exact hent
    · simp only [hc, if_false]
      rcases ht with rfl | ht
      · have hge : σ.length ≤ t := Nat.le_of_not_lt (fun h => hc ⟨rfl, h⟩)
        rw [at_upd_not _ _ _ hd, at_ge hge]
        simp only [hd, if_true, if_false]
        exact EntOK.un
      · simp only [ht, if_true]
        have hne : t ≠ d := fun e => hd (e ▸ ht)
        rcases Nat.lt_or_ge t σ.length with hl | hl
        · obtain ⟨s, h1, h2⟩ := at_upd_mem more σ t hdis ht hl
          rw [h2]
          rcases (he t s h1).2 with h3 | ⟨ty, q, x, h3, hq, h4⟩
          · rw [h3]; exact EntOK.un
          · rw [h4]
            have := I.ent t
            rw [h3] at this
            have h5 : VRep w (fun b => Z b ∨ Iced more F b) ty .fr x (tm a t) (fun _ => False) := VRep.freeze (fun b h => .inl h) hq (fun b hb => .inr ⟨t, s, h1, by rw [h4]; simp, hb⟩) this
            refine VRep.frame (fun b hb => ⟨hb.imp id .inl, ?_⟩) (fun _ h => h.elim) h5
            rcases hb with hb | ⟨r', s', h8, h9, h⟩
            · exact hZs b hb
            · refine hw.block b (I.lt_size h) (fun ⟨r2, s2, h10, h11, h12⟩ => ?_)
              have := I.disj r' r2 b h h12
              subst this
              exact h9 (huniq _ _ _ h8 h10 ▸ h11)
        · have : (σ.upd more).at t = ⟨0, .un⟩ := at_ge (by rw [length_upd]; exact hl)
          rw [this]; exact EntOK.un
  · intro t ht
    by_cases hc : t = d ∧ d < σ.length
    · obtain ⟨rfl, h2⟩ := hc; exact href h2
    · unfold RefOK
      rw [hat]
      simp only [hc, if_false]
      rcases ht with rfl | ht
      · have hge : σ.length ≤ t := Nat.le_of_not_lt (fun h => hc ⟨rfl, h⟩)
        rw [at_upd_not _ _ _ hd, at_ge hge]; trivial
      · rcases Nat.lt_or_ge t σ.length with hl | hl
        · obtain ⟨s, h1, h2⟩ := at_upd_mem more σ t hdis ht hl
          rw [h2]
          rcases (he t s h1).2 with h3 | ⟨ty, q, x, h3, hq, h4⟩
          · rw [h3]; trivial
          · rw [h4]; trivial
        · have : (σ.upd more).at t = ⟨0, .un⟩ := at_ge (by rw [length_upd]; exact hl)
          rw [this]; trivial
  · intro t ht b hb
    by_cases hc : t = d ∧ d < σ.length
    · simp only [hc, and_self, if_true] at hb
      rcases hown b hb with h | ⟨⟨h1, h2⟩, hn⟩
      · obtain ⟨r, s, h1, h2, h3⟩ := h
        refine ⟨?_, Nat.lt_of_lt_of_le (I.lt_size h3) hw.size, .inl ⟨r, .inr (List.mem_map.2 ⟨_, h1, rfl⟩), h3⟩⟩
        rintro (hz | ⟨r', s', h4, h5, h6⟩ | hz)
        · exact (I.own r b h3).1 hz
        rotate_left
        · have := (hN b hz).1; have := I.lt_size h3; omega
        · have := I.disj r r' b h3 h6
          subst this
          exact h5 (huniq _ _ _ h4 h1 ▸ h2)
      · refine ⟨?_, h2, .inr h1⟩
        rintro (hz | ⟨r', s', h4, h5, h6⟩ | hz)
        · have := (I.z b hz).2; omega
        · have := I.lt_size h6; omega
        · exact hn hz
    · simp only [hc, if_false] at hb
      rcases ht with rfl | ht
      · simp only [hd, if_true, if_false] at hb
      · simp only [ht, if_true] at hb
  · intro t t' ht ht' b h1 h2
    by_cases hc : t = d ∧ d < σ.length <;> by_cases hc' : t' = d ∧ d < σ.length
    · rw [hc.1, hc'.1]
    · simp only [hc', if_false] at h2
      rcases ht' with rfl | ht'
      · simp only [hd, if_true, if_false] at h2
      · simp only [ht', if_true] at h2
    · simp only [hc, if_false] at h1
      rcases ht with rfl | ht
      · simp only [hd, if_true, if_false] at h1
      · simp only [ht, if_true] at h1
    · simp only [hc, if_false] at h1
      rcases ht with rfl | ht
      · simp only [hd, if_true, if_false] at h1
      · simp only [ht, if_true] at h1
  · intro r hr
    by_cases hl : r < σ.length
    · left
      rw [hat]
      by_cases hc : r = d ∧ d < σ.length
      · simp only [hc, and_self, if_true]; exact hver
      · simp only [hc, if_false]
        rcases hr with rfl | hr
        · exact absurd ⟨rfl, hl⟩ hc
        · obtain ⟨s, h1, h2⟩ := at_upd_mem more σ r hdis hr hl
          rw [h2]; exact (he r s h1).1
    · right
      intro t ht
      simp only [not_or] at ht
      -- the root lies outside of the frame: nothing turns there
      refine (I.ref t).frame (by rw [hat, at_upd_not _ _ _ ht.2]; simp [ht.1]) (by rw [tm_put]; simp [ht.1]) fun r' => ?_
      by_cases hl' : r' < σ.length
      · by_cases hr' : r' = d ∨ r' ∈ more.map (·.1)
        · left
          rw [hat]
          by_cases hc : r' = d ∧ d < σ.length
          · simp only [hc, and_self, if_true]; exact hver
          · simp only [hc, if_false]
            rcases hr' with rfl | hr'
            · exact absurd ⟨rfl, hl'⟩ hc
            · obtain ⟨s, h1, h2⟩ := at_upd_mem more σ r' hdis hr' hl'
              rw [h2]; exact (he r' s h1).1
        · simp only [not_or] at hr'
          right
          refine ⟨by rw [hat, at_upd_not _ _ _ hr'.2]; simp [hr'.1], by rw [tm_put]; simp [hr'.1], I.srefs (fun b hb => hFs r' b hr'.2 hb)⟩
      · right
        have hge : σ.length ≤ r' := Nat.le_of_not_lt hl'
        refine ⟨by rw [at_ge hge, at_ge (by rw [hlen]; exact hge)], ?_, I.srefs (fun b hb => absurd (I.lt_len hb) hl')⟩
        rw [tm_put]
        have : ¬ (r' = d ∧ d < a.tmps.size) := by rintro ⟨rfl, h⟩; rw [I.len] at h; exact hl' h
        simp [this]
theorem Ext.mono {w w' : World} {S S' : BSet} (h : Ext w w' S) (hs : ∀ b, S b → S' b) : Ext w w' S' := ⟨h.os, h.tape, h.output, h.size, fun b h1 h2 => h.block b h1 (fun h3 => h2 (hs b h3)), h.drawn⟩
end Go.K

/- K, part H: the operations that only compute. -/
set_option linter.unusedVariables false
set_option linter.unusedSimpArgs false
namespace Go.K
variable [drI : Dr]

def Rd.val.{u} {α : Type u} (σ : St) : Rd α → Option α
  | .ret a => some a
  | .fail => none
  | .get t k => (k (σ.at t)).val σ
theorem Rd.val_of_run.{u} {α : Type u} {σ : St} : ∀ {x : Rd α} {l : List Nat} {a : α} {r : List Nat}, x.run σ l = some (a, r) → x.val σ = some a
  | .ret a, l, b, r, h => by simp only [Rd.run, Option.some.injEq, Prod.mk.injEq] at h; simp [Rd.val, h.1]
  | .fail, l, b, r, h => by simp [Rd.run] at h
  | .get t k, l, b, r, h => by simp only [Rd.run] at h; simp only [Rd.val]; exact Rd.val_of_run h
theorem Rd.val_bind.{u, v} {α : Type u} {β : Type v} {σ : St} {f : α → Rd β} : ∀ {x : Rd α}, (x.bind f).val σ = (x.val σ).bind fun a => (f a).val σ
  | .ret a => rfl
  | .fail => rfl
  | .get t k => by simp only [Rd.bind, Rd.val]; exact Rd.val_bind
theorem Rd.bind_some.{u, v} {α : Type u} {β : Type v} {σ : St} {f : α → Rd β} {x : Rd α} {b : β} (h : (x.bind f).val σ = some b) : ∃ a, x.val σ = some a ∧ (f a).val σ = some b := by
  rw [Rd.val_bind, Option.bind_eq_some_iff] at h; exact h

def Good (B : Nat) (M Z0 : BSet) (w0 : World) (σ : St) (a : Act) (w : World) : Prop := ∃ Z F, Inv B M Z0 w0 σ a w Z F

section
variable {P : Program} {X : FC} {B : Nat} {M Z0 : BSet} {w0 : World} {σ : St} {a : Act} {w : World} {Z : BSet} {F : Nat → BSet}

/-- What an operation owes. -/
def OpOK (P : Program) (B : Nat) (M Z0 : BSet) (w0 : World) (σ : St) (a : Act) (w : World) (o : Oper) (op : Op1) : Prop :=
  ∀ out, op.val σ = some out → ∀ u, out.run = some u → ∀ Q, o.wp P a w (fun a' w' => Good B M Z0 w0 (σ.upd u) a' w') Q

theorem wp_value {o : Oper} {next : Act → World → Prop} {Q : Exit → Act → World → Prop} {V : Value} {w' : World} (h : (execOp a.eval o).run P w = .ok (.value V) w') (hn : next (a.put o.dst V) w') : o.wp P a w next Q := by
  unfold Oper.wp; rw [h]; exact hn

theorem VRep.scalar {t : Ty} {q : Ow} {x : t.den} {V : Value} {Fo : BSet} (h : VRep w Z t q x V Fo) (ht : t.isAgg = false) : V.cells.toList = [V] := by
  have h1 := h.2
  rw [ht] at h1
  cases V <;> simp_all [Value.cells]
theorem VRep.mk1 {t : Ty} {q : Ow} {x : t.den} {V : Value} {Fo : BSet} (ht : t.isAgg = false) (hV : ∀ cs, V ≠ .agg cs) (h : Rep w Z t q x [V] Fo) : VRep w Z t q x V Fo := by
  refine ⟨?_, by rw [ht]; simp [hV]⟩
  have : V.cells.toList = [V] := by cases V <;> simp_all [Value.cells]
  rw [this]; exact h
theorem VRep.int {k : IntKind} {q : Ow} {n : Int} {V : Value} {Fo : BSet} (hq : q ≠ .hole) (h : VRep w Z (.int k) q n V Fo) : V = .int k n := by
  have h1 := h.1
  rw [h.scalar rfl] at h1
  rcases h1 with ⟨_, e, _⟩ | ⟨e, _⟩
  · simpa using e
  · exact absurd e hq
theorem VRep.bool {q : Ow} {n : Bool} {V : Value} {Fo : BSet} (hq : q ≠ .hole) (h : VRep w Z .bool q n V Fo) : V = .bool n := by
  have h1 := h.1
  rw [h.scalar rfl] at h1
  rcases h1 with ⟨_, e, _⟩ | ⟨e, _⟩
  · simpa using e
  · exact absurd e hq
theorem VRep.str {q : Ow} {n : List UInt8} {V : Value} {Fo : BSet} (hq : q ≠ .hole) (h : VRep w Z .str q n V Fo) : V = .string ⟨n.toArray⟩ := by
  have h1 := h.1
  rw [h.scalar rfl] at h1
  rcases h1 with ⟨_, e, _⟩ | ⟨e, _⟩
  · simpa using e
  · exact absurd e hq
theorem VRep.ofInt (k : IntKind) (n : Int) : VRep w Z (.int k) .fr n (.int k n) (fun _ => False) := .mk1 rfl (by simp) (.inl ⟨by simp, rfl, fun _ h => h⟩)
theorem VRep.ofBool (b : Bool) : VRep w Z .bool .fr b (.bool b) (fun _ => False) := .mk1 rfl (by simp) (.inl ⟨by simp, rfl, fun _ h => h⟩)
theorem VRep.ofStr (s : List UInt8) : VRep w Z .str .fr s (.string ⟨s.toArray⟩) (fun _ => False) := .mk1 rfl (by simp) (.inl ⟨by simp, rfl, fun _ h => h⟩)
theorem VRep.toFr {t : Ty} {q : Ow} {x : t.den} {V : Value} {Fo : BSet} (hq : q.clean = true) (h : VRep w Z t q x V Fo) : VRep w Z t .fr x V (fun _ => False) := by
  have := h.1.toFr hq
  have e := (this.e0 rfl).eq
  rw [e] at this
  exact ⟨this, h.2⟩
theorem own_nil (T k : Nat) : w.ownsRow 0 T k (.slice none 0 0) 0 [] := ⟨by simp, .inl ⟨rfl, rfl⟩⟩
theorem VRep.nil (T : Nat) (e : Ty) (q : Ow) : VRep w Z (.sl T e) (.own q) [] (.slice none 0 0) (fun _ => False) :=
  .mk1 rfl (by simp) ⟨_, [], _, rfl, own_nil T _, ⟨rfl, fun _ h => h⟩, fun b => by simp [Value.ownBlock], fun b h => by simp [Value.ownBlock] at h⟩

theorem isNil_eq {V : Value} (h : isNil V = true) : V = .slice none 0 0 := by
  unfold isNil at h
  split at h
  · simp only [Bool.and_eq_true, beq_iff_eq] at h; rw [h.1, h.2]
  · cases h
theorem ofCells_ok (w : World) (Z : BSet) : ∀ {t : Ty} {cs r : List Value} {x : t.den}, ofCells t cs = some (x, r) → ∃ c, cs = c ++ r ∧ Rep w Z t .fr x c (fun _ => False)
  | .int k, cs, r, x, h => by
    cases cs with
    | nil => simp [ofCells] at h
    | cons v cs =>
      cases v <;> simp only [ofCells] at h <;> try (cases h; done)
      split at h
      · rename_i e; subst e; simp only [Option.some.injEq, Prod.mk.injEq] at h; obtain ⟨rfl, rfl⟩ := h
        exact ⟨[_], rfl, .inl ⟨by simp, rfl, fun _ h => h⟩⟩
      · cases h
  | .bool, cs, r, x, h => by
    cases cs with
    | nil => simp [ofCells] at h
    | cons v cs =>
      cases v <;> simp only [ofCells] at h <;> try (cases h; done)
      simp only [Option.some.injEq, Prod.mk.injEq] at h; obtain ⟨rfl, rfl⟩ := h
      exact ⟨[_], rfl, .inl ⟨by simp, rfl, fun _ h => h⟩⟩
  | .str, cs, r, x, h => by
    cases cs with
    | nil => simp [ofCells] at h
    | cons v cs =>
      cases v <;> simp only [ofCells] at h <;> try (cases h; done)
      simp only [Option.some.injEq, Prod.mk.injEq] at h; obtain ⟨rfl, rfl⟩ := h
      exact ⟨[_], rfl, .inl ⟨by simp, by simp, fun _ h => h⟩⟩
  | .unit, cs, r, x, h => by
    simp only [ofCells, Option.some.injEq, Prod.mk.injEq] at h; obtain ⟨_, rfl⟩ := h
    exact ⟨[], rfl, rfl, fun _ h => h⟩
  | .pair a b, cs, r, x, h => by
    simp only [ofCells] at h
    split at h
    · rename_i y r' h1
      split at h
      · rename_i z r'' h2
        simp only [Option.some.injEq, Prod.mk.injEq] at h; obtain ⟨rfl, rfl⟩ := h
        obtain ⟨c1, rfl, R1⟩ := ofCells_ok w Z h1
        obtain ⟨c2, rfl, R2⟩ := ofCells_ok w Z h2
        exact ⟨c1 ++ c2, by simp, c1, c2, _, _, rfl, R1, R2, Join.none⟩
      · cases h
    · cases h
  | .sl T e, cs, r, x, h => by
    cases cs with
    | nil => simp [ofCells] at h
    | cons v cs =>
      simp only [ofCells] at h
      split at h
      · rename_i hv
        obtain rfl := isNil_eq hv
        simp only [Option.some.injEq, Prod.mk.injEq] at h; obtain ⟨rfl, rfl⟩ := h
        exact ⟨[_], rfl, none, 0, [], rfl, fun _ h => h, Nat.le_refl _, Nat.zero_le _, fun h => absurd rfl h, rfl, fun _ h => h⟩
      · cases h
  | .ptr t, cs, r, x, h => by simp [ofCells] at h
  | .arr n e, cs, r, x, h => by simp [ofCells] at h
  | .mp k v, cs, r, x, h => by simp [ofCells] at h
theorem constEnt_ok {C : Ctx} {T : Nat} {h : Ow} {V : Value} {e : Ent} (he : constEnt C T h V = some e) :
    ∃ t q x, e = .val t q x ∧ (q = .fr ∨ (q = .own h ∧ ∃ T' e', t = .sl T' e')) ∧ VRep w Z t q x V (fun _ => False) := by
  cases V with
  | int k n => simp only [constEnt, Option.some.injEq] at he; subst he; exact ⟨_, _, _, rfl, .inl rfl, VRep.ofInt _ _⟩
  | bool b => simp only [constEnt, Option.some.injEq] at he; subst he; exact ⟨_, _, _, rfl, .inl rfl, VRep.ofBool _⟩
  | string s =>
    simp only [constEnt, Option.some.injEq] at he; subst he
    refine ⟨_, _, _, rfl, .inl rfl, ?_⟩
    have := VRep.ofStr (w := w) (Z := Z) s.data.toList
    simpa using this
  | slice A n c =>
    simp only [constEnt] at he
    split at he
    · rename_i hn
      split at he
      · rename_i T' e' hT
        simp only [Option.some.injEq] at he
        subst he
        rw [isNil_eq hn]
        exact ⟨_, _, _, rfl, .inr ⟨rfl, _, _, rfl⟩, VRep.nil _ _ _⟩
      · cases he
    · cases he
  | agg cs =>
    simp only [constEnt] at he
    split at he
    · rename_i t hT
      split at he
      · rename_i ht
        split at he
        · rename_i x h1
          simp only [Option.some.injEq] at he
          subst he
          obtain ⟨c, hc, hr⟩ := ofCells_ok w Z h1
          refine ⟨_, _, _, rfl, .inl rfl, ?_, by simp [ht]⟩
          simp only [Value.cells]
          rw [hc, List.append_nil]; exact hr
        · cases he
      · cases he
    · cases he
  | _ => simp [constEnt] at he
theorem opd_ok (I : Inv B M Z0 w0 σ a w Z F) {C : Ctx} {T : Nat} {h : Ow} {x : Operand} {e : Ent} (he : (opd C T h x).val σ = some e) :
    (∃ t, x = .tmp t ∧ e = (σ.at t).e ∧ EntOK w Z e (a.eval x) (F t)) ∨ ((∀ t, x ≠ .tmp t) ∧ EntOK w Z e (a.eval x) (fun _ => False) ∧
      ((∃ t q x, e = .val t q x ∧ (q = .fr ∨ (q = .own h ∧ ∃ T' e', t = .sl T' e'))) ∨ ∃ f, x = .func f ∧ e = .fnl f [] [])) := by
  cases x with
  | tmp t =>
    simp only [opd, Rd.val, Option.some.injEq] at he
    subst he
    exact .inl ⟨t, rfl, rfl, I.ent t⟩
  | const v =>
    simp only [opd] at he
    cases hc : constEnt C T h v with
    | none => simp [hc, Rd.ofOpt, Rd.val] at he
    | some e' =>
      simp only [hc, Rd.ofOpt, Rd.val, Option.some.injEq] at he
      subst he
      obtain ⟨t, q, x, rfl, hq, hr⟩ := constEnt_ok (w := w) (Z := Z) hc
      exact .inr ⟨by simp, hr, .inl ⟨t, q, x, rfl, hq⟩⟩
  | func f =>
    simp only [opd, Rd.val, Option.some.injEq] at he
    subst he
    exact .inr ⟨by simp, ⟨fun _ h => h, [], [], rfl, .nil, rfl⟩, .inr ⟨f, rfl, rfl⟩⟩
  | global g => simp [opd, Rd.val] at he
theorem opd_val (I : Inv B M Z0 w0 σ a w Z F) {C : Ctx} {T : Nat} {h : Ow} {x : Operand} {t : Ty} {q : Ow} {y : t.den} (he : (opd C T h x).val σ = some (.val t q y)) :
    ∃ Fo, VRep w Z t q y (a.eval x) Fo := by
  rcases opd_ok I he with ⟨r, _, _, h1⟩ | ⟨_, h1, _⟩ <;> exact ⟨_, h1⟩
theorem rdInt_ok (I : Inv B M Z0 w0 σ a w Z F) {C : Ctx} {x : Operand} {n : Int} (he : (rdInt C x).val σ = some n) : ∃ k, a.eval x = .int k n := by
  obtain ⟨e, h1, h2⟩ := Rd.bind_some he
  unfold asInt at h2
  split at h2
  · rename_i k m
    simp only [Rd.val, Option.some.injEq] at h2
    subst h2
    obtain ⟨Fo, h3⟩ := opd_val I h1
    exact ⟨k, h3.int (by simp)⟩
  · cases h2

/-- A result that is no borrow. -/
def Ent.plain : Ent → Bool
  | .sref .. | .pref .. | .fnl .. | .tref .. => false
  | _ => true
theorem RefOK.ofPlain {σ : St} {a : Act} {w : World} {t : Nat} (h : (σ.at t).e.plain = true) : RefOK σ a w t := by
  unfold RefOK
  generalize (σ.at t).e = e at h
  cases e <;> first | trivial | cases h

theorem put_val {d : Option Nat} {e : Ent} {more : Upd} {out : Out Upd} (h : (put d e more).val σ = some out) : ∃ d', d = some d' ∧ out = .done (more ++ [(d', ⟨(σ.at d').ver + 1, e⟩)]) := by
  cases d with
  | none => cases h
  | some d => simp only [put, Rd.val, Option.some.injEq] at h; exact ⟨d, rfl, h.symm⟩
theorem putIf_val {d : Option Nat} {b : Bool} {e : Ent} {out : Out Upd} (h : (putIf d b e).val σ = some out) : ∃ d', d = some d' ∧ out = .br b (.done [(d', ⟨(σ.at d').ver + 1, e⟩)]) .bad := by
  cases d with
  | none => cases h
  | some d => simp only [putIf, Rd.val, Option.some.injEq] at h; exact ⟨d, rfl, h.symm⟩
theorem run_br {α : Type} {b : Bool} {x : α} {u : α} (h : (Out.br b (.done x) .bad).run = some u) : b = true ∧ u = x := by
  cases b with
  | true => simp only [Out.run, cond_true, Option.some.injEq] at h; exact ⟨rfl, h.symm⟩
  | false => simp [Out.run] at h

theorem at_put_self {more : Upd} {d : Nat} {s : Slot} (hl : d < σ.length) : (σ.upd (more ++ [(d, s)])).at d = s := by
  rw [upd_append, St.upd, St.upd, at_set, length_upd]; simp [hl]
/-- What a new entry owes as a borrow, said of the state before it. -/
def RefNew (σ : St) (a : Act) (w : World) : Ent → Value → Prop
  | .sref r v p win, V => v ≤ (σ.at r).ver ∧ ((σ.at r).ver = v → SRefOK w (σ.at r).e (tm a r) p win V)
  | .pref r v p, V => v ≤ (σ.at r).ver ∧ ((σ.at r).ver = v → PRefOK w (σ.at r).e (tm a r) p V)
  | .fnl g f caps, V => ∀ (i r v : Nat), caps[i]? = some (Cap.root r v) → v ≤ (σ.at r).ver ∧ ((σ.at r).ver = v → ∃ fs cs, V = Value.func (.func g) fs cs ∧ cs[i]? = some (tm a r))
  | .tref r v xs, V => v ≤ (σ.at r).ver ∧ ((σ.at r).ver = v → V = tm a r)
  | _, _ => True
theorem ver_put {more : Upd} {d : Nat} {e : Ent} {ver : Nat} (hver : (σ.at d).ver < ver) (he : Eaten σ more) (hdis : distinct (more.map (·.1)) = true) (r : Nat) :
    (σ.at r).ver < ((σ.upd (more ++ [(d, ⟨ver, e⟩)])).at r).ver ∨ (r ≠ d ∨ σ.length ≤ d) ∧ (σ.upd (more ++ [(d, ⟨ver, e⟩)])).at r = σ.at r := by
  have hat : (σ.upd (more ++ [(d, ⟨ver, e⟩)])).at r = if r = d ∧ d < σ.length then ⟨ver, e⟩ else (σ.upd more).at r := by
    rw [upd_append, St.upd, St.upd, at_set, length_upd]
  rw [hat]
  by_cases hc : r = d ∧ d < σ.length
  · left; obtain ⟨rfl, h⟩ := hc; simp only [h, and_self, if_true]; exact hver
  · simp only [hc, if_false]
    have hn : r ≠ d ∨ σ.length ≤ d := by
      rcases Nat.decEq r d with h | h
      · exact .inl h
      · exact .inr (Nat.le_of_not_lt fun h2 => hc ⟨h, h2⟩)
    by_cases hm : r ∈ more.map (·.1)
    · rcases Nat.lt_or_ge r σ.length with hl | hl
      · obtain ⟨s, h1, h2⟩ := at_upd_mem more σ r hdis hm hl
        left; rw [h2]; exact (he r s h1).1
      · right; exact ⟨hn, by rw [at_ge hl, at_ge (by rw [length_upd]; exact hl)]⟩
    · right; exact ⟨hn, at_upd_not _ _ _ hm⟩
theorem Inv.refNew (I : Inv B M Z0 w0 σ a w Z F) {w' : World} {more : Upd} {d : Nat} {e : Ent} {V : Value} {ver : Nat} (hver : (σ.at d).ver < ver) (he : Eaten σ more) (hdis : distinct (more.map (·.1)) = true)
    (hw : Ext w w' (fun _ => False)) (hl : d < σ.length)
    (h : RefNew σ a w e V) : RefOK (σ.upd (more ++ [(d, ⟨ver, e⟩)])) (a.put (some d) V) w' d := by
  have hself := at_put_self (σ := σ) (more := more) (s := ⟨ver, e⟩) hl
  have htd : tm (a.put (some d) V) d = V := by rw [tm_put, I.len]; simp [hl]
  have hne : ∀ r, (r ≠ d ∨ σ.length ≤ d) → tm (a.put (some d) V) r = tm a r := fun r hr => by
    rw [tm_put, I.len]
    rcases hr with hr | hr
    · simp [hr]
    · omega
  have hfr : ∀ r, (∀ b, F r b → w'.heap[b]? = w.heap[b]?) := fun r b hb => hw.block b (I.lt_size hb) (fun h => h)
  unfold RefOK
  rw [hself]
  cases e <;> simp only [RefNew] at h ⊢
  case sref r v p win =>
    rcases ver_put (e := .sref r v p win) hver he hdis r with h1 | ⟨h0, h1⟩
    · exact ⟨by omega, fun e => by omega⟩
    · rw [h1, htd, hne r h0]
      exact ⟨h.1, fun e => (I.srefs (hfr r)).1 _ _ _ (h.2 e)⟩
  case pref r v p =>
    rcases ver_put (e := .pref r v p) hver he hdis r with h1 | ⟨h0, h1⟩
    · exact ⟨by omega, fun e => by omega⟩
    · rw [h1, htd, hne r h0]
      exact ⟨h.1, fun e => (I.srefs (hfr r)).2 _ _ (h.2 e)⟩
  case tref r v xs =>
    rcases ver_put (e := .tref r v xs) hver he hdis r with h1 | ⟨h0, h1⟩
    · exact ⟨by omega, fun e => by omega⟩
    · rw [h1, htd, hne r h0]
      exact h
  case fnl g f caps =>
    intro i r v hi
    obtain ⟨h3, h4⟩ := h i r v hi
    rcases ver_put (e := .fnl g f caps) hver he hdis r with h1 | ⟨h0, h1⟩
    · exact ⟨by omega, fun e => by omega⟩
    · rw [h1, htd, hne r h0]
      exact ⟨h3, h4⟩

/-- A result in a temporary: nothing that was there is written. -/
theorem ok_putN (I : Inv B M Z0 w0 σ a w Z F) {o : Oper} {w' : World} {more : Upd} {d : Nat} {e : Ent} {V : Value} {Fe : BSet} (hd : o.dst = some d)
    (hrun : (execOp a.eval o).run P w = .ok (.value V) w') (he : Eaten σ more) (hdis : distinct (more.map (·.1)) = true) (hdm : d ∉ more.map (·.1))
    (hw : Ext w w' (fun _ => False)) (N : BSet) (hN : ∀ b, N b → w.heap.size ≤ b ∧ b < w'.heap.size) (hent : EntOK w' (fun b => Z b ∨ Iced more F b ∨ N b) e V Fe)
    (hown : ∀ b, Fe b → Freed more F b ∨ (w.heap.size ≤ b ∧ b < w'.heap.size) ∧ ¬ N b)
    (href : RefNew σ a w e V) (Q : Exit → Act → World → Prop) :
    o.wp P a w (fun a' w' => Good B M Z0 w0 (σ.upd (more ++ [(d, ⟨(σ.at d).ver + 1, e⟩)])) a' w') Q := by
  refine wp_value hrun ?_
  rw [hd]
  exact I.give (Nat.lt_succ_self _) he hdis hdm (hw.mono fun b h => h.elim) N hN hent hown (fun hl => I.refNew (Nat.lt_succ_self _) he hdis hw hl href)
theorem ok_put (I : Inv B M Z0 w0 σ a w Z F) {o : Oper} {w' : World} {more : Upd} {d : Nat} {e : Ent} {V : Value} {Fe : BSet} (hd : o.dst = some d)
    (hrun : (execOp a.eval o).run P w = .ok (.value V) w') (he : Eaten σ more) (hdis : distinct (more.map (·.1)) = true) (hdm : d ∉ more.map (·.1))
    (hw : Ext w w' (fun _ => False)) (hent : EntOK w' (fun b => Z b ∨ Iced more F b) e V Fe)
    (hown : ∀ b, Fe b → Freed more F b ∨ w.heap.size ≤ b ∧ b < w'.heap.size)
    (href : RefNew σ a w e V) (Q : Exit → Act → World → Prop) :
    o.wp P a w (fun a' w' => Good B M Z0 w0 (σ.upd (more ++ [(d, ⟨(σ.at d).ver + 1, e⟩)])) a' w') Q := by
  refine ok_putN I hd hrun he hdis hdm hw (fun _ => False) (fun _ h => h.elim) ?_ (fun b hb => (hown b hb).imp id fun h => ⟨h, fun h => h⟩) href Q
  simpa using hent
/-- A result that is no borrow: what is freed may be written. -/
theorem ok_putM (I : Inv B M Z0 w0 σ a w Z F) {o : Oper} {w' : World} {more : Upd} {d : Nat} {e : Ent} {V : Value} {Fe : BSet} (hd : o.dst = some d)
    (hrun : (execOp a.eval o).run P w = .ok (.value V) w') (he : Eaten σ more) (hdis : distinct (more.map (·.1)) = true) (hdm : d ∉ more.map (·.1))
    (hw : Ext w w' (Freed more F)) (hent : EntOK w' (fun b => Z b ∨ Iced more F b) e V Fe)
    (hown : ∀ b, Fe b → Freed more F b ∨ w.heap.size ≤ b ∧ b < w'.heap.size)
    (hpl : e.plain = true) (Q : Exit → Act → World → Prop) :
    o.wp P a w (fun a' w' => Good B M Z0 w0 (σ.upd (more ++ [(d, ⟨(σ.at d).ver + 1, e⟩)])) a' w') Q := by
  refine wp_value hrun ?_
  rw [hd]
  exact I.give (Nat.lt_succ_self _) he hdis hdm hw (fun _ => False) (fun _ h => h.elim) (by simpa using hent) (fun b hb => (hown b hb).imp id fun h => ⟨h, fun h => h⟩) (fun hl => RefOK.ofPlain (by rw [at_put_self hl]; exact hpl))
theorem eaten_nil : Eaten σ [] := fun _ _ h => by cases h
theorem iced_nil : (fun b => Z b ∨ Iced [] F b) = Z := funext fun b => by simp [Iced]
theorem ok_plain (I : Inv B M Z0 w0 σ a w Z F) {o : Oper} {e : Ent} {V : Value} (hrun : (execOp a.eval o).run P w = .ok (.value V) w) (hent : EntOK w Z e V (fun _ => False)) (href : RefNew σ a w e V)
    {out : Out Upd} (h : (put o.dst e []).val σ = some out) {u : Upd} (hu : out.run = some u) (Q : Exit → Act → World → Prop) : o.wp P a w (fun a' w' => Good B M Z0 w0 (σ.upd u) a' w') Q := by
  obtain ⟨d, hd, rfl⟩ := put_val h
  simp only [Out.run, Option.some.injEq] at hu
  subst hu
  exact ok_put (Fe := fun _ => False) I hd hrun eaten_nil rfl (by simp) (Ext.refl _ _) (by rw [iced_nil]; exact hent) (fun b h => h.elim) href Q
theorem ok_if (I : Inv B M Z0 w0 σ a w Z F) {o : Oper} {e : Ent} {V : Value} {b : Bool} (hrun : b = true → (execOp a.eval o).run P w = .ok (.value V) w) (hent : b = true → EntOK w Z e V (fun _ => False)) (href : b = true → RefNew σ a w e V)
    {out : Out Upd} (h : (putIf o.dst b e).val σ = some out) {u : Upd} (hu : out.run = some u) (Q : Exit → Act → World → Prop) : o.wp P a w (fun a' w' => Good B M Z0 w0 (σ.upd u) a' w') Q := by
  obtain ⟨d, hd, rfl⟩ := putIf_val h
  obtain ⟨hb, rfl⟩ := run_br hu
  exact ok_put (Fe := fun _ => False) I hd (hrun hb) eaten_nil rfl (by simp) (Ext.refl _ _) (by rw [iced_nil]; exact hent hb) (fun b h => h.elim) (href hb) Q
/-- A borrow is copied. -/
theorem Inv.refCopy (I : Inv B M Z0 w0 σ a w Z F) (r : Nat) : RefNew σ a w (σ.at r).e (tm a r) := by
  have h := I.ref r
  unfold RefOK at h
  generalize (σ.at r).e = e at h
  cases e <;> first | trivial | exact h
theorem refNew_val {t : Ty} {q : Ow} {x : t.den} {V : Value} : RefNew σ a w (.val t q x) V := trivial
theorem ok_val (I : Inv B M Z0 w0 σ a w Z F) {o : Oper} {t : Ty} {x : t.den} {V : Value} (hrun : (execOp a.eval o).run P w = .ok (.value V) w) (hent : VRep w Z t .fr x V (fun _ => False))
    {out : Out Upd} (h : (put o.dst (.val t .fr x) []).val σ = some out) {u : Upd} (hu : out.run = some u) (Q : Exit → Act → World → Prop) : o.wp P a w (fun a' w' => Good B M Z0 w0 (σ.upd u) a' w') Q :=
  ok_plain (e := .val t .fr x) I hrun hent trivial h hu Q
theorem ok_valIf (I : Inv B M Z0 w0 σ a w Z F) {o : Oper} {t : Ty} {x : t.den} {V : Value} {b : Bool} (hrun : b = true → (execOp a.eval o).run P w = .ok (.value V) w) (hent : b = true → VRep w Z t .fr x V (fun _ => False))
    {out : Out Upd} (h : (putIf o.dst b (.val t .fr x)).val σ = some out) {u : Upd} (hu : out.run = some u) (Q : Exit → Act → World → Prop) : o.wp P a w (fun a' w' => Good B M Z0 w0 (σ.upd u) a' w') Q :=
  ok_if (e := .val t .fr x) I hrun hent (fun _ => trivial) h hu Q
theorem eagg {t : Ty} {x : t.den} {V : Value} {Fo : BSet} (h : VRep w Z t .fr x V Fo) (ht : t.isAgg = true) : ∃ cs, V = .agg cs ∧ Rep w Z t .fr x cs.toList (fun _ => False) := by
  obtain ⟨cs, rfl⟩ := h.2.1 ht
  exact ⟨cs, rfl, (h.toFr rfl).1⟩
end
end Go.K

/- K, part I: each plain operation. -/
set_option linter.unusedVariables false
set_option linter.unusedSimpArgs false
namespace Go.K
variable [drI : Dr]
section
variable {P : Program} {X : FC} {B : Nat} {M Z0 : BSet} {w0 : World} {σ : St} {a : Act} {w : World} {Z : BSet} {F : Nat → BSet}

theorem run_move {o : Oper} {x : Operand} (ho : o.op = .move x) : (execOp a.eval o).run P w = .ok (.value (a.eval x)) w := by unfold execOp; rw [ho]; rfl
theorem run_assign {o : Oper} {x : Operand} (ho : o.op = .assign x) : (execOp a.eval o).run P w = .ok (.value (a.eval x)) w := by unfold execOp; rw [ho]; rfl

theorem ok_const (I : Inv B M Z0 w0 σ a w Z F) {o : Oper} {x : Operand} (hrun : (execOp a.eval o).run P w = .ok (.value (a.eval x)) w) (hx : ∀ t, x ≠ .tmp t) {C : Ctx} {T : Nat} {h : Ow} :
    OpOK P B M Z0 w0 σ a w o ((opd C T h x).bind fun e => put o.dst e []) := by
  intro out hv u hu Q
  obtain ⟨e, h1, h2⟩ := Rd.bind_some hv
  rcases opd_ok I h1 with ⟨t, rfl, _⟩ | ⟨_, h3, h4⟩
  · exact absurd rfl (hx t)
  · refine ok_plain I hrun h3 ?_ h2 hu Q
    rcases h4 with ⟨t, q, x, rfl, _⟩ | ⟨f, _, rfl⟩
    · trivial
    · intro i r v hi; simp at hi

/-- A pointer that is owned is borrowed. -/
theorem ok_borrow (I : Inv B M Z0 w0 σ a w Z F) {o : Oper} {r : Nat} {t' : Ty} {q' : Ow} {y : t'.den} (hee : (σ.at r).e = .val (.ptr t') (.own q') y) (hrun : (execOp a.eval o).run P w = .ok (.value (tm a r)) w)
    {out : Out Upd} (hv : (put o.dst (.pref r (σ.at r).ver []) []).val σ = some out) {u : Upd} (hu : out.run = some u) (Q : Exit → Act → World → Prop) : o.wp P a w (fun a' w' => Good B M Z0 w0 (σ.upd u) a' w') Q := by
  have he := I.ent r
  rw [hee] at he
  refine ok_plain I hrun (e := .pref r (σ.at r).ver []) (fun _ h => h) ⟨Nat.le_refl _, fun _ => ⟨fun c hc' => ?_, fun g f c hf => ?_⟩⟩ hv hu Q
  · rw [hee] at hc'
    simp only [Ent.content, Option.some.injEq] at hc'
    subst hc'
    have h1 := he.1
    rw [he.scalar rfl] at h1
    obtain ⟨g, cur, T0, Fe, hV, _⟩ := h1
    simp only [List.cons.injEq, and_true] at hV
    refine ⟨trivial, ⟨_, rfl⟩, g, 0, ?_, hV⟩
    rw [hV]; rfl
  · rfl
theorem ArgsRep.hide {w : World} {Z : BSet} : ∀ {xs : List Arg} {vs : List Value} {Fo : BSet}, ArgsRep w Z xs vs Fo → ArgsRep w Z (xs.map hideArg) vs (fun _ => False)
  | [], vs, Fo, h => ⟨h.1, fun _ h => h⟩
  | x :: xs, vs, Fo, ⟨V, Vs, F1, F2, e, h1, h2, j⟩ => by
    refine ⟨V, Vs, fun _ => False, fun _ => False, e, ?_, h2.hide, fun b => by simp, fun b h => h.elim⟩
    cases x with
    | v t q y =>
      simp only [hideArg]
      split
      · rename_i hq
        have h3 : VRep w Z t q y V F1 := h1
        have h4 := h3.1
        have h5 := (h4.e0 hq).eq
        subst h5
        exact h3
      · exact fun _ h => h
    | _ => exact fun _ h => h
theorem move_ok (I : Inv B M Z0 w0 σ a w Z F) {C : Ctx} {o : Oper} {T : Nat} {x : Operand} (ho : o.op = .move x) : OpOK P B M Z0 w0 σ a w o (opMove C o.dst T x) := by
  cases x with
  | tmp r =>
    intro out hv u hu Q
    simp only [opMove, Rd.val] at hv
    have he := I.ent r
    have hc := I.refCopy r
    have hrun := run_move (P := P) (a := a) (w := w) ho
    generalize hee : (σ.at r).e = e at hv he hc
    cases e with
    | val t q y =>
      simp only at hv
      split at hv
      · rename_i hq
        exact ok_plain (e := .val t .fr y) I hrun (VRep.toFr hq he) trivial hv hu Q
      · cases t with
        | sl T' e' =>
          cases q with
          | own q' =>
            refine ok_plain I hrun (e := .sref r (σ.at r).ver [] none) (fun _ h => h) ⟨Nat.le_refl _, fun _ => ?_⟩ hv hu Q
            intro c hc'
            rw [hee] at hc'
            simp only [Ent.content, Option.some.injEq] at hc'
            subst hc'
            refine ⟨trivial, T', e', q', y, rootLoc (tm a r), tm a r, rfl, rfl, ?_, rfl⟩
            have h1 := he.1
            rw [he.scalar rfl] at h1
            obtain ⟨V, cells, Fe, hV, ho', _⟩ := h1
            simp only [List.cons.injEq, and_true] at hV
            rw [hV]
            rcases ho'.2 with ⟨rfl, _⟩ | ⟨g, cap, cur, rfl, _⟩ <;> rfl
          | _ => cases hv
        | ptr t' =>
          cases q with
          | own q' =>
            refine ok_plain I hrun (e := .pref r (σ.at r).ver []) (fun _ h => h) ⟨Nat.le_refl _, fun _ => ⟨fun c hc' => ?_, fun g f c hf => ?_⟩⟩ hv hu Q
            · rw [hee] at hc'
              simp only [Ent.content, Option.some.injEq] at hc'
              subst hc'
              have h1 := he.1
              rw [he.scalar rfl] at h1
              obtain ⟨g, cur, T0, Fe, hV, _⟩ := h1
              simp only [List.cons.injEq, and_true] at hV
              refine ⟨trivial, ⟨_, rfl⟩, g, 0, ?_, hV⟩
              rw [hV]; rfl
            · rfl
          | _ => cases hv
        | mp kt vt =>
          cases q with
          | own q' => exact ok_plain I hrun (e := .tref r (σ.at r).ver []) ⟨fun _ h => h, .inl rfl⟩ ⟨Nat.le_refl _, fun _ => rfl⟩ hv hu Q
          | _ => cases hv
        | _ => cases hv
    | fbox g f c =>
      refine ok_plain I hrun (e := .pref r (σ.at r).ver []) (fun _ h => h) ⟨Nat.le_refl _, fun _ => ⟨fun c hc' => ?_, fun g f c hf => ?_⟩⟩ hv hu Q
      · rw [hee] at hc'; cases hc'
      · rfl
    | sref r' v p win => exact ok_plain I hrun (e := .sref r' v p win) (fun _ h => h) hc hv hu Q
    | pref r' v p => exact ok_plain I hrun (e := .pref r' v p) (fun _ h => h) hc hv hu Q
    | fnl g f c =>
      obtain ⟨h0, h1⟩ := he
      exact ok_plain I hrun (e := .fnl g f c) ⟨fun _ h => h, h1⟩ hc hv hu Q
    | pfn g f c => exact ok_plain I hrun (e := .pfn g f c) ⟨he.1, fun _ h => h⟩ trivial hv hu Q
    | un => cases hv
    | tref r' v xs => cases hv
    | undf => cases hv
    | tup xs =>
      simp only at hv
      split at hv
      · cases hv
      split at hv
      · refine ok_plain I hrun (e := .tref r (σ.at r).ver (xs.map hideArg)) ?_ ⟨Nat.le_refl _, fun _ => rfl⟩ hv hu Q
        obtain ⟨vs, e1, e2⟩ := he
        exact ⟨fun _ h => h, .inr ⟨vs, e1, e2.hide⟩⟩
      · rename_i hdr _
        obtain ⟨d, hd, rfl⟩ := put_val hv
        simp only [Out.run, Option.some.injEq] at hu
        subst hu
        have hne : r ≠ d := fun e => hdr (by rw [hd, e])
        refine ok_put (Fe := F r) (e := .tup xs) I hd hrun ?_ rfl (by simpa using fun h : d = r => hne h.symm) (Ext.refl _ _) ?_ ?_ trivial Q
        · intro r' s h
          simp only [List.mem_singleton, Prod.mk.injEq] at h
          obtain ⟨rfl, rfl⟩ := h
          exact ⟨Nat.lt_succ_self _, .inl rfl⟩
        · exact EntOK.frame (e := .tup xs) (fun b hb => ⟨.inl hb, rfl⟩) (fun _ _ => rfl) he
        · intro b hb
          exact .inl ⟨r, _, List.mem_singleton.2 rfl, rfl, hb⟩
  | const v => exact ok_const (C := C) (T := T) (h := C.hint (o.dst.getD 0)) I (run_move ho) (by simp)
  | func f => exact ok_const (C := C) (T := T) (h := C.hint (o.dst.getD 0)) I (run_move ho) (by simp)
  | global g => exact ok_const (C := C) (T := T) (h := C.hint (o.dst.getD 0)) I (run_move ho) (by simp)

theorem assign_ok (I : Inv B M Z0 w0 σ a w Z F) {C : Ctx} {o : Oper} {T : Nat} {x : Operand} (ho : o.op = .assign x) : OpOK P B M Z0 w0 σ a w o (opAssign C o.dst T x) := by
  cases x with
  | tmp r =>
    intro out hv u hu Q
    simp only [opAssign, Rd.val] at hv
    have he := I.ent r
    have hc := I.refCopy r
    have hrun := run_assign (P := P) (a := a) (w := w) ho
    generalize hee : (σ.at r).e = e at hv he hc
    cases e with
    | val t q y =>
      simp only at hv
      split at hv
      · rename_i hq
        exact ok_plain (e := .val t .fr y) I hrun (VRep.toFr hq he) trivial hv hu Q
      split at hv
      · split at hv
        · exact ok_borrow I hee hrun hv hu Q
        · cases hv
      · split at hv
        · cases hv
        · rename_i hdr
          obtain ⟨d, hd, rfl⟩ := put_val hv
          simp only [Out.run, Option.some.injEq] at hu
          subst hu
          have hne : r ≠ d := fun e => hdr (by rw [hd, e])
          refine ok_put (Fe := F r) (e := .val t q y) I hd hrun ?_ rfl (by simpa using fun h : d = r => hne h.symm) (Ext.refl _ _) ?_ ?_ trivial Q
          · intro r' s h
            simp only [List.mem_singleton, Prod.mk.injEq] at h
            obtain ⟨rfl, rfl⟩ := h
            exact ⟨Nat.lt_succ_self _, .inl rfl⟩
          · exact VRep.frame (fun b hb => ⟨.inl hb, rfl⟩) (fun _ _ => rfl) he
          · intro b hb
            exact .inl ⟨r, _, List.mem_singleton.2 rfl, rfl, hb⟩
    | fbox g f c => cases hv
    | sref r' v p win => exact ok_plain I hrun (e := .sref r' v p win) (fun _ h => h) hc hv hu Q
    | pref r' v p => exact ok_plain I hrun (e := .pref r' v p) (fun _ h => h) hc hv hu Q
    | fnl g f c =>
      obtain ⟨h0, h1⟩ := he
      exact ok_plain I hrun (e := .fnl g f c) ⟨fun _ h => h, h1⟩ hc hv hu Q
    | pfn g f c => exact ok_plain I hrun (e := .pfn g f c) ⟨he.1, fun _ h => h⟩ trivial hv hu Q
    | un => cases hv
    | tref r' v xs => cases hv
    | undf => cases hv
    | tup xs => cases hv
  | const v =>
    simp only [opAssign]
    by_cases hd : dull v = true
    · simp only [hd, if_true]
      intro out hv u hu Q
      exact ok_plain (e := .un) I (run_assign (P := P) (a := a) (w := w) ho) (fun _ h => h) trivial hv hu Q
    · simp only [hd, if_false]
      exact ok_const (C := C) (T := T) (h := C.hint (o.dst.getD 0)) I (run_assign ho) (by simp)
  | func f => exact ok_const (C := C) (T := T) (h := C.hint (o.dst.getD 0)) I (run_assign ho) (by simp)
  | global g => exact ok_const (C := C) (T := T) (h := C.hint (o.dst.getD 0)) I (run_assign ho) (by simp)

theorem pick_ok (I : Inv B M Z0 w0 σ a w Z F) {C : Ctx} {o : Oper} {T : Nat} {c x y : Operand} (ho : o.op = .pick c x y) : OpOK P B M Z0 w0 σ a w o (opPick C o.dst T c x y) := by
  intro out hv u hu Q
  obtain ⟨ec, h1, hv⟩ := Rd.bind_some hv
  split at hv
  · rename_i t
    obtain ⟨ea, h2, hv⟩ := Rd.bind_some hv
    obtain ⟨eb, h3, hv⟩ := Rd.bind_some hv
    split at hv
    · rename_i d hd
      simp only [Rd.val, Option.some.injEq] at hv
      obtain ⟨Fo, h4⟩ := opd_val I h1
      have hc := h4.bool (by simp)
      have hrun : (execOp a.eval o).run P w = .ok (.value (if t then a.eval x else a.eval y)) w := by
        unfold execOp; rw [ho]; simp only [hc]; cases t <;> rfl
      have key : ∀ (z : Operand) (e e' : Ent), (opd C T .fr z).val σ = some e → pickEnt e = some e' → (execOp a.eval o).run P w = .ok (.value (a.eval z)) w →
          u = [(d, ⟨(σ.at d).ver + 1, e'⟩)] → o.wp P a w (fun a' w' => Good B M Z0 w0 (σ.upd u) a' w') Q := by
        intro z e e' h5 h6 h7 h8
        unfold pickEnt at h6
        split at h6
        · rename_i ty q yv
          split at h6
          · rename_i hq
            simp only [Option.some.injEq] at h6
            subst h6
            obtain ⟨Fo', h9⟩ := opd_val I h5
            subst h8
            exact ok_put (Fe := fun _ => False) (e := .val ty .fr yv) I (more := []) hd h7 eaten_nil rfl (by simp) (Ext.refl _ _) (by rw [iced_nil]; exact VRep.toFr hq h9) (fun b h => h.elim) trivial Q
          · cases h6
        · cases h6
      cases t with
      | true =>
        simp only at hv
        split at hv
        · rename_i e' he'
          subst hv
          simp only [Out.run, Option.some.injEq] at hu
          exact key x ea e' h2 he' (by simpa using hrun) hu.symm
        · subst hv; cases hu
      | false =>
        simp only at hv
        split at hv
        · rename_i e' he'
          subst hv
          simp only [Out.run, Option.some.injEq] at hu
          exact key y eb e' h3 he' (by simpa using hrun) hu.symm
        · subst hv; cases hu
    · cases hv
  · cases hv

theorem asIntOf_run {x : Operand} {k : IntKind} {n : Int} (h : a.eval x = .int k n) : (asIntOf (a.eval x)).run P w = .ok (k, n) w := by rw [h]; rfl

theorem minmax_ok (I : Inv B M Z0 w0 σ a w Z F) {C : Ctx} {o : Oper} {c : Call} (ho : o.op = .call c) (f : Int → Int → Int)
    (hc : (c.callee = .builtin .min ∧ f = fun a b => if b < a then b else a) ∨ (c.callee = .builtin .max ∧ f = fun a b => if b > a then b else a)) :
    OpOK P B M Z0 w0 σ a w o (opMinMax C o.dst c.args.toList f) := by
  intro out hv u hu Q
  unfold opMinMax at hv
  split at hv
  · rename_i x y hxy
    obtain ⟨ex, h1, hv⟩ := Rd.bind_some hv
    obtain ⟨ey, h2, hv⟩ := Rd.bind_some hv
    cases ex with
    | val t1 q1 m =>
      cases t1 with
      | int k =>
        cases q1 with
        | fr =>
          cases ey with
          | val t2 q2 n =>
            cases t2 with
            | int k' =>
              cases q2 with
              | fr =>
                simp only at hv
                split at hv
                · rename_i hk
                  subst hk
                  obtain ⟨F1, h3⟩ := opd_val I h1
                  obtain ⟨F2, h4⟩ := opd_val I h2
                  have e1 := h3.int (by simp)
                  have e2 := h4.int (by simp)
                  have hargs : c.args = #[x, y] := by rw [← Array.toArray_toList (xs := c.args), hxy]
                  refine ok_val I (V := .int k (f m n)) ?_ (VRep.ofInt k _) hv hu Q
                  unfold execOp
                  rw [ho]
                  rcases hc with ⟨hc, rfl⟩ | ⟨hc, rfl⟩
                  · simp only [resolve, hc, hargs]
                    simp [bind, Sem.bind, pure, Sem.run, invoke, builtin, Builtin.min_, Builtin.min2, e1, e2]
                  · simp only [resolve, hc, hargs]
                    simp [bind, Sem.bind, pure, Sem.run, invoke, builtin, Builtin.max_, Builtin.max2, e1, e2]
                · cases hv
              | _ => cases hv
            | _ => cases hv
          | _ => cases hv
        | _ => cases hv
      | _ => cases hv
    | _ => cases hv
  · cases hv

theorem un_ok (I : Inv B M Z0 w0 σ a w Z F) {C : Ctx} {o : Oper} {op : UnOp} {T : Nat} {x : Operand} (ho : o.op = .unOp op T x) : OpOK P B M Z0 w0 σ a w o (opUn C o.dst op T x) := by
  intro out hv u hu Q
  obtain ⟨ex, h1, hv⟩ := Rd.bind_some hv
  cases ex with
  | val t q y =>
    cases q with
    | fr =>
      obtain ⟨F1, h3⟩ := opd_val I h1
      cases t with
      | int k =>
        cases op with
        | neg =>
          have e1 := h3.int (by simp)
          refine ok_val I (V := .int k (k.wrap (0 - y))) ?_ (VRep.ofInt k _) hv hu Q
          unfold execOp
          rw [ho]
          simp [bind, Sem.bind, pure, Sem.run, Op.unary, Op.intArith, e1]
        | _ => cases hv
      | bool =>
        cases op with
        | not =>
          have e1 := h3.bool (by simp)
          refine ok_val I (V := .bool (!y)) ?_ (VRep.ofBool _) hv hu Q
          unfold execOp
          rw [ho]
          simp [bind, Sem.bind, pure, Sem.run, Op.unary, e1]
        | _ => cases hv
      | _ => cases hv
    | _ => cases hv
  | _ => cases hv

theorem eqGuard_int {op : BinOp} {T : Nat} {x y : Operand} {k k' : IntKind} {m n : Int} : (eqGuard op T x y (.int k m) (.int k' n)).run P w = .ok () w := by
  unfold eqGuard; split <;> rfl
theorem eqGuard_str {op : BinOp} {T : Nat} {x y : Operand} {m n : ByteArray} : (eqGuard op T x y (.string m) (.string n)).run P w = .ok () w := by
  unfold eqGuard; split <;> rfl
theorem eqGuard_bool {op : BinOp} {T : Nat} {x y : Operand} {m n : Bool} : (eqGuard op T x y (.bool m) (.bool n)).run P w = .ok () w := by
  unfold eqGuard; split <;> rfl
theorem run_then {α β : Type} {s : Sem α} {f : α → Sem β} {x : α} (h : s.run P w = .ok x w) : (s.bind f).run P w = (f x).run P w := by
  show (s >>= f).run P w = _
  rw [Sem.run_bind, h]; rfl
theorem bin_run {o : Oper} {op : BinOp} {T T2 : Nat} {x y : Operand} {V : Value} (ho : o.op = .binOp op T x y T2) (hg : (eqGuard op T x y (a.eval x) (a.eval y)).run P w = .ok () w)
    (h : (binOp op T (a.eval x) (a.eval y)).run P w = .ok V w) : (execOp a.eval o).run P w = .ok (.value V) w := by
  unfold execOp
  rw [ho]
  simp only [bind]
  rw [run_then (x := V)]
  · rfl
  · rw [run_then hg]; exact h
theorem kInt_ok {op : BinOp} {T : Nat} {k : IntKind} {m n : Int} {r : Res1} (hop : ¬ (op = .shl ∨ op = .shr)) (h : kInt op k m n = r) :
    match r with
    | none => True
    | some (c, tv) => (c.getD true = true → ∃ V, (binOp op T (.int k m) (.int k n)).run P w = .ok V w ∧ VRep w Z tv.t .fr tv.x V (fun _ => False)) := by
  subst h
  cases op <;> simp only [kInt] <;> try trivial
  all_goals (try (intro _; refine ⟨_, ?_, VRep.ofInt _ _⟩; simp [binOp, Op.intArith, Op.intBits, pure, Sem.run]; done))
  all_goals (try (intro _; refine ⟨_, ?_, VRep.ofBool _⟩; simp [binOp, Op.intCmp, pure, Sem.run]; done))
  · intro hn
    have hn' : n ≠ 0 := by simpa using hn
    refine ⟨_, ?_, VRep.ofInt _ _⟩
    simp [binOp, Op.intDiv, hn', pure, Sem.run]
  · intro hn
    have hn' : n ≠ 0 := by simpa using hn
    refine ⟨_, ?_, VRep.ofInt _ _⟩
    simp [binOp, Op.intDiv, hn', pure, Sem.run]
theorem kShift_ok {op : BinOp} {T : Nat} {k k' : IntKind} {m n : Int} {c : Option Bool} {tv : TV} (h : kShift op k m n = some (c, tv)) (hc : c.getD true = true) :
    ∃ V, (binOp op T (.int k m) (.int k' n)).run P w = .ok V w ∧ VRep w Z tv.t .fr tv.x V (fun _ => False) := by
  cases op <;> simp only [kShift, Option.some.injEq, Prod.mk.injEq] at h <;> try (cases h; done)
  all_goals
    obtain ⟨rfl, rfl⟩ := h
    have hn : ¬ n < 0 := by simp at hc; omega
    refine ⟨_, ?_, VRep.ofInt _ _⟩
    simp [binOp, Op.shift, hn, pure, Sem.run]
theorem bytesLt_eq : ∀ x y : List UInt8, bytesLt x y = Op.bytesLess x y
  | _, [] => by unfold bytesLt Op.bytesLess; cases ‹List UInt8› <;> rfl
  | [], _ :: _ => rfl
  | a :: x, b :: y => by simp only [bytesLt, Op.bytesLess, bytesLt_eq x y]
theorem toList_mk (x : List UInt8) : (ByteArray.mk x.toArray).toList = x := by simp
theorem kStr_ok {op : BinOp} {T : Nat} {x y : List UInt8} {c : Option Bool} {tv : TV} (h : kStr op x y = some (c, tv)) (hc : c.getD true = true) :
    ∃ V, (binOp op T (.string ⟨x.toArray⟩) (.string ⟨y.toArray⟩)).run P w = .ok V w ∧ VRep w Z tv.t .fr tv.x V (fun _ => False) := by
  cases op <;> simp only [kStr, Option.some.injEq, Prod.mk.injEq] at h <;> try (cases h; done)
  case add =>
    obtain ⟨rfl, rfl⟩ := h
    simp only [Option.getD_some, decide_eq_true_eq] at hc
    refine ⟨.string ⟨(x ++ y).toArray⟩, ?_, VRep.ofStr _⟩
    have hs : ¬ (((ByteArray.mk x.toArray).size + (ByteArray.mk y.toArray).size : Nat) : Int) > IntKind.i64.max := by
      have h1 : (ByteArray.mk x.toArray).size = x.length := by simp [ByteArray.size]
      have h2 : (ByteArray.mk y.toArray).size = y.length := by simp [ByteArray.size]
      rw [h1, h2]
      have : IntKind.i64.max = 9223372036854775807 := by decide
      rw [this]; omega
    have hcat : (ByteArray.mk x.toArray) ++ (ByteArray.mk y.toArray) = ByteArray.mk (x ++ y).toArray := by
      apply ByteArray.ext; simp
    simp only [binOp, Op.stringOp, hs, if_false, hcat]
    rfl
  all_goals
    obtain ⟨rfl, rfl⟩ := h
    refine ⟨_, ?_, VRep.ofBool _⟩
    simp only [binOp, Op.stringOp, toList_mk, bytesLt_eq]
    rfl
end
end Go.K

/- K, part J: operations that look types up; reads of frozen things. -/
set_option linter.unusedVariables false
set_option linter.unusedSimpArgs false
namespace Go.K
variable [drI : Dr]
section
variable {P : Program} {X : FC} {B : Nat} {M Z0 : BSet} {w0 : World} {σ : St} {a : Act} {w : World} {Z : BSet} {F : Nat → BSet}

theorem CtxOK.size (K : CtxOK P X) {T : Nat} {t : Ty} (h : X.C.ty T = some t) : ∃ i, P.info? T = some i ∧ i.size = t.cells ∧
    (t.hasZero = true → ∃ z, i.zero = some z ∧ cellsEq z.cells.toList (zcells t) = true ∧ ((match z with | .agg _ => true | _ => false) = t.isAgg)) := by
  have h1 := K.ty T t h
  unfold tyChk at h1
  simp only [Bool.and_eq_true] at h1
  have h2 := h1.1
  split at h2
  · rename_i i hi
    simp only [Bool.and_eq_true, beq_iff_eq, Bool.or_eq_true, Bool.not_eq_true'] at h2
    refine ⟨i, hi, h2.1, fun hz => ?_⟩
    rcases h2.2 with h3 | h3
    · rw [hz] at h3; cases h3
    · split at h3
      · rename_i z hz'
        simp only [Bool.and_eq_true, beq_iff_eq] at h3
        exact ⟨z, hz', h3.1, h3.2⟩
      · cases h3
  · cases h2
theorem CtxOK.under (K : CtxOK P X) {T : Nat} {t : Ty} (h : X.C.ty T = some t) : match t with
    | .int k => P.underlying T = some (.int k)
    | .bool => P.underlying T = some .bool
    | .str => P.underlying T = some .string
    | .pair a b => ∃ fs, P.underlying T = some (.struct fs) ∧ fieldsOK X.C.ty fs.toList (.pair a b) 0 = true ∧ P.stoodInHeld T = false ∧ P.eqGuardType P.depth T = false
    | .unit => ∃ fs, P.underlying T = some (.struct fs)
    | .sl Te e => P.underlying T = some (.slice Te) ∧ X.C.ty Te = some e ∧ 0 < e.cells
    | .ptr t => ∃ e, P.underlying T = some (.pointer e)
    | .arr n e => ∃ Te, P.underlying T = some (.array n Te) ∧ X.C.ty Te = some e
    | .mp k v => ∃ Tk Tv, P.underlying T = some (.map Tk Tv) ∧ X.C.ty Tk = some k ∧ X.C.ty Tv = some v := by
  have h1 := K.ty T t h
  unfold tyChk at h1
  simp only [Bool.and_eq_true] at h1
  have h2 := h1.2
  cases t with
  | int k =>
    generalize P.underlying T = u at h2
    cases u with
    | none => cases h2
    | some d => cases d <;> simp_all
  | bool =>
    generalize P.underlying T = u at h2
    cases u with
    | none => cases h2
    | some d => cases d <;> simp_all
  | str =>
    generalize P.underlying T = u at h2
    cases u with
    | none => cases h2
    | some d => cases d <;> simp_all
  | unit =>
    generalize P.underlying T = u at h2
    cases u with
    | none => cases h2
    | some d => cases d <;> simp_all
  | pair a b =>
    generalize P.underlying T = u at h2
    cases u with
    | none => cases h2
    | some d => cases d <;> simp_all
  | sl Te e =>
    generalize P.underlying T = u at h2
    cases u with
    | none => cases h2
    | some d =>
      cases d <;> simp_all
      rw [← h2.1.1]; exact h2.1.2
  | ptr t =>
    generalize P.underlying T = u at h2
    cases u with
    | none => cases h2
    | some d => cases d <;> simp_all
  | arr n e =>
    generalize P.underlying T = u at h2
    cases u with
    | none => cases h2
    | some d =>
      cases d <;> simp_all
  | mp k v =>
    generalize P.underlying T = u at h2
    cases u with
    | none => cases h2
    | some d =>
      cases d with
      | map Tk Tv =>
        simp only [Bool.and_eq_true, beq_iff_eq] at h2
        exact ⟨Tk, Tv, rfl, h2.1, h2.2⟩
      | _ => cases h2
theorem CtxOK.arrGuard (K : CtxOK P X) {T n : Nat} {e : Ty} (h : X.C.ty T = some (.arr n e)) : P.eqGuardType P.depth T = false := by
  have h1 := K.ty T _ h
  unfold tyChk at h1
  simp only [Bool.and_eq_true] at h1
  have h2 := h1.2
  generalize P.underlying T = u at h2
  cases u with
  | none => cases h2
  | some d => cases d <;> simp_all
theorem CtxOK.isAgg (K : CtxOK P X) {T : Nat} {t : Ty} (h : X.C.ty T = some t) : (isAgg T).run P w = .ok t.isAgg w := by
  have h1 := K.under h
  cases t with
  | int k => unfold Go.isAgg; rw [Sem.run_bind, run_underlying h1]; rfl
  | bool => unfold Go.isAgg; rw [Sem.run_bind, run_underlying h1]; rfl
  | str => unfold Go.isAgg; rw [Sem.run_bind, run_underlying h1]; rfl
  | unit => obtain ⟨fs, h1⟩ := h1; unfold Go.isAgg; rw [Sem.run_bind, run_underlying h1]; rfl
  | pair a b => obtain ⟨fs, h1, _⟩ := h1; unfold Go.isAgg; rw [Sem.run_bind, run_underlying h1]; rfl
  | sl Te e => unfold Go.isAgg; rw [Sem.run_bind, run_underlying h1.1]; rfl
  | ptr t => obtain ⟨e, h1⟩ := h1; unfold Go.isAgg; rw [Sem.run_bind, run_underlying h1]; rfl
  | arr n e => obtain ⟨e, h1, _⟩ := h1; unfold Go.isAgg; rw [Sem.run_bind, run_underlying h1]; rfl
  | mp k v => obtain ⟨_, _, h1, _⟩ := h1; unfold Go.isAgg; rw [Sem.run_bind, run_underlying h1]; rfl
theorem run_sizeOf' {T k : Nat} (h : ∃ i, P.info? T = some i ∧ i.size = k) : (sizeOf T).run P w = .ok k w := by
  obtain ⟨i, h1, h2⟩ := h
  unfold sizeOf; rw [Sem.run_bind, run_typeInfo w h1]; simp [Result.andThen, h2, pure, Sem.run]
theorem CtxOK.sizeOf (K : CtxOK P X) {T : Nat} {t : Ty} (h : X.C.ty T = some t) : (sizeOf T).run P w = .ok t.cells w := by
  obtain ⟨i, h1, h2, _⟩ := K.size h
  exact run_sizeOf' ⟨i, h1, h2⟩
theorem cells_one {t : Ty} (h : t.isAgg = false) : t.cells = 1 := by cases t <;> simp_all [Ty.isAgg, Ty.cells]
/-- A variable is read. -/
theorem CtxOK.loadVar (K : CtxOK P X) {T : Nat} {t : Ty} (h : X.C.ty T = some t) {ad : Addr} {cs : List Value} (hc : CellsAt w ad cs) {Z : BSet} {q : Ow} {x : t.den} {Fo : BSet} (hr : Rep w Z t q x cs Fo) :
    ∃ V, (loadVar T ad).run P w = .ok V w ∧ VRep w Z t q x V Fo ∧ (t.isAgg = false → cs = [V]) := by
  unfold Go.loadVar
  rw [Sem.run_bind, K.isAgg h]
  simp only [Result.andThen]
  have hl := hr.length
  cases hagg : t.isAgg with
  | true =>
    refine ⟨.agg cs.toArray, ?_, ⟨by simpa [Value.cells] using hr, by simp [hagg]⟩, by simp⟩
    simp only [if_true]
    rw [Sem.run_bind, K.sizeOf h]
    simp only [Result.andThen]
    rw [Sem.run_bind, ← hl, run_loadCells_list w ad cs (fun j v hj => hc j v hj)]
    rfl
  | false =>
    rw [cells_one hagg] at hl
    match cs, hl with
    | [V], _ =>
      have h0 := hc 0 V rfl
      rw [show ad.add 0 = ad by unfold Addr.add; rfl] at h0
      refine ⟨V, ?_, ?_, by simp⟩
      · simp only [Bool.false_eq_true, if_false]
        rw [Go.run_load, h0]
      · have h1 := hr.one V (by simp)
        refine .mk1 hagg ?_ hr
        rintro cs rfl
        exact absurd h1 (by simp [Value.oneCell'])

theorem VRep.slFr {T : Nat} {e : Ty} {xs : List e.den} {V : Value} {Fo : BSet} (h : VRep w Z (.sl T e) .fr xs V Fo) :
    ∃ A c cells, V = .slice A xs.length c ∧ xs.length ≤ c ∧ c ≤ maxLen ∧ (xs ≠ [] → ∃ ad, A = some ad ∧ ad.spot = none ∧ Z ad.block ∧ CellsAt w ad cells) ∧ ElemsRep (fun y => Rep w Z e .fr y) xs cells (fun _ => False) := by
  have h1 := h.1
  rw [h.scalar rfl] at h1
  obtain ⟨A, c, cells, hV, _, h2, h3, h4, h5⟩ := h1
  exact ⟨A, c, cells, by simpa using hV, h2, h3, h4, h5⟩
theorem VRep.ptrFr {t : Ty} {x : t.den} {V : Value} {Fo : BSet} (h : VRep w Z (.ptr t) .fr x V Fo) :
    ∃ ad cells, V = .pointer (some ad) ∧ ad.spot = none ∧ Z ad.block ∧ CellsAt w ad cells ∧ Rep w Z t .fr x cells (fun _ => False) := by
  have h1 := h.1
  rw [h.scalar rfl] at h1
  obtain ⟨ad, cells, hV, _, h2, h3, h4, h5⟩ := h1
  exact ⟨ad, cells, by simpa using hV, h2, h3, h4, h5⟩
theorem VRep.ofPtr {t : Ty} {x : t.den} {ad : Addr} {cells : List Value} (h2 : ad.spot = none) (h3 : Z ad.block) (h4 : CellsAt w ad cells) (h5 : Rep w Z t .fr x cells (fun _ => False)) :
    VRep w Z (.ptr t) .fr x (.pointer (some ad)) (fun _ => False) := .mk1 rfl (by simp) ⟨ad, cells, rfl, fun _ h => h, h2, h3, h4, h5⟩
theorem run_str_len (s : List UInt8) : (ByteArray.mk s.toArray).size = s.length := by simp [ByteArray.size]

/-- The value of a slice operand that is read: the header and the length. -/
theorem rdSl_len (I : Inv B M Z0 w0 σ a w Z F) {V : Value} {e : Ent} {Fo : BSet} (he : EntOK w Z e V Fo) (hr : RefNew σ a w e V) {s : SlR} (h : (rdSl e).val σ = some s) :
    ∃ A c, V = .slice A s.xs.length c := by
  unfold rdSl at h
  split at h
  · rename_i T t q x
    have h0 := he.1
    rw [he.scalar rfl] at h0
    split at h
    · simp only [Rd.val, Option.some.injEq] at h
      subst h
      rename_i hq
      obtain ⟨A, c, cells, hV, _⟩ := (he.toFr hq).slFr
      exact ⟨A, c, hV⟩
    · split at h
      · rename_i q
        simp only [Rd.val, Option.some.injEq] at h
        subst h
        obtain ⟨V', cells, Fe, hV, ho, _⟩ := h0
        simp only [List.cons.injEq, and_true] at hV
        rw [hV]
        obtain ⟨A, c, hV', _⟩ := own_cells ho
        exact ⟨A, c, hV'⟩
      · cases h
  · rename_i r v p win
    obtain ⟨pl, h1, h2⟩ := Rd.bind_some h
    obtain ⟨root, tv⟩ := pl
    unfold place at h1
    simp only [Rd.val] at h1
    split at h1
    · rename_i c hc
      split at h1
      · rename_i hv
        split at h1
        · rename_i u hu
          simp only [Rd.val, Option.some.injEq, Prod.mk.injEq] at h1
          obtain ⟨_, rfl⟩ := h1
          obtain ⟨hp, T, te, q, xs, l, H, h3, h4, h5, h6⟩ := hr.2 hv c hc
          rw [hu] at h3
          simp only [Option.some.injEq] at h3
          subst h3
          simp only [Rd.val, Option.some.injEq] at h2
          subst h2
          obtain ⟨Fc, hR, hFc, hh⟩ := I.root hc
          obtain ⟨l', Fu, e1, hru, _⟩ := lens p hh hR hp hu
          rw [h4] at e1
          simp only [Option.some.injEq] at e1
          subst e1
          have hH : ∃ A c, H = .slice A xs.length c := by
            cases l with
            | mem b o =>
              obtain ⟨_, cs, hcs, V', cells, Fe, rfl, ho, _⟩ := hru
              have h7 := hcs 0 V' rfl
              simp only [Loc.header] at h5
              rw [show (⟨b, o, none⟩ : Addr).add 0 = ⟨b, o, none⟩ from rfl, h5] at h7
              simp only [Option.some.injEq] at h7
              subst h7
              obtain ⟨A, c, hV', _⟩ := own_cells ho
              exact ⟨A, c, hV'⟩
            | hdr V0 =>
              obtain ⟨V', cells, Fe, hV, ho, _⟩ := hru
              simp only [List.cons.injEq, and_true] at hV
              simp only [Loc.header, Option.some.injEq] at h5
              subst h5
              rw [hV]
              obtain ⟨A, c, hV', _⟩ := own_cells ho
              exact ⟨A, c, hV'⟩
          obtain ⟨A, c', rfl⟩ := hH
          cases win with
          | none => simp only [WinRep] at h6; subst h6; exact ⟨A, c', rfl⟩
          | some wn =>
            obtain ⟨lo, hi⟩ := wn
            obtain ⟨h7, h8, A1, m1, cap1, A', c1, h9, rfl, _⟩ := h6
            refine ⟨A', c1, ?_⟩
            have : (windowed xs (some (lo, hi))).length = hi - lo := by simp only [windowed, List.length_drop, List.length_take]; omega
            rw [this]
        · cases h1
      · cases h1
    · cases h1
  · cases h

theorem opd_ref (I : Inv B M Z0 w0 σ a w Z F) {C : Ctx} {T : Nat} {h : Ow} {x : Operand} {e : Ent} (he : (opd C T h x).val σ = some e) :
    ∃ Fo, EntOK w Z e (a.eval x) Fo ∧ RefNew σ a w e (a.eval x) := by
  rcases opd_ok I he with ⟨r, rfl, rfl, h1⟩ | ⟨_, h1, h2⟩
  · exact ⟨_, h1, I.refCopy r⟩
  · refine ⟨_, h1, ?_⟩
    rcases h2 with ⟨t, q, y, rfl, _⟩ | ⟨f, _, rfl⟩
    · trivial
    · intro i r v hi; simp at hi

theorem len_ok (K : CtxOK P X) (I : Inv B M Z0 w0 σ a w Z F) {o : Oper} {c : Call} {x : Operand} {T : Nat} (ho : o.op = .call c) (hc : c.callee = .builtin .len) (h1 : c.args.toList = [x]) (h2 : c.argTypes.toList = [T]) :
    OpOK P B M Z0 w0 σ a w o (opLen X.C o.dst T x) := by
  intro out hv u hu Q
  have hrun : ∀ n : Nat, (Builtin.len_ #[T] o.type #[a.eval x]).run P w = .ok (goInt n) w → (execOp a.eval o).run P w = .ok (.value (goInt n)) w := by
    intro n hl
    have e1 : c.args = #[x] := by rw [← Array.toArray_toList (xs := c.args), h1]
    have e2 : c.argTypes = #[T] := by rw [← Array.toArray_toList (xs := c.argTypes), h2]
    unfold execOp
    rw [ho]
    simp only [resolve, hc, e1, e2, List.map_toArray, List.map_cons, List.map_nil]
    show (Builtin.len_ #[T] o.type #[a.eval x] >>= fun v => pure (Next.value v)).run P w = _
    rw [Sem.run_bind, hl]; rfl
  obtain ⟨e, he, hv⟩ := Rd.bind_some hv
  obtain ⟨Fo, h3, h4⟩ := opd_ref I he
  have fin : ∀ n : Nat, (Builtin.len_ #[T] o.type #[a.eval x]).run P w = .ok (goInt n) w → (put o.dst (.val (.int .i64) .fr (n : Int)) []).val σ = some out →
      o.wp P a w (fun a' w' => Good B M Z0 w0 (σ.upd u) a' w') Q := fun n h5 h6 => ok_val I (hrun n h5) (VRep.ofInt _ _) h6 hu Q
  have sl : ∀ e', EntOK w Z e' (a.eval x) Fo → RefNew σ a w e' (a.eval x) → ((rdSl e').bind fun s => if X.C.ty T = some (.sl s.T s.e) then put o.dst (.val (.int .i64) .fr (s.xs.length : Int)) [] else .fail).val σ = some out →
      o.wp P a w (fun a' w' => Good B M Z0 w0 (σ.upd u) a' w') Q := by
    intro e' h5 h6 h7
    obtain ⟨s, h8, h9⟩ := Rd.bind_some h7
    split at h9
    · rename_i hT
      obtain ⟨A, c, hV⟩ := rdSl_len I h5 h6 h8
      refine fin _ ?_ h9
      unfold Builtin.len_
      simp only [List.getElem?_toArray, List.getElem?_cons_zero]
      rw [Sem.run_bind, run_underlying (K.under hT).1, hV]
      rfl
    · cases h9
  split at hv
  · rename_i s
    split at hv
    · rename_i hT
      refine fin _ ?_ hv
      unfold Builtin.len_
      simp only [List.getElem?_toArray, List.getElem?_cons_zero]
      rw [Sem.run_bind, run_underlying (K.under hT), VRep.str (by simp) h3]
      simp [Result.andThen, pure, Sem.run, ByteArray.size]
    · cases hv
  · rename_i m t xs
    split at hv
    · rename_i hT
      obtain ⟨Te, h5, _⟩ := K.under hT
      refine fin _ ?_ hv
      unfold Builtin.len_
      simp only [List.getElem?_toArray, List.getElem?_cons_zero]
      rw [Sem.run_bind, run_underlying h5]
      rfl
    · cases hv
  · exact sl _ h3 h4 hv

theorem conv_run {o : Oper} {S D : Nat} {x : Operand} {V : Value} {w' : World} (ho : o.op = .convert S D x) (h : (convert S D (a.eval x)).run P w = .ok V w') : (execOp a.eval o).run P w = .ok (.value V) w' := by
  unfold execOp
  rw [ho]
  show ((convert S D (a.eval x)).bind fun v => pure (Next.value v)).run P w = _
  show ((convert S D (a.eval x)) >>= fun v => pure (Next.value v)).run P w = _
  rw [Sem.run_bind, h]; rfl

theorem load_run {o : Oper} {T : Nat} {x : Operand} {ad : Addr} {V : Value} (ho : o.op = .load T x) (hx : a.eval x = .pointer (some ad)) (h : (loadVar T ad).run P w = .ok V w) : (execOp a.eval o).run P w = .ok (.value V) w := by
  unfold execOp
  rw [ho]
  show (Instr.loadAt T (a.eval x) >>= fun v => pure (Next.value v)).run P w = _
  unfold Instr.loadAt
  rw [hx, Sem.run_bind, Sem.run_bind]
  simp only [Instr.sureAddr, pure, Sem.run, Result.andThen, h]
theorem run_loadFn {T : Nat} {ps rs : Array TypeId} {v : Bool} (h : P.underlying T = some (.func ps rs v)) {ad : Addr} {V : Value} (hc : w.cell? ad = some V) : (loadVar T ad).run P w = .ok V w := by
  unfold Go.loadVar Go.isAgg
  rw [Sem.run_bind, Sem.run_bind, run_underlying h]
  simp only [Result.andThen, pure, Sem.run]
  simp [hc]
end
end Go.K

/- K, part L: places, loads, addresses. -/
set_option linter.unusedVariables false
set_option linter.unusedSimpArgs false
namespace Go.K
variable [drI : Dr]
section
variable {P : Program} {X : FC} {B : Nat} {M Z0 : BSet} {w0 : World} {σ : St} {a : Act} {w : World} {Z : BSet} {F : Nat → BSet}

theorem path_append : ∀ (p : List Step) {v u : TV} {s : Step}, v.path p = some u → v.path (p ++ [s]) = u.step s
  | [], v, u, s, h => by simp only [TV.path, Option.some.injEq] at h; subst h; simp only [List.nil_append, TV.path]; cases v.step s <;> rfl
  | t :: p, v, u, s, h => by
    simp only [TV.path, Option.bind_eq_some_iff] at h
    obtain ⟨c, hc, h⟩ := h
    simp only [List.cons_append, TV.path, hc, Option.bind_some]
    exact path_append p h
theorem pathOK_append : ∀ (p : List Step) {v u : TV} {s : Step}, v.path p = some u → PathOK v p → StepOK u s → PathOK v (p ++ [s])
  | [], v, u, s, h, _, h2 => by simp only [TV.path, Option.some.injEq] at h; subst h; exact ⟨h2, fun _ _ => trivial⟩
  | t :: p, v, u, s, h, h1, h2 => by
    simp only [TV.path, Option.bind_eq_some_iff] at h
    obtain ⟨c, hc, h⟩ := h
    refine ⟨h1.1, fun c' hc' => ?_⟩
    rw [hc] at hc'
    cases hc'
    exact pathOK_append p h (h1.2 c hc) h2
theorem pathLoc_append : ∀ (p : List Step) {v u c : TV} {l l' l2 : Loc} {s : Step}, v.path p = some u → pathLoc w v l p = some l' → u.step s = some c → stepLoc w u.t l' s = some l2 → pathLoc w v l (p ++ [s]) = some l2
  | [], v, u, c, l, l', l2, s, h, h1, h2, h3 => by
    simp only [TV.path, Option.some.injEq] at h
    simp only [pathLoc, Option.some.injEq] at h1
    subst h h1
    simp only [List.nil_append, pathLoc, h2, h3]
  | t :: p, v, u, c, l, l', l2, s, h, h1, h2, h3 => by
    simp only [TV.path, Option.bind_eq_some_iff] at h
    obtain ⟨d, hd, h⟩ := h
    simp only [pathLoc, hd] at h1
    simp only [List.cons_append, pathLoc, hd]
    split at h1
    · rename_i u' l1 hu' hl1
      cases hu'
      exact pathLoc_append p h h1 h2 h3
    · cases h1

theorem place_val {r v : Nat} {p : List Step} {s : Slot} {tv : TV} (h : (place r v p).val σ = some (s, tv)) : s = σ.at r ∧ (σ.at r).ver = v ∧ ∃ c, (σ.at r).e.content = some c ∧ c.path p = some tv := by
  unfold place at h
  simp only [Rd.val] at h
  split at h
  · rename_i c hc
    split at h
    · rename_i hv
      split at h
      · rename_i u hu
        simp only [Rd.val, Option.some.injEq, Prod.mk.injEq] at h
        obtain ⟨rfl, rfl⟩ := h
        exact ⟨rfl, hv, c, hc, hu⟩
      · cases h
    · cases h
  · cases h

theorem asPtr_val {x : Operand} {r v : Nat} {p : List Step} (h : (asPtr x).val σ = some (some (r, v, p))) : ∃ t, x = .tmp t ∧
    ((σ.at t).e = .pref r v p ∨ (∃ ty q y, (σ.at t).e = .val (.ptr ty) (.own q) y ∧ r = t ∧ v = (σ.at t).ver ∧ p = []) ∨ ∃ g f c, (σ.at t).e = .fbox g f c ∧ r = t ∧ v = (σ.at t).ver ∧ p = []) := by
  cases x with
  | tmp t =>
    refine ⟨t, rfl, ?_⟩
    simp only [asPtr, Rd.val, Option.some.injEq] at h
    split at h
    · rename_i he
      simp only [Option.some.injEq, Prod.mk.injEq] at h
      obtain ⟨rfl, rfl, rfl⟩ := h
      exact .inl he
    · rename_i ty q y he
      simp only [Option.some.injEq, Prod.mk.injEq] at h
      obtain ⟨rfl, rfl, rfl⟩ := h
      exact .inr (.inl ⟨_, _, _, he, rfl, rfl, rfl⟩)
    · rename_i g f c he
      simp only [Option.some.injEq, Prod.mk.injEq] at h
      obtain ⟨rfl, rfl, rfl⟩ := h
      exact .inr (.inr ⟨_, _, _, he, rfl, rfl, rfl⟩)
    · cases h
  | _ => simp [asPtr, Rd.val] at h

/-- What a pointer operand names. -/
theorem asPtr_ok (I : Inv B M Z0 w0 σ a w Z F) {x : Operand} {r v : Nat} {p : List Step} (h : (asPtr x).val σ = some (some (r, v, p))) (hv : (σ.at r).ver = v) {c : TV} (hc : (σ.at r).e.content = some c) :
    PathOK c p ∧ ∃ b o, pathLoc w c (rootLoc (tm a r)) p = some (.mem b o) ∧ a.eval x = .pointer (some ⟨b, o, none⟩) := by
  obtain ⟨t, rfl, h1 | ⟨ty, q, y, h1, rfl, rfl, rfl⟩ | ⟨g, f, c', h1, rfl, rfl, rfl⟩⟩ := asPtr_val h
  · have h2 := I.ref t
    unfold RefOK at h2
    rw [h1] at h2
    obtain ⟨h3, _, b, o, h4, h5⟩ := (h2.2 hv).1 c hc
    exact ⟨h3, b, o, h4, h5⟩
  · refine ⟨trivial, ?_⟩
    have he := I.ent r
    rw [h1] at he
    have h0 := he.1
    rw [he.scalar rfl] at h0
    obtain ⟨g, cur, T, Fe, hV, _⟩ := h0
    simp only [List.cons.injEq, and_true] at hV
    refine ⟨g, 0, ?_, ?_⟩
    · rw [hV]; rfl
    · show tm a r = _
      rw [hV]
  · rw [h1] at hc; cases hc

theorem asSl_ok (I : Inv B M Z0 w0 σ a w Z F) {x : Operand} {r v : Nat} {p : List Step} (h : (asSl x).val σ = some (some (r, v, p))) (hv : (σ.at r).ver = v) {c : TV} (hc : (σ.at r).e.content = some c) :
    PathOK c p ∧ ∃ T te q xs l, c.path p = some ⟨.sl T te, .own q, xs⟩ ∧ pathLoc w c (rootLoc (tm a r)) p = some l ∧ l.header w = some (a.eval x) := by
  cases x with
  | tmp t =>
    simp only [asSl, Rd.val, Option.some.injEq] at h
    split at h
    · rename_i r' v' p' he
      simp only [Option.some.injEq, Prod.mk.injEq] at h
      obtain ⟨rfl, rfl, rfl⟩ := h
      have h2 := I.ref t
      unfold RefOK at h2
      rw [he] at h2
      obtain ⟨h3, T, te, q, xs, l, H, h4, h5, h6, h7⟩ := h2.2 hv c hc
      refine ⟨h3, T, te, q, xs, l, h4, h5, ?_⟩
      rw [h6]
      simp only [WinRep] at h7
      rw [← h7]; rfl
    · rename_i T e q y he
      simp only [Option.some.injEq, Prod.mk.injEq] at h
      obtain ⟨rfl, rfl, rfl⟩ := h
      rename_i q
      rw [he] at hc
      simp only [Ent.content, Option.some.injEq] at hc
      subst hc
      have hh := I.ent t
      rw [he] at hh
      have h0 := hh.1
      rw [hh.scalar rfl] at h0
      obtain ⟨V, cells, Fe, hV, ho, _⟩ := h0
      simp only [List.cons.injEq, and_true] at hV
      refine ⟨trivial, T, e, _, y, .hdr (tm a t), rfl, ?_, rfl⟩
      simp only [pathLoc, Option.some.injEq]
      rw [hV]
      rcases ho.2 with ⟨rfl, _⟩ | ⟨g, cap, cur, rfl, _⟩ <;> rfl
    · cases h
  | _ => simp [asSl, Rd.val] at h

/-- A pointer's target, read. -/
theorem ptr_at (I : Inv B M Z0 w0 σ a w Z F) {x : Operand} {r v : Nat} {p : List Step} (h : (asPtr x).val σ = some (some (r, v, p))) (hv : (σ.at r).ver = v) {c : TV} (hc : (σ.at r).e.content = some c) {tv : TV} (hp : c.path p = some tv) :
    ∃ b o Fu cs, pathLoc w c (rootLoc (tm a r)) p = some (.mem b o) ∧ a.eval x = .pointer (some ⟨b, o, none⟩) ∧ PathOK c p ∧ CellsAt w ⟨b, o, none⟩ cs ∧ Rep w Z tv.t tv.q tv.x cs Fu ∧ F r b ∧ ∀ b, Fu b → F r b := by
  obtain ⟨h1, b, o, h2, h3⟩ := asPtr_ok I h hv hc
  obtain ⟨Fc, hR, hFc, hh⟩ := I.root hc
  obtain ⟨l', Fu, e1, hru, hsub, hin, _⟩ := lens p hh hR h1 hp
  rw [h2] at e1
  simp only [Option.some.injEq] at e1
  subst e1
  obtain ⟨_, cs, hcs, hr⟩ := hru
  refine ⟨b, o, Fu, cs, h2, h3, h1, hcs, hr, ?_, fun b hb => (hFc b).2 (.inl (hsub b hb))⟩
  generalize rootLoc (tm a r) = l at hin hFc
  cases l with
  | mem b' o' =>
    rcases hin with ⟨rfl, _⟩ | h
    · exact (hFc b).2 (.inr rfl)
    · exact (hFc b).2 (.inl h)
  | hdr V => exact (hFc b).2 (.inl hin)
/-- A slice's header, by its place. -/
theorem sl_at (I : Inv B M Z0 w0 σ a w Z F) {r : Nat} {p : List Step} {c : TV} (hc : (σ.at r).e.content = some c) {T : Nat} {te : Ty} {q : Ow} {xs : List te.den} (h1 : PathOK c p) (hp : c.path p = some ⟨.sl T te, .own q, xs⟩) {l : Loc} {H : Value}
    (h2 : pathLoc w c (rootLoc (tm a r)) p = some l) (h3 : l.header w = some H) :
    ∃ (Fu : BSet) (cells : List Value) (Fe : BSet), w.ownsRow 0 T te.cells H xs.length cells ∧ ElemsRep (fun y => Rep w Z te q y) xs cells Fe ∧ (∀ b, Fu b ↔ H.ownBlock = some b ∨ Fe b) ∧ (∀ b, H.ownBlock = some b → ¬ Fe b) ∧ ∀ b, Fu b → F r b := by
  obtain ⟨Fc, hR, hFc, hh⟩ := I.root hc
  obtain ⟨l', Fu, e1, hru, hsub, _⟩ := lens p hh hR h1 hp
  rw [h2] at e1
  simp only [Option.some.injEq] at e1
  subst e1
  cases l with
  | mem b o =>
    obtain ⟨_, cs, hcs, V', cells, Fe, rfl, ho, h4, h5, h6⟩ := hru
    have h7 := hcs 0 V' rfl
    simp only [Loc.header] at h3
    rw [show (⟨b, o, none⟩ : Addr).add 0 = ⟨b, o, none⟩ from rfl, h3] at h7
    simp only [Option.some.injEq] at h7
    subst h7
    exact ⟨Fu, cells, Fe, ho, h4, h5, h6, fun b hb => (hFc b).2 (.inl (hsub b hb))⟩
  | hdr V0 =>
    obtain ⟨V', cells, Fe, hV, ho, h4, h5, h6⟩ := hru
    simp only [List.cons.injEq, and_true] at hV
    simp only [Loc.header, Option.some.injEq] at h3
    subst h3
    rw [← hV] at ho h5 h6
    exact ⟨Fu, cells, Fe, ho, h4, h5, h6, fun b hb => (hFc b).2 (.inl (hsub b hb))⟩

theorem capOf_args {w : World} {Z : BSet} : ∀ {cs : List Arg} {vs : List Value}, FReps w Z cs vs → CapsOK w Z (cs.map .arg) vs
  | _, _, .nil => rfl
  | _, _, .cons h1 h2 => ⟨_, _, rfl, fun a ha => by simp only [Cap.arg.injEq] at ha; subst ha; exact h1, capOf_args h2⟩
theorem fnl_of (I : Inv B M Z0 w0 σ a w Z F) {g : Nat} {f c : List Arg} {V : Value} (h : FRep w Z (.fn g f c) V) : EntOK w Z (.fnl g f (c.map .arg)) V (fun _ => False) ∧ RefNew σ a w (.fnl g f (c.map .arg)) V := by
  cases h with
  | fn h1 h2 =>
    refine ⟨⟨fun _ h => h, _, _, rfl, h1, capOf_args h2⟩, fun i r v hi => ?_⟩
    simp only [List.getElem?_map, Option.map_eq_some_iff] at hi
    obtain ⟨a, _, ha⟩ := hi
    cases ha

theorem load_ok (K : CtxOK P X) (I : Inv B M Z0 w0 σ a w Z F) {o : Oper} {T : Nat} {x : Operand} (ho : o.op = .load T x) : OpOK P B M Z0 w0 σ a w o (opLoad X.C o.dst T x) := by
  intro out hv u hu Q
  obtain ⟨e, he, hv⟩ := Rd.bind_some hv
  obtain ⟨Fo, h3, h4⟩ := opd_ref I he
  split at hv
  · rename_i t y
    split at hv
    · rename_i hT
      obtain ⟨ad, cells, hV, hs, hz, hc, hr⟩ := VRep.ptrFr h3
      obtain ⟨V, h5, h6, _⟩ := K.loadVar hT hc hr
      exact ok_val I (load_run ho hV h5) h6 hv hu Q
    · cases hv
  · rename_i g f c
    split at hv
    · rename_i hT
      obtain ⟨ps, rs, vv, hT⟩ := K.fty T hT
      obtain ⟨hp, _⟩ := h3
      generalize hVV : a.eval x = VV at hp
      cases hp with
      | pfn h1 h2 h3 h5 =>
        obtain ⟨h6, h7⟩ := fnl_of I h5
        exact ok_plain I (load_run ho hVV (run_loadFn hT h3)) h6 h7 hv hu Q
    · cases hv
  · obtain ⟨pl, h5, hv⟩ := Rd.bind_some hv
    split at hv
    · rename_i r v p
      simp only [Rd.val] at hv
      split at hv
      · rename_i hver
        split at hv
        · rename_i g f c hroot
          split at hv
          · rename_i hT
            obtain ⟨ps, rs, vv, hT⟩ := K.fty T hT
            have hb := I.ent r
            rw [hroot] at hb
            obtain ⟨b, T', V', hV, hh, hf, _⟩ := hb
            have hx : a.eval x = tm a r := by
              obtain ⟨t, rfl, h1 | ⟨ty, q, y, h1, rfl, rfl, rfl⟩ | ⟨g, f, c', h1, rfl, rfl, rfl⟩⟩ := asPtr_val h5
              · have h2 := I.ref t
                unfold RefOK at h2
                rw [h1] at h2
                exact (h2.2 hver).2 _ _ _ hroot
              · rfl
              · rfl
            obtain ⟨h6, h7⟩ := fnl_of I hf
            refine ok_plain I (load_run ho (hx.trans hV) (run_loadFn hT ?_)) h6 h7 hv hu Q
            unfold World.cell?
            simp only [hh]
            rfl
          · cases hv
        · rename_i e' _
          split at hv
          · rename_i c hc
            split at hv
            · rename_i tv htv
              split at hv
              · rename_i hT
                obtain ⟨b, of, Fu, cs, e1, e2, e3, e4, e5, _⟩ := ptr_at I h5 hver hc htv
                obtain ⟨V, h6, h7, h8⟩ := K.loadVar hT e4 e5
                split at hv
                · rename_i hq
                  exact ok_val I (load_run ho e2 h6) (h7.toFr hq) hv hu Q
                · split at hv
                  · rename_i T' te q hq1 hq2
                    obtain ⟨tt, tq, tx⟩ := tv
                    simp only at hq1 hq2 h8 htv
                    subst hq1 hq2
                    refine ok_plain I (load_run ho e2 h6) (e := .sref r v p none) (fun _ h => h) ⟨Nat.le_of_eq hver.symm, fun _ => ?_⟩ hv hu Q
                    intro c' hc'
                    rw [hc] at hc'
                    cases hc'
                    refine ⟨e3, T', te, q, tx, .mem b of, V, htv, e1, ?_, rfl⟩
                    have := h8 rfl
                    subst this
                    exact e4 0 V rfl
                  · cases hv
              · cases hv
            · cases hv
          · cases hv
      · cases hv
    · cases hv
end
end Go.K

