/- Part 1 of the plain law: the functions of the program as plain functions on lists and numbers, and what is shown of them; no condition. -/
import Derived.Test.YtkddnpjcceolbaaS1
set_option linter.all false
set_option linter.all false
set_option maxRecDepth 100000
namespace Go.K.Pure
abbrev w64 (n : Int) : Int := IntKind.wrap .i64 n
abbrev wi32 (n : Int) : Int := IntKind.wrap .i32 n
abbrev wu8 (n : Int) : Int := IntKind.wrap .u8 n
abbrev wu32 (n : Int) : Int := IntKind.wrap .u32 n
abbrev wu64 (n : Int) : Int := IntKind.wrap .u64 n
noncomputable def laws_toAngle (a : (Int × (Int × Unit))) : Option ((Int × (Int × Unit))) :=
  some ((a.1, a.2.1, ()))
noncomputable def laws_toLeaf (a : ((Int × (Int × Unit)) × ((Int × (Int × Unit)) × Unit))) : Option (((Int × (Int × Unit)) × ((Int × (Int × Unit)) × Unit))) :=
  (laws_toAngle a.1).bind fun r0 =>
  (laws_toAngle a.2.1).bind fun r1 =>
  some ((r0, r1, ()))
noncomputable def spec_l01In (n : Int) (low : Int) (high : Int) : Option (Bool) :=
  bif (decide (n ≥ low)) then
   some ((decide (n ≤ high)))
  else some (false)
noncomputable def spec_l01Divisor_l0 : Int × Int × Unit → Option (Ctl (Int × Int × Unit) ((Int × Unit)))
  | (a, (b, ())) =>
    bif (decide (b > (0 : Int))) then
   bif (!(b == (0 : Int))) then
    some (.next (b, ((a.tmod b), ())))
   else none
  else some (.stop ((a, ())))
noncomputable def spec_l01Divisor (a : Int) (b : Int) : Option (Int) :=
  (loop spec_l01Divisor_l0 (a, b, ())).bind fun r0 =>
  some (r0.1)
noncomputable def spec_l01Is (a : (Int × (Int × Unit))) : Option (Bool) :=
  (spec_l01In a.2.1 (1 : Int) (8191 : Int)).bind fun r0 =>
  bif r0 then
   (spec_l01In a.1 (0 : Int) (w64 (a.2.1 - (1 : Int)))).bind fun r1 =>
   bif r1 then
    (spec_l01Divisor a.1 a.2.1).bind fun r2 =>
    some ((r2 == (1 : Int)))
   else some (false)
  else some (false)
noncomputable def spec_l01Less (a : (Int × (Int × Unit))) (b : (Int × (Int × Unit))) : Option (Bool) :=
  some ((decide ((w64 (a.1 * b.2.1)) < (w64 (b.1 * a.2.1)))))
noncomputable def spec_l03Is (l : ((Int × (Int × Unit)) × ((Int × (Int × Unit)) × Unit))) : Option (Bool) :=
  (spec_l01Is l.1).bind fun r0 =>
  bif r0 then
   (spec_l01Is l.2.1).bind fun r1 =>
   bif r1 then
    (spec_l01Less l.1 l.2.1).bind fun r2 =>
    some (r2)
   else some (false)
  else some (false)
noncomputable def spec_l01Of (num : Int) (den : Int) : Option ((Int × (Int × Unit))) :=
  bif (!(den == (0 : Int))) then
   bif (!(den == (0 : Int))) then
    (spec_l01Divisor ((w64 ((num.tmod den) + den)).tmod den) den).bind fun r0 =>
    bif (!(r0 == (0 : Int))) then
     bif (!(r0 == (0 : Int))) then
      some (((w64 (((w64 ((num.tmod den) + den)).tmod den).tdiv r0)), (w64 (den.tdiv r0)), ()))
     else none
    else none
   else none
  else none
noncomputable def spec_l01Distance (a : (Int × (Int × Unit))) (b : (Int × (Int × Unit))) : Option ((Int × (Int × Unit))) :=
  (spec_l01Of (w64 ((w64 (b.1 * a.2.1)) - (w64 (a.1 * b.2.1)))) (w64 (a.2.1 * b.2.1))).bind fun r0 =>
  (spec_l01Of (w64 ((0 : Int) - r0.1)) r0.2.1).bind fun r1 =>
  (spec_l01Less r1 r0).bind fun r2 =>
  bif r2 then
   some (r1)
  else some (r0)
noncomputable def spec_l05Long (l : ((Int × (Int × Unit)) × ((Int × (Int × Unit)) × Unit))) : Option (Bool) :=
  (spec_l01Distance l.1 l.2.1).bind fun r0 =>
  some ((decide ((w64 ((3 : Int) * r0.1)) > r0.2.1)))
noncomputable def spec_l03Images_l1 : (((Int × (Int × Unit)) × ((Int × (Int × Unit)) × Unit))) × (List ((Int × (Int × Unit)) × ((Int × (Int × Unit)) × Unit))) × Int × Unit → Option (Ctl ((((Int × (Int × Unit)) × ((Int × (Int × Unit)) × Unit))) × (List ((Int × (Int × Unit)) × ((Int × (Int × Unit)) × Unit))) × Int × Unit) ((Bool × (List ((Int × (Int × Unit)) × ((Int × (Int × Unit)) × Unit))) × Unit) ⊕ ((((Int × (Int × Unit)) × ((Int × (Int × Unit)) × Unit))) × (List ((Int × (Int × Unit)) × ((Int × (Int × Unit)) × Unit))) × Unit)))
  | (l, (out, (i, ()))) =>
    bif (decide (i < ((out.length : Nat) : Int))) then
   bif ((decide ((0 : Int) ≤ i)) && (decide (i < ((out.length : Nat) : Int)))) then
    bif ((((out.getD i.toNat (((0 : Int), (0 : Int), ()), ((0 : Int), (0 : Int), ()), ())).1.1 == l.1.1) && (((out.getD i.toNat (((0 : Int), (0 : Int), ()), ((0 : Int), (0 : Int), ()), ())).1.2.1 == l.1.2.1) && true)) && ((((out.getD i.toNat (((0 : Int), (0 : Int), ()), ((0 : Int), (0 : Int), ()), ())).2.1.1 == l.2.1.1) && (((out.getD i.toNat (((0 : Int), (0 : Int), ()), ((0 : Int), (0 : Int), ()), ())).2.1.2.1 == l.2.1.2.1) && true)) && true)) then
     some (.stop (.inl (true, (out, ()))))
    else some (.next (l, (out, ((w64 (i + (1 : Int))), ()))))
   else none
  else some (.stop (.inr ((l, (out, ())))))
noncomputable def spec_l01Double (a : (Int × (Int × Unit))) : Option ((Int × (Int × Unit))) :=
  (spec_l01Of (w64 ((2 : Int) * a.1)) a.2.1).bind fun r0 =>
  some (r0)
noncomputable def spec_l03Diameter (l : ((Int × (Int × Unit)) × ((Int × (Int × Unit)) × Unit))) : Option (Bool) :=
  (spec_l01Double l.1).bind fun r0 =>
  (spec_l01Double l.2.1).bind fun r1 =>
  some (((r0.1 == r1.1) && ((r0.2.1 == r1.2.1) && true)))
noncomputable def spec_l03Of (a : (Int × (Int × Unit))) (b : (Int × (Int × Unit))) : Option (((Int × (Int × Unit)) × ((Int × (Int × Unit)) × Unit))) :=
  (spec_l01Less b a).bind fun r0 =>
  bif r0 then
   some ((b, a, ()))
  else some ((a, b, ()))
noncomputable def spec_l03Image (l : ((Int × (Int × Unit)) × ((Int × (Int × Unit)) × Unit))) : Option (((Int × (Int × Unit)) × ((Int × (Int × Unit)) × Unit))) :=
  (spec_l01Double l.1).bind fun r0 =>
  (spec_l01Double l.2.1).bind fun r1 =>
  (spec_l03Of r0 r1).bind fun r2 =>
  some (r2)
noncomputable def spec_l03Images_l0 : (((Int × (Int × Unit)) × ((Int × (Int × Unit)) × Unit))) × (List ((Int × (Int × Unit)) × ((Int × (Int × Unit)) × Unit))) × Unit → Option (Ctl ((((Int × (Int × Unit)) × ((Int × (Int × Unit)) × Unit))) × (List ((Int × (Int × Unit)) × ((Int × (Int × Unit)) × Unit))) × Unit) ((Bool × (List ((Int × (Int × Unit)) × ((Int × (Int × Unit)) × Unit))) × Unit) ⊕ ((List ((Int × (Int × Unit)) × ((Int × (Int × Unit)) × Unit))) × Bool × (List ((Int × (Int × Unit)) × ((Int × (Int × Unit)) × Unit))) × Unit) ⊕ (Bool × (List ((Int × (Int × Unit)) × ((Int × (Int × Unit)) × Unit))) × Unit)))
  | (l, (out, ())) =>
    (loop spec_l03Images_l1 (l, out, (0 : Int), ())).bind fun r0 =>
  alt r0 (fun r1 =>
   some (.stop (.inl (r1.1, (r1.2.1, ())))))
   (fun r2 =>
   bif (((r2.2.1.length : Nat) : Int) == (64 : Int)) then
    some (.stop (.inr (.inl (([] : List ((Int × (Int × Unit)) × ((Int × (Int × Unit)) × Unit))), (false, (r2.2.1, ()))))))
   else bif (decide (((r2.2.1.length + [r2.1].length) * 32) ≤ 140737488355328)) then
     (spec_l03Diameter r2.1).bind fun r3 =>
     bif r3 then
      some (.stop (.inr (.inr ((true, ((r2.2.1 ++ [r2.1]), ()))))))
     else (spec_l03Image r2.1).bind fun r4 =>
      some (.next (r4, ((r2.2.1 ++ [r2.1]), ())))
    else none)
noncomputable def spec_l03Images (l : ((Int × (Int × Unit)) × ((Int × (Int × Unit)) × Unit))) : Option ((List ((Int × (Int × Unit)) × ((Int × (Int × Unit)) × Unit))) × Bool) :=
  (loop spec_l03Images_l0 (l, ([] : List ((Int × (Int × Unit)) × ((Int × (Int × Unit)) × Unit))), ())).bind fun r0 =>
  alt r0 (fun r1 =>
   some (r1.2.1, r1.1))
   (fun r2 =>
   alt r2 (fun r3 =>
    some (r3.1, r3.2.1))
    (fun r4 =>
    some (r4.2.1, r4.1)))
noncomputable def spec_l03Forward (a : (Int × (Int × Unit))) (b : (Int × (Int × Unit))) : Option ((Int × (Int × Unit))) :=
  (spec_l01Of (w64 ((w64 (b.1 * a.2.1)) - (w64 (a.1 * b.2.1)))) (w64 (a.2.1 * b.2.1))).bind fun r0 =>
  some (r0)
noncomputable def spec_l05Ends (l : ((Int × (Int × Unit)) × ((Int × (Int × Unit)) × Unit))) : Option ((Int × (Int × Unit)) × (Int × (Int × Unit))) :=
  (spec_l03Forward l.1 l.2.1).bind fun r0 =>
  bif (decide ((w64 ((2 : Int) * r0.1)) > r0.2.1)) then
   some (l.2.1, l.1)
  else some (l.1, l.2.1)
noncomputable def spec_l01Halves (a : (Int × (Int × Unit))) : Option ((Int × (Int × Unit)) × (Int × (Int × Unit)) × Bool) :=
  (spec_l01Of a.1 (w64 ((2 : Int) * a.2.1))).bind fun r0 =>
  (spec_l01Of (w64 (a.1 + a.2.1)) (w64 ((2 : Int) * a.2.1))).bind fun r1 =>
  bif (decide (r0.2.1 ≤ (8191 : Int))) then
   some (r0, r1, (decide (r1.2.1 ≤ (8191 : Int))))
  else some (r0, r1, false)
noncomputable def spec_l03Less (l : ((Int × (Int × Unit)) × ((Int × (Int × Unit)) × Unit))) (m : ((Int × (Int × Unit)) × ((Int × (Int × Unit)) × Unit))) : Option (Bool) :=
  bif (!((l.1.1 == m.1.1) && ((l.1.2.1 == m.1.2.1) && true))) then
   (spec_l01Less l.1 m.1).bind fun r0 =>
   some (r0)
  else (spec_l01Less l.2.1 m.2.1).bind fun r1 =>
   some (r1)
noncomputable def spec_l05Pair (l : ((Int × (Int × Unit)) × ((Int × (Int × Unit)) × Unit))) (m : ((Int × (Int × Unit)) × ((Int × (Int × Unit)) × Unit))) : Option ((List ((Int × (Int × Unit)) × ((Int × (Int × Unit)) × Unit)))) :=
  (spec_l03Less m l).bind fun r0 =>
  bif r0 then
   some ([m, l])
  else some ([l, m])
noncomputable def spec_l05Majors (m : ((Int × (Int × Unit)) × ((Int × (Int × Unit)) × Unit))) : Option ((List ((Int × (Int × Unit)) × ((Int × (Int × Unit)) × Unit))) × Bool) :=
  (spec_l05Ends m).bind fun r0 =>
  (spec_l01Halves r0.1).bind fun r1 =>
  (spec_l01Halves r0.2).bind fun r2 =>
  bif (!r1.2.2) then
   some (([] : List ((Int × (Int × Unit)) × ((Int × (Int × Unit)) × Unit))), false)
  else bif (!r2.2.2) then
    some (([] : List ((Int × (Int × Unit)) × ((Int × (Int × Unit)) × Unit))), false)
   else (spec_l03Of r2.1 r1.2.1).bind fun r3 =>
    (spec_l03Of r1.1 r2.2.1).bind fun r4 =>
    (spec_l05Pair r3 r4).bind fun r5 =>
    some (r5, true)
noncomputable def spec_l01Within (x : (Int × (Int × Unit))) (a : (Int × (Int × Unit))) (b : (Int × (Int × Unit))) : Option (Bool) :=
  (spec_l01Less a b).bind fun r0 =>
  bif r0 then
   (spec_l01Less a x).bind fun r1 =>
   bif r1 then
    (spec_l01Less x b).bind fun r2 =>
    some (r2)
   else some (false)
  else (spec_l01Less a x).bind fun r3 =>
   bif r3 then
    some (true)
   else (spec_l01Less x b).bind fun r4 =>
    some (r4)
noncomputable def spec_l03Cross (l : ((Int × (Int × Unit)) × ((Int × (Int × Unit)) × Unit))) (m : ((Int × (Int × Unit)) × ((Int × (Int × Unit)) × Unit))) : Option (Bool) :=
  bif ((l.1.1 == m.1.1) && ((l.1.2.1 == m.1.2.1) && true)) then
   some (false)
  else bif ((l.1.1 == m.2.1.1) && ((l.1.2.1 == m.2.1.2.1) && true)) then
    some (false)
   else bif ((l.2.1.1 == m.1.1) && ((l.2.1.2.1 == m.1.2.1) && true)) then
     some (false)
    else bif ((l.2.1.1 == m.2.1.1) && ((l.2.1.2.1 == m.2.1.2.1) && true)) then
      some (false)
     else (spec_l01Within l.1 m.1 m.2.1).bind fun r0 =>
      (spec_l01Within l.2.1 m.1 m.2.1).bind fun r1 =>
      some ((!(r0 == r1)))
noncomputable def spec_l05Fails_l1 : (((Int × (Int × Unit)) × ((Int × (Int × Unit)) × Unit))) × (List ((Int × (Int × Unit)) × ((Int × (Int × Unit)) × Unit))) × (List ((Int × (Int × Unit)) × ((Int × (Int × Unit)) × Unit))) × Int × Int × Unit → Option (Ctl ((((Int × (Int × Unit)) × ((Int × (Int × Unit)) × Unit))) × (List ((Int × (Int × Unit)) × ((Int × (Int × Unit)) × Unit))) × (List ((Int × (Int × Unit)) × ((Int × (Int × Unit)) × Unit))) × Int × Int × Unit) ((Int × Bool × Unit) ⊕ ((((Int × (Int × Unit)) × ((Int × (Int × Unit)) × Unit))) × (List ((Int × (Int × Unit)) × ((Int × (Int × Unit)) × Unit))) × (List ((Int × (Int × Unit)) × ((Int × (Int × Unit)) × Unit))) × Int × Unit)))
  | (m, (images, (majors, (i, (k, ()))))) =>
    bif (decide (k < i)) then
   bif ((decide ((0 : Int) ≤ i)) && (decide (i < ((images.length : Nat) : Int)))) then
    bif ((decide ((0 : Int) ≤ k)) && (decide (k < ((images.length : Nat) : Int)))) then
     (spec_l03Cross (images.getD i.toNat (((0 : Int), (0 : Int), ()), ((0 : Int), (0 : Int), ()), ())) (images.getD k.toNat (((0 : Int), (0 : Int), ()), ((0 : Int), (0 : Int), ()), ()))).bind fun r0 =>
     bif r0 then
      some (.stop (.inl ((2 : Int), (true, ()))))
     else some (.next (m, (images, (majors, (i, ((w64 (k + (1 : Int))), ()))))))
    else none
   else none
  else some (.stop (.inr ((m, (images, (majors, (i, ())))))))
noncomputable def spec_l05Fails_l0 : (((Int × (Int × Unit)) × ((Int × (Int × Unit)) × Unit))) × (List ((Int × (Int × Unit)) × ((Int × (Int × Unit)) × Unit))) × (List ((Int × (Int × Unit)) × ((Int × (Int × Unit)) × Unit))) × Int × Unit → Option (Ctl ((((Int × (Int × Unit)) × ((Int × (Int × Unit)) × Unit))) × (List ((Int × (Int × Unit)) × ((Int × (Int × Unit)) × Unit))) × (List ((Int × (Int × Unit)) × ((Int × (Int × Unit)) × Unit))) × Int × Unit) ((Int × Bool × Unit) ⊕ ((((Int × (Int × Unit)) × ((Int × (Int × Unit)) × Unit))) × (List ((Int × (Int × Unit)) × ((Int × (Int × Unit)) × Unit))) × (List ((Int × (Int × Unit)) × ((Int × (Int × Unit)) × Unit))) × Unit)))
  | (m, (images, (majors, (i, ())))) =>
    bif (decide (i < ((images.length : Nat) : Int))) then
   (loop spec_l05Fails_l1 (m, images, majors, i, (0 : Int), ())).bind fun r0 =>
   alt r0 (fun r1 =>
    some (.stop (.inl (r1.1, (r1.2.1, ())))))
    (fun r2 =>
    some (.next (r2.1, (r2.2.1, (r2.2.2.1, ((w64 (r2.2.2.2.1 + (1 : Int))), ()))))))
  else some (.stop (.inr ((m, (images, (majors, ()))))))
noncomputable def spec_l05Fails_l2 : (List ((Int × (Int × Unit)) × ((Int × (Int × Unit)) × Unit))) × (List ((Int × (Int × Unit)) × ((Int × (Int × Unit)) × Unit))) × ((Int × (Int × Unit))) × Int × Unit → Option (Ctl ((List ((Int × (Int × Unit)) × ((Int × (Int × Unit)) × Unit))) × (List ((Int × (Int × Unit)) × ((Int × (Int × Unit)) × Unit))) × ((Int × (Int × Unit))) × Int × Unit) ((Int × Bool × Unit) ⊕ ((List ((Int × (Int × Unit)) × ((Int × (Int × Unit)) × Unit))) × (List ((Int × (Int × Unit)) × ((Int × (Int × Unit)) × Unit))) × Unit)))
  | (images, (majors, (length, (i, ())))) =>
    bif (decide (i < ((images.length : Nat) : Int))) then
   bif ((decide ((0 : Int) ≤ i)) && (decide (i < ((images.length : Nat) : Int)))) then
    bif ((decide ((0 : Int) ≤ i)) && (decide (i < ((images.length : Nat) : Int)))) then
     (spec_l01Distance (images.getD i.toNat (((0 : Int), (0 : Int), ()), ((0 : Int), (0 : Int), ()), ())).1 (images.getD i.toNat (((0 : Int), (0 : Int), ()), ((0 : Int), (0 : Int), ()), ())).2.1).bind fun r0 =>
     (spec_l01Less r0 length).bind fun r1 =>
     bif r1 then
      some (.stop (.inl ((3 : Int), (true, ()))))
     else some (.next (images, (majors, (length, ((w64 (i + (1 : Int))), ())))))
    else none
   else none
  else some (.stop (.inr ((images, (majors, ())))))
noncomputable def spec_l05Fails_l3 : (List ((Int × (Int × Unit)) × ((Int × (Int × Unit)) × Unit))) × (List ((Int × (Int × Unit)) × ((Int × (Int × Unit)) × Unit))) × Int × Unit → Option (Ctl ((List ((Int × (Int × Unit)) × ((Int × (Int × Unit)) × Unit))) × (List ((Int × (Int × Unit)) × ((Int × (Int × Unit)) × Unit))) × Int × Unit) ((Int × Bool × Unit) ⊕ (Unit)))
  | (images, (majors, (i, ()))) =>
    bif (decide (i < ((images.length : Nat) : Int))) then
   bif ((decide ((0 : Int) ≤ i)) && (decide (i < ((images.length : Nat) : Int)))) then
    bif ((decide ((0 : Int) ≤ (0 : Int))) && (decide ((0 : Int) < ((majors.length : Nat) : Int)))) then
     (spec_l03Cross (images.getD i.toNat (((0 : Int), (0 : Int), ()), ((0 : Int), (0 : Int), ()), ())) (majors.getD (0 : Int).toNat (((0 : Int), (0 : Int), ()), ((0 : Int), (0 : Int), ()), ()))).bind fun r0 =>
     bif r0 then
      some (.stop (.inl ((4 : Int), (true, ()))))
     else bif ((decide ((0 : Int) ≤ i)) && (decide (i < ((images.length : Nat) : Int)))) then
       bif ((decide ((0 : Int) ≤ (1 : Int))) && (decide ((1 : Int) < ((majors.length : Nat) : Int)))) then
        (spec_l03Cross (images.getD i.toNat (((0 : Int), (0 : Int), ()), ((0 : Int), (0 : Int), ()), ())) (majors.getD (1 : Int).toNat (((0 : Int), (0 : Int), ()), ((0 : Int), (0 : Int), ()), ()))).bind fun r1 =>
        bif r1 then
         some (.stop (.inl ((4 : Int), (true, ()))))
        else some (.next (images, (majors, ((w64 (i + (1 : Int))), ()))))
       else none
      else none
    else none
   else none
  else some (.stop (.inr (())))
noncomputable def spec_l05Fails (m : ((Int × (Int × Unit)) × ((Int × (Int × Unit)) × Unit))) : Option (Int × Bool) :=
  (spec_l05Long m).bind fun r0 =>
  bif r0 then
   some ((1 : Int), true)
  else (spec_l03Images m).bind fun r1 =>
   (spec_l05Majors m).bind fun r2 =>
   bif (!r1.2) then
    some ((0 : Int), false)
   else bif (!r2.2) then
     some ((0 : Int), false)
    else (loop spec_l05Fails_l0 (m, r1.1, r2.1, (0 : Int), ())).bind fun r3 =>
     alt r3 (fun r4 =>
      some (r4.1, r4.2.1))
      (fun r5 =>
      (spec_l01Distance r5.1.1 r5.1.2.1).bind fun r6 =>
      (loop spec_l05Fails_l2 (r5.2.1, r5.2.2.1, r6, (0 : Int), ())).bind fun r7 =>
      alt r7 (fun r8 =>
       some (r8.1, r8.2.1))
       (fun r9 =>
       (loop spec_l05Fails_l3 (r9.1, r9.2.1, (0 : Int), ())).bind fun r10 =>
       alt r10 (fun r11 =>
        some (r11.1, r11.2.1))
        (fun r12 =>
        some ((0 : Int), true))))
noncomputable def spec_l05Minor (m : ((Int × (Int × Unit)) × ((Int × (Int × Unit)) × Unit))) : Option ((List ((Int × (Int × Unit)) × ((Int × (Int × Unit)) × Unit))) × Int) :=
  (spec_l05Fails m).bind fun r0 =>
  bif (!r0.2) then
   some (([] : List ((Int × (Int × Unit)) × ((Int × (Int × Unit)) × Unit))), (3 : Int))
  else bif (r0.1 != (0 : Int)) then
    some (([] : List ((Int × (Int × Unit)) × ((Int × (Int × Unit)) × Unit))), (5 : Int))
   else (spec_l05Majors m).bind fun r1 =>
    some (r1.1, (0 : Int))
noncomputable def spec_l03Insert_l0 : (List ((Int × (Int × Unit)) × ((Int × (Int × Unit)) × Unit))) × (((Int × (Int × Unit)) × ((Int × (Int × Unit)) × Unit))) × Int × Unit → Option (Ctl ((List ((Int × (Int × Unit)) × ((Int × (Int × Unit)) × Unit))) × (((Int × (Int × Unit)) × ((Int × (Int × Unit)) × Unit))) × Int × Unit) (((List ((Int × (Int × Unit)) × ((Int × (Int × Unit)) × Unit))) × (((Int × (Int × Unit)) × ((Int × (Int × Unit)) × Unit))) × Int × Unit)))
  | (list, (l, (at', ()))) =>
    bif (decide (at' < ((list.length : Nat) : Int))) then
   bif ((decide ((0 : Int) ≤ at')) && (decide (at' < ((list.length : Nat) : Int)))) then
    (spec_l03Less (list.getD at'.toNat (((0 : Int), (0 : Int), ()), ((0 : Int), (0 : Int), ()), ())) l).bind fun r0 =>
    bif r0 then
     some (.next (list, (l, ((w64 (at' + (1 : Int))), ()))))
    else some (.stop ((list, (l, (at', ())))))
   else none
  else some (.stop ((list, (l, (at', ())))))
noncomputable def spec_l03Insert (list : List ((Int × (Int × Unit)) × ((Int × (Int × Unit)) × Unit))) (l : ((Int × (Int × Unit)) × ((Int × (Int × Unit)) × Unit))) : Option ((List ((Int × (Int × Unit)) × ((Int × (Int × Unit)) × Unit)))) :=
  (loop spec_l03Insert_l0 (list, l, (0 : Int), ())).bind fun r0 =>
  bif (decide (r0.2.2.1 < ((r0.1.length : Nat) : Int))) then
   bif ((decide ((0 : Int) ≤ r0.2.2.1)) && (decide (r0.2.2.1 < ((r0.1.length : Nat) : Int)))) then
    bif ((((r0.1.getD r0.2.2.1.toNat (((0 : Int), (0 : Int), ()), ((0 : Int), (0 : Int), ()), ())).1.1 == r0.2.1.1.1) && (((r0.1.getD r0.2.2.1.toNat (((0 : Int), (0 : Int), ()), ((0 : Int), (0 : Int), ()), ())).1.2.1 == r0.2.1.1.2.1) && true)) && ((((r0.1.getD r0.2.2.1.toNat (((0 : Int), (0 : Int), ()), ((0 : Int), (0 : Int), ()), ())).2.1.1 == r0.2.1.2.1.1) && (((r0.1.getD r0.2.2.1.toNat (((0 : Int), (0 : Int), ()), ((0 : Int), (0 : Int), ()), ())).2.1.2.1 == r0.2.1.2.1.2.1) && true)) && true)) then
     some (r0.1)
    else bif (((decide ((0 : Int) ≤ r0.2.2.1)) && (decide (r0.2.2.1 ≤ ((r0.1.length : Nat) : Int)))) && (decide (((r0.1.length : Nat) : Int) ≤ ((r0.1.length : Nat) : Int)))) then
      bif (decide ((([r0.2.1].length + ((r0.1.take ((r0.1.length : Nat) : Int).toNat).drop r0.2.2.1.toNat).length) * 32) ≤ 140737488355328)) then
       bif (((decide ((0 : Int) ≤ (0 : Int))) && (decide ((0 : Int) ≤ r0.2.2.1))) && (decide (r0.2.2.1 ≤ ((r0.1.length : Nat) : Int)))) then
        bif (decide (((([] : List ((Int × (Int × Unit)) × ((Int × (Int × Unit)) × Unit))).length + ((r0.1.take r0.2.2.1.toNat).drop (0 : Int).toNat).length) * 32) ≤ 140737488355328)) then
         bif (decide ((((([] : List ((Int × (Int × Unit)) × ((Int × (Int × Unit)) × Unit))) ++ ((r0.1.take r0.2.2.1.toNat).drop (0 : Int).toNat)).length + ([r0.2.1] ++ ((r0.1.take ((r0.1.length : Nat) : Int).toNat).drop r0.2.2.1.toNat)).length) * 32) ≤ 140737488355328)) then
          some (((([] : List ((Int × (Int × Unit)) × ((Int × (Int × Unit)) × Unit))) ++ ((r0.1.take r0.2.2.1.toNat).drop (0 : Int).toNat)) ++ ([r0.2.1] ++ ((r0.1.take ((r0.1.length : Nat) : Int).toNat).drop r0.2.2.1.toNat))))
         else none
        else none
       else none
      else none
     else none
   else none
  else bif (((decide ((0 : Int) ≤ r0.2.2.1)) && (decide (r0.2.2.1 ≤ ((r0.1.length : Nat) : Int)))) && (decide (((r0.1.length : Nat) : Int) ≤ ((r0.1.length : Nat) : Int)))) then
    bif (decide ((([r0.2.1].length + ((r0.1.take ((r0.1.length : Nat) : Int).toNat).drop r0.2.2.1.toNat).length) * 32) ≤ 140737488355328)) then
     bif (((decide ((0 : Int) ≤ (0 : Int))) && (decide ((0 : Int) ≤ r0.2.2.1))) && (decide (r0.2.2.1 ≤ ((r0.1.length : Nat) : Int)))) then
      bif (decide (((([] : List ((Int × (Int × Unit)) × ((Int × (Int × Unit)) × Unit))).length + ((r0.1.take r0.2.2.1.toNat).drop (0 : Int).toNat).length) * 32) ≤ 140737488355328)) then
       bif (decide ((((([] : List ((Int × (Int × Unit)) × ((Int × (Int × Unit)) × Unit))) ++ ((r0.1.take r0.2.2.1.toNat).drop (0 : Int).toNat)).length + ([r0.2.1] ++ ((r0.1.take ((r0.1.length : Nat) : Int).toNat).drop r0.2.2.1.toNat)).length) * 32) ≤ 140737488355328)) then
        some (((([] : List ((Int × (Int × Unit)) × ((Int × (Int × Unit)) × Unit))) ++ ((r0.1.take r0.2.2.1.toNat).drop (0 : Int).toNat)) ++ ([r0.2.1] ++ ((r0.1.take ((r0.1.length : Nat) : Int).toNat).drop r0.2.2.1.toNat))))
       else none
      else none
     else none
    else none
   else none
noncomputable def spec_l05Free_l1 : (List ((Int × (Int × Unit)) × ((Int × (Int × Unit)) × Unit))) × (List ((Int × (Int × Unit)) × ((Int × (Int × Unit)) × Unit))) × Int × Int × Unit → Option (Ctl ((List ((Int × (Int × Unit)) × ((Int × (Int × Unit)) × Unit))) × (List ((Int × (Int × Unit)) × ((Int × (Int × Unit)) × Unit))) × Int × Int × Unit) ((Bool × Unit) ⊕ ((List ((Int × (Int × Unit)) × ((Int × (Int × Unit)) × Unit))) × (List ((Int × (Int × Unit)) × ((Int × (Int × Unit)) × Unit))) × Int × Unit)))
  | (list, (majors, (i, (k, ())))) =>
    bif (decide (k < (2 : Int))) then
   bif ((decide ((0 : Int) ≤ i)) && (decide (i < ((list.length : Nat) : Int)))) then
    bif ((decide ((0 : Int) ≤ k)) && (decide (k < ((majors.length : Nat) : Int)))) then
     (spec_l03Cross (list.getD i.toNat (((0 : Int), (0 : Int), ()), ((0 : Int), (0 : Int), ()), ())) (majors.getD k.toNat (((0 : Int), (0 : Int), ()), ((0 : Int), (0 : Int), ()), ()))).bind fun r0 =>
     bif r0 then
      some (.stop (.inl (false, ())))
     else some (.next (list, (majors, (i, ((w64 (k + (1 : Int))), ())))))
    else none
   else none
  else some (.stop (.inr ((list, (majors, (i, ()))))))
noncomputable def spec_l05Free_l0 : (List ((Int × (Int × Unit)) × ((Int × (Int × Unit)) × Unit))) × (List ((Int × (Int × Unit)) × ((Int × (Int × Unit)) × Unit))) × Int × Unit → Option (Ctl ((List ((Int × (Int × Unit)) × ((Int × (Int × Unit)) × Unit))) × (List ((Int × (Int × Unit)) × ((Int × (Int × Unit)) × Unit))) × Int × Unit) ((Bool × Unit) ⊕ (Unit)))
  | (list, (majors, (i, ()))) =>
    bif (decide (i < (2 : Int))) then
   (loop spec_l05Free_l1 (list, majors, i, (0 : Int), ())).bind fun r0 =>
   alt r0 (fun r1 =>
    some (.stop (.inl (r1.1, ()))))
    (fun r2 =>
    some (.next (r2.1, (r2.2.1, ((w64 (r2.2.2.1 + (1 : Int))), ())))))
  else some (.stop (.inr (())))
noncomputable def spec_l05Free (list : List ((Int × (Int × Unit)) × ((Int × (Int × Unit)) × Unit))) (majors : List ((Int × (Int × Unit)) × ((Int × (Int × Unit)) × Unit))) : Option (Bool) :=
  (loop spec_l05Free_l0 (list, majors, (0 : Int), ())).bind fun r0 =>
  alt r0 (fun r1 =>
   some (r1.1))
   (fun r2 =>
   some (true))
noncomputable def spec_l05Less (one : List ((Int × (Int × Unit)) × ((Int × (Int × Unit)) × Unit))) (two : List ((Int × (Int × Unit)) × ((Int × (Int × Unit)) × Unit))) : Option (Bool) :=
  bif ((decide ((0 : Int) ≤ (0 : Int))) && (decide ((0 : Int) < ((one.length : Nat) : Int)))) then
   bif ((decide ((0 : Int) ≤ (0 : Int))) && (decide ((0 : Int) < ((one.length : Nat) : Int)))) then
    (spec_l01Distance (one.getD (0 : Int).toNat (((0 : Int), (0 : Int), ()), ((0 : Int), (0 : Int), ()), ())).1 (one.getD (0 : Int).toNat (((0 : Int), (0 : Int), ()), ((0 : Int), (0 : Int), ()), ())).2.1).bind fun r0 =>
    bif ((decide ((0 : Int) ≤ (0 : Int))) && (decide ((0 : Int) < ((two.length : Nat) : Int)))) then
     bif ((decide ((0 : Int) ≤ (0 : Int))) && (decide ((0 : Int) < ((two.length : Nat) : Int)))) then
      (spec_l01Distance (two.getD (0 : Int).toNat (((0 : Int), (0 : Int), ()), ((0 : Int), (0 : Int), ()), ())).1 (two.getD (0 : Int).toNat (((0 : Int), (0 : Int), ()), ((0 : Int), (0 : Int), ()), ())).2.1).bind fun r1 =>
      (spec_l01Less r0 r1).bind fun r2 =>
      some (r2)
     else none
    else none
   else none
  else none
noncomputable def spec_l05Back_v2 (l : ((Int × (Int × Unit)) × ((Int × (Int × Unit)) × Unit))) (m : ((Int × (Int × Unit)) × ((Int × (Int × Unit)) × Unit))) (majors : List ((Int × (Int × Unit)) × ((Int × (Int × Unit)) × Unit))) : Option ((List ((Int × (Int × Unit)) × ((Int × (Int × Unit)) × Unit))) × Int) :=
  bif (((l.1.1 == m.1.1) && ((l.1.2.1 == m.1.2.1) && true)) && (((l.2.1.1 == m.2.1.1) && ((l.2.1.2.1 == m.2.1.2.1) && true)) && true)) then
   some (majors, (0 : Int))
  else (spec_l01Halves l.1).bind fun r0 =>
   (spec_l01Halves l.2.1).bind fun r1 =>
   bif (!r0.2.2) then
    some (([] : List ((Int × (Int × Unit)) × ((Int × (Int × Unit)) × Unit))), (3 : Int))
   else bif (!r1.2.2) then
     some (([] : List ((Int × (Int × Unit)) × ((Int × (Int × Unit)) × Unit))), (3 : Int))
    else (spec_l03Of r0.1 r1.1).bind fun r2 =>
     (spec_l03Of r0.2.1 r1.2.1).bind fun r3 =>
     (spec_l05Pair r2 r3).bind fun r4 =>
     (spec_l03Of r0.1 r1.2.1).bind fun r5 =>
     (spec_l03Of r0.2.1 r1.1).bind fun r6 =>
     (spec_l05Pair r5 r6).bind fun r7 =>
     (spec_l05Free r4 majors).bind fun r8 =>
     (spec_l05Free r7 majors).bind fun r9 =>
     bif (!r8) then
      bif (!r9) then
       some (([] : List ((Int × (Int × Unit)) × ((Int × (Int × Unit)) × Unit))), (5 : Int))
      else bif r8 then
        bif (!r9) then
         some (r4, (0 : Int))
        else (spec_l05Less r4 r7).bind fun r10 =>
         bif r10 then
          some (r4, (0 : Int))
         else some (r7, (0 : Int))
       else some (r7, (0 : Int))
     else bif r8 then
       bif (!r9) then
        some (r4, (0 : Int))
       else (spec_l05Less r4 r7).bind fun r11 =>
        bif r11 then
         some (r4, (0 : Int))
        else some (r7, (0 : Int))
      else some (r7, (0 : Int))
noncomputable def spec_l05Put_l0 : (List ((Int × (Int × Unit)) × ((Int × (Int × Unit)) × Unit))) × (((Int × (Int × Unit)) × ((Int × (Int × Unit)) × Unit))) × Int × Unit → Option (Ctl ((List ((Int × (Int × Unit)) × ((Int × (Int × Unit)) × Unit))) × (((Int × (Int × Unit)) × ((Int × (Int × Unit)) × Unit))) × Int × Unit) (((List ((Int × (Int × Unit)) × ((Int × (Int × Unit)) × Unit))) × (List ((Int × (Int × Unit)) × ((Int × (Int × Unit)) × Unit))) × (List ((Int × (Int × Unit)) × ((Int × (Int × Unit)) × Unit))) × Unit) ⊕ ((List ((Int × (Int × Unit)) × ((Int × (Int × Unit)) × Unit))) × (((Int × (Int × Unit)) × ((Int × (Int × Unit)) × Unit))) × Unit)))
  | (list, (l, (i, ()))) =>
    bif (decide (i < ((list.length : Nat) : Int))) then
   bif ((decide ((0 : Int) ≤ i)) && (decide (i < ((list.length : Nat) : Int)))) then
    (spec_l03Cross (list.getD i.toNat (((0 : Int), (0 : Int), ()), ((0 : Int), (0 : Int), ()), ())) l).bind fun r0 =>
    bif r0 then
     some (.stop (.inl (list, (list, (list, ())))))
    else some (.next (list, (l, ((w64 (i + (1 : Int))), ()))))
   else none
  else some (.stop (.inr ((list, (l, ())))))
noncomputable def spec_l03Insert_v3_l0 : (List ((Int × (Int × Unit)) × ((Int × (Int × Unit)) × Unit))) × (((Int × (Int × Unit)) × ((Int × (Int × Unit)) × Unit))) × Int × Unit → Option (Ctl ((List ((Int × (Int × Unit)) × ((Int × (Int × Unit)) × Unit))) × (((Int × (Int × Unit)) × ((Int × (Int × Unit)) × Unit))) × Int × Unit) (((List ((Int × (Int × Unit)) × ((Int × (Int × Unit)) × Unit))) × (((Int × (Int × Unit)) × ((Int × (Int × Unit)) × Unit))) × Int × Unit)))
  | (list, (l, (at', ()))) =>
    bif (decide (at' < ((list.length : Nat) : Int))) then
   bif ((decide ((0 : Int) ≤ at')) && (decide (at' < ((list.length : Nat) : Int)))) then
    (spec_l03Less (list.getD at'.toNat (((0 : Int), (0 : Int), ()), ((0 : Int), (0 : Int), ()), ())) l).bind fun r0 =>
    bif r0 then
     some (.next (list, (l, ((w64 (at' + (1 : Int))), ()))))
    else some (.stop ((list, (l, (at', ())))))
   else none
  else some (.stop ((list, (l, (at', ())))))
noncomputable def spec_l03Insert_v3 (list : List ((Int × (Int × Unit)) × ((Int × (Int × Unit)) × Unit))) (l : ((Int × (Int × Unit)) × ((Int × (Int × Unit)) × Unit))) : Option ((List ((Int × (Int × Unit)) × ((Int × (Int × Unit)) × Unit)))) :=
  (loop spec_l03Insert_v3_l0 (list, l, (0 : Int), ())).bind fun r0 =>
  bif (decide (r0.2.2.1 < ((r0.1.length : Nat) : Int))) then
   bif ((decide ((0 : Int) ≤ r0.2.2.1)) && (decide (r0.2.2.1 < ((r0.1.length : Nat) : Int)))) then
    bif ((((r0.1.getD r0.2.2.1.toNat (((0 : Int), (0 : Int), ()), ((0 : Int), (0 : Int), ()), ())).1.1 == r0.2.1.1.1) && (((r0.1.getD r0.2.2.1.toNat (((0 : Int), (0 : Int), ()), ((0 : Int), (0 : Int), ()), ())).1.2.1 == r0.2.1.1.2.1) && true)) && ((((r0.1.getD r0.2.2.1.toNat (((0 : Int), (0 : Int), ()), ((0 : Int), (0 : Int), ()), ())).2.1.1 == r0.2.1.2.1.1) && (((r0.1.getD r0.2.2.1.toNat (((0 : Int), (0 : Int), ()), ((0 : Int), (0 : Int), ()), ())).2.1.2.1 == r0.2.1.2.1.2.1) && true)) && true)) then
     some (r0.1)
    else bif (((decide ((0 : Int) ≤ r0.2.2.1)) && (decide (r0.2.2.1 ≤ ((r0.1.length : Nat) : Int)))) && (decide (((r0.1.length : Nat) : Int) ≤ ((r0.1.length : Nat) : Int)))) then
      bif (decide ((([r0.2.1].length + ((r0.1.take ((r0.1.length : Nat) : Int).toNat).drop r0.2.2.1.toNat).length) * 32) ≤ 140737488355328)) then
       bif (((decide ((0 : Int) ≤ (0 : Int))) && (decide ((0 : Int) ≤ r0.2.2.1))) && (decide (r0.2.2.1 ≤ ((r0.1.length : Nat) : Int)))) then
        bif (decide (((([] : List ((Int × (Int × Unit)) × ((Int × (Int × Unit)) × Unit))).length + ((r0.1.take r0.2.2.1.toNat).drop (0 : Int).toNat).length) * 32) ≤ 140737488355328)) then
         bif (decide ((((([] : List ((Int × (Int × Unit)) × ((Int × (Int × Unit)) × Unit))) ++ ((r0.1.take r0.2.2.1.toNat).drop (0 : Int).toNat)).length + ([r0.2.1] ++ ((r0.1.take ((r0.1.length : Nat) : Int).toNat).drop r0.2.2.1.toNat)).length) * 32) ≤ 140737488355328)) then
          some (((([] : List ((Int × (Int × Unit)) × ((Int × (Int × Unit)) × Unit))) ++ ((r0.1.take r0.2.2.1.toNat).drop (0 : Int).toNat)) ++ ([r0.2.1] ++ ((r0.1.take ((r0.1.length : Nat) : Int).toNat).drop r0.2.2.1.toNat))))
         else none
        else none
       else none
      else none
     else none
   else none
  else bif (((decide ((0 : Int) ≤ r0.2.2.1)) && (decide (r0.2.2.1 ≤ ((r0.1.length : Nat) : Int)))) && (decide (((r0.1.length : Nat) : Int) ≤ ((r0.1.length : Nat) : Int)))) then
    bif (decide ((([r0.2.1].length + ((r0.1.take ((r0.1.length : Nat) : Int).toNat).drop r0.2.2.1.toNat).length) * 32) ≤ 140737488355328)) then
     bif (((decide ((0 : Int) ≤ (0 : Int))) && (decide ((0 : Int) ≤ r0.2.2.1))) && (decide (r0.2.2.1 ≤ ((r0.1.length : Nat) : Int)))) then
      bif (decide (((([] : List ((Int × (Int × Unit)) × ((Int × (Int × Unit)) × Unit))).length + ((r0.1.take r0.2.2.1.toNat).drop (0 : Int).toNat).length) * 32) ≤ 140737488355328)) then
       bif (decide ((((([] : List ((Int × (Int × Unit)) × ((Int × (Int × Unit)) × Unit))) ++ ((r0.1.take r0.2.2.1.toNat).drop (0 : Int).toNat)).length + ([r0.2.1] ++ ((r0.1.take ((r0.1.length : Nat) : Int).toNat).drop r0.2.2.1.toNat)).length) * 32) ≤ 140737488355328)) then
        some (((([] : List ((Int × (Int × Unit)) × ((Int × (Int × Unit)) × Unit))) ++ ((r0.1.take r0.2.2.1.toNat).drop (0 : Int).toNat)) ++ ([r0.2.1] ++ ((r0.1.take ((r0.1.length : Nat) : Int).toNat).drop r0.2.2.1.toNat))))
       else none
      else none
     else none
    else none
   else none
noncomputable def spec_l05Put (list : List ((Int × (Int × Unit)) × ((Int × (Int × Unit)) × Unit))) (l : ((Int × (Int × Unit)) × ((Int × (Int × Unit)) × Unit))) : Option ((List ((Int × (Int × Unit)) × ((Int × (Int × Unit)) × Unit)))) :=
  (loop spec_l05Put_l0 (list, l, (0 : Int), ())).bind fun r0 =>
  alt r0 (fun r1 =>
   some (r1.2.1))
   (fun r2 =>
   (spec_l03Insert_v3 r2.1 r2.2.1).bind fun r3 =>
   some (r3))
noncomputable def spec_l05Deepen_v3_l0 : (List ((Int × (Int × Unit)) × ((Int × (Int × Unit)) × Unit))) × (List ((Int × (Int × Unit)) × ((Int × (Int × Unit)) × Unit))) × (((Int × (Int × Unit)) × ((Int × (Int × Unit)) × Unit))) × (List ((Int × (Int × Unit)) × ((Int × (Int × Unit)) × Unit))) × Int × (List ((Int × (Int × Unit)) × ((Int × (Int × Unit)) × Unit))) × Unit → Option (Ctl ((List ((Int × (Int × Unit)) × ((Int × (Int × Unit)) × Unit))) × (List ((Int × (Int × Unit)) × ((Int × (Int × Unit)) × Unit))) × (((Int × (Int × Unit)) × ((Int × (Int × Unit)) × Unit))) × (List ((Int × (Int × Unit)) × ((Int × (Int × Unit)) × Unit))) × Int × (List ((Int × (Int × Unit)) × ((Int × (Int × Unit)) × Unit))) × Unit) (((List ((Int × (Int × Unit)) × ((Int × (Int × Unit)) × Unit))) × (List ((Int × (Int × Unit)) × ((Int × (Int × Unit)) × Unit))) × Int × (List ((Int × (Int × Unit)) × ((Int × (Int × Unit)) × Unit))) × (List ((Int × (Int × Unit)) × ((Int × (Int × Unit)) × Unit))) × Unit) ⊕ ((List ((Int × (Int × Unit)) × ((Int × (Int × Unit)) × Unit))) × (List ((Int × (Int × Unit)) × ((Int × (Int × Unit)) × Unit))) × Int × (List ((Int × (Int × Unit)) × ((Int × (Int × Unit)) × Unit))) × (List ((Int × (Int × Unit)) × ((Int × (Int × Unit)) × Unit))) × (List ((Int × (Int × Unit)) × ((Int × (Int × Unit)) × Unit))) × Unit) ⊕ ((List ((Int × (Int × Unit)) × ((Int × (Int × Unit)) × Unit))) × (List ((Int × (Int × Unit)) × ((Int × (Int × Unit)) × Unit))) × (List ((Int × (Int × Unit)) × ((Int × (Int × Unit)) × Unit))) × Unit)))
  | (list, (majors, (m, (out, (i, (t12, ())))))) =>
    bif (decide (i < ((list.length : Nat) : Int))) then
   bif ((decide ((0 : Int) ≤ i)) && (decide (i < ((list.length : Nat) : Int)))) then
    (spec_l05Back_v2 (list.getD i.toNat (((0 : Int), (0 : Int), ()), ((0 : Int), (0 : Int), ()), ())) m majors).bind fun r0 =>
    bif (r0.2 != (0 : Int)) then
     some (.stop (.inl (list, (([] : List ((Int × (Int × Unit)) × ((Int × (Int × Unit)) × Unit))), (r0.2, (out, (t12, ())))))))
    else bif ((decide ((0 : Int) ≤ (0 : Int))) && (decide ((0 : Int) < ((r0.1.length : Nat) : Int)))) then
      (spec_l05Put out (r0.1.getD (0 : Int).toNat (((0 : Int), (0 : Int), ()), ((0 : Int), (0 : Int), ()), ()))).bind fun r1 =>
      bif ((decide ((0 : Int) ≤ (1 : Int))) && (decide ((1 : Int) < ((r0.1.length : Nat) : Int)))) then
       (spec_l05Put r1 (r0.1.getD (1 : Int).toNat (((0 : Int), (0 : Int), ()), ((0 : Int), (0 : Int), ()), ()))).bind fun r2 =>
       bif (decide (((r2.length : Nat) : Int) > (200 : Int))) then
        some (.stop (.inr (.inl (list, (([] : List ((Int × (Int × Unit)) × ((Int × (Int × Unit)) × Unit))), ((3 : Int), (r2, (t12, (r2, ())))))))))
       else some (.next (list, (majors, (m, (r2, ((w64 (i + (1 : Int))), (t12, ())))))))
      else none
     else none
   else none
  else some (.stop (.inr (.inr ((list, (out, (t12, ())))))))
noncomputable def spec_l05Deepen_v3 (list : List ((Int × (Int × Unit)) × ((Int × (Int × Unit)) × Unit))) (m : ((Int × (Int × Unit)) × ((Int × (Int × Unit)) × Unit))) (majors : List ((Int × (Int × Unit)) × ((Int × (Int × Unit)) × Unit))) : Option ((List ((Int × (Int × Unit)) × ((Int × (Int × Unit)) × Unit))) × Int) :=
  (loop spec_l05Deepen_v3_l0 (list, majors, m, list, (0 : Int), list, ())).bind fun r0 =>
  alt r0 (fun r1 =>
   some (r1.2.1, r1.2.2.1))
   (fun r2 =>
   alt r2 (fun r3 =>
    some (r3.2.1, r3.2.2.1))
    (fun r4 =>
    some (r4.2.1, (0 : Int))))
noncomputable def spec_l05Depths_v3_l0 : Int × (((Int × (Int × Unit)) × ((Int × (Int × Unit)) × Unit))) × (List ((Int × (Int × Unit)) × ((Int × (Int × Unit)) × Unit))) × (List ((Int × (Int × Unit)) × ((Int × (Int × Unit)) × Unit))) × (List ((Int × (Int × Unit)) × ((Int × (Int × Unit)) × Unit))) × Int × Unit → Option (Ctl (Int × (((Int × (Int × Unit)) × ((Int × (Int × Unit)) × Unit))) × (List ((Int × (Int × Unit)) × ((Int × (Int × Unit)) × Unit))) × (List ((Int × (Int × Unit)) × ((Int × (Int × Unit)) × Unit))) × (List ((Int × (Int × Unit)) × ((Int × (Int × Unit)) × Unit))) × Int × Unit) ((Int × (((Int × (Int × Unit)) × ((Int × (Int × Unit)) × Unit))) × (List ((Int × (Int × Unit)) × ((Int × (Int × Unit)) × Unit))) × (List ((Int × (Int × Unit)) × ((Int × (Int × Unit)) × Unit))) × Unit)))
  | (k, (m, (majors, (images, (list, (i, ())))))) =>
    bif (decide (i < ((images.length : Nat) : Int))) then
   bif ((decide ((0 : Int) ≤ i)) && (decide (i < ((images.length : Nat) : Int)))) then
    (spec_l03Insert list (images.getD i.toNat (((0 : Int), (0 : Int), ()), ((0 : Int), (0 : Int), ()), ()))).bind fun r0 =>
    some (.next (k, (m, (majors, (images, (r0, ((w64 (i + (1 : Int))), ())))))))
   else none
  else some (.stop ((k, (m, (majors, (list, ()))))))
noncomputable def spec_l05Depths_v3_l1 : Int × (((Int × (Int × Unit)) × ((Int × (Int × Unit)) × Unit))) × (List ((Int × (Int × Unit)) × ((Int × (Int × Unit)) × Unit))) × (List ((Int × (Int × Unit)) × ((Int × (Int × Unit)) × Unit))) × (List (List ((Int × (Int × Unit)) × ((Int × (Int × Unit)) × Unit)))) × Unit → Option (Ctl (Int × (((Int × (Int × Unit)) × ((Int × (Int × Unit)) × Unit))) × (List ((Int × (Int × Unit)) × ((Int × (Int × Unit)) × Unit))) × (List ((Int × (Int × Unit)) × ((Int × (Int × Unit)) × Unit))) × (List (List ((Int × (Int × Unit)) × ((Int × (Int × Unit)) × Unit)))) × Unit) (((List (List ((Int × (Int × Unit)) × ((Int × (Int × Unit)) × Unit)))) × Int × (List (List ((Int × (Int × Unit)) × ((Int × (Int × Unit)) × Unit)))) × Unit) ⊕ ((List (List ((Int × (Int × Unit)) × ((Int × (Int × Unit)) × Unit)))) × Unit)))
  | (k, (m, (majors, (list, (out, ()))))) =>
    bif (decide (k > (0 : Int))) then
   (spec_l05Deepen_v3 list m majors).bind fun r0 =>
   bif (r0.2 != (0 : Int)) then
    some (.stop (.inl (([] : List (List ((Int × (Int × Unit)) × ((Int × (Int × Unit)) × Unit)))), (r0.2, (out, ())))))
   else bif (decide (((out.length + [r0.1].length) * 24) ≤ 140737488355328)) then
     some (.next ((w64 (k - (1 : Int))), (m, (majors, (r0.1, ((out ++ [r0.1]), ()))))))
    else none
  else some (.stop (.inr ((out, ()))))
noncomputable def spec_l05Depths_v3 (m : ((Int × (Int × Unit)) × ((Int × (Int × Unit)) × Unit))) (k : Int) : Option ((List (List ((Int × (Int × Unit)) × ((Int × (Int × Unit)) × Unit)))) × Int) :=
  (spec_l05Minor m).bind fun r0 =>
  bif (r0.2 != (0 : Int)) then
   some (([] : List (List ((Int × (Int × Unit)) × ((Int × (Int × Unit)) × Unit)))), r0.2)
  else (spec_l03Images m).bind fun r1 =>
   (loop spec_l05Depths_v3_l0 (k, m, r0.1, r1.1, ([] : List ((Int × (Int × Unit)) × ((Int × (Int × Unit)) × Unit))), (0 : Int), ())).bind fun r2 =>
   bif ((decide ((0 : Int) ≤ (0 : Int))) && (decide ((0 : Int) < ((r2.2.2.1.length : Nat) : Int)))) then
    (spec_l03Insert r2.2.2.2.1 (r2.2.2.1.getD (0 : Int).toNat (((0 : Int), (0 : Int), ()), ((0 : Int), (0 : Int), ()), ()))).bind fun r3 =>
    bif ((decide ((0 : Int) ≤ (1 : Int))) && (decide ((1 : Int) < ((r2.2.2.1.length : Nat) : Int)))) then
     (spec_l03Insert r3 (r2.2.2.1.getD (1 : Int).toNat (((0 : Int), (0 : Int), ()), ((0 : Int), (0 : Int), ()), ()))).bind fun r4 =>
     (loop spec_l05Depths_v3_l1 (r2.1, r2.2.1, r2.2.2.1, r4, [r4], ())).bind fun r5 =>
     alt r5 (fun r6 =>
      some (r6.1, r6.2.1))
      (fun r7 =>
      some (r7.1, (0 : Int)))
    else none
   else none
noncomputable def spec_CountByDepth_l0 : (List (List ((Int × (Int × Unit)) × ((Int × (Int × Unit)) × Unit)))) × (List Int) × Int × Unit → Option (Ctl ((List (List ((Int × (Int × Unit)) × ((Int × (Int × Unit)) × Unit)))) × (List Int) × Int × Unit) (((List Int) × Unit)))
  | (list, (out, (i, ()))) =>
    bif (decide (i < ((list.length : Nat) : Int))) then
   bif ((decide ((0 : Int) ≤ i)) && (decide (i < ((list.length : Nat) : Int)))) then
    bif (decide (((out.length + [(((list.getD i.toNat ([] : List ((Int × (Int × Unit)) × ((Int × (Int × Unit)) × Unit)))).length : Nat) : Int)].length) * 8) ≤ 140737488355328)) then
     some (.next (list, ((out ++ [(((list.getD i.toNat ([] : List ((Int × (Int × Unit)) × ((Int × (Int × Unit)) × Unit)))).length : Nat) : Int)]), ((w64 (i + (1 : Int))), ()))))
    else none
   else none
  else some (.stop ((out, ())))
noncomputable def spec_CountByDepth (m : ((Int × (Int × Unit)) × ((Int × (Int × Unit)) × Unit))) (k : Int) : Option ((List Int) × Int) :=
  (spec_l03Is m).bind fun r0 =>
  bif (!r0) then
   some (([] : List Int), (1 : Int))
  else (spec_l01In k (0 : Int) (6 : Int)).bind fun r1 =>
   bif (!r1) then
    some (([] : List Int), (2 : Int))
   else (spec_l05Depths_v3 m k).bind fun r2 =>
    bif (r2.2 != (0 : Int)) then
     some (([] : List Int), r2.2)
    else (loop spec_CountByDepth_l0 (r2.1, ([] : List Int), (0 : Int), ())).bind fun r3 =>
     some (r3.1, (0 : Int))
noncomputable def impl_within (n : Int) (low : Int) (high : Int) : Option (Bool) :=
  bif (decide (low ≤ n)) then
   some ((decide (n ≤ high)))
  else some (false)
noncomputable def impl_isDepth (k : Int) : Option (Bool) :=
  (impl_within k (0 : Int) (6 : Int)).bind fun r0 =>
  some (r0)
noncomputable def impl_divisor_l0 : Int × Int × Unit → Option (Ctl (Int × Int × Unit) ((Int × Unit)))
  | (a, (b, ())) =>
    bif (b != (0 : Int)) then
   bif (!(b == (0 : Int))) then
    some (.next (b, ((a.tmod b), ())))
   else none
  else some (.stop ((a, ())))
noncomputable def impl_divisor (a : Int) (b : Int) : Option (Int) :=
  (loop impl_divisor_l0 (a, b, ())).bind fun r0 =>
  some (r0.1)
noncomputable def impl_IsAngle (a : (Int × (Int × Unit))) : Option (Bool) :=
  (impl_within a.2.1 (1 : Int) (8191 : Int)).bind fun r0 =>
  bif r0 then
   (impl_within a.1 (0 : Int) (w64 (a.2.1 - (1 : Int)))).bind fun r1 =>
   bif r1 then
    (impl_divisor a.2.1 a.1).bind fun r2 =>
    some ((r2 == (1 : Int)))
   else some (false)
  else some (false)
noncomputable def cmp_isNaN_int64 (x : Int) : Option (Bool) :=
  some ((x != x))
noncomputable def cmp_Compare_int64 (x : Int) (y : Int) : Option (Int) :=
  (cmp_isNaN_int64 x).bind fun r0 =>
  (cmp_isNaN_int64 y).bind fun r1 =>
  bif r0 then
   bif r1 then
    some ((0 : Int))
   else some ((-1 : Int))
  else bif r1 then
    some ((1 : Int))
   else bif (decide (x < y)) then
     some ((-1 : Int))
    else bif (decide (x > y)) then
      some ((1 : Int))
     else some ((0 : Int))
noncomputable def impl_Angle_compare (a : (Int × (Int × Unit))) (b : (Int × (Int × Unit))) : Option (Int) :=
  (cmp_Compare_int64 (w64 (a.1 * b.2.1)) (w64 (b.1 * a.2.1))).bind fun r0 =>
  some (r0)
noncomputable def impl_IsLeaf (l : ((Int × (Int × Unit)) × ((Int × (Int × Unit)) × Unit))) : Option (Bool) :=
  (impl_IsAngle l.1).bind fun r0 =>
  bif r0 then
   (impl_IsAngle l.2.1).bind fun r1 =>
   bif r1 then
    (impl_Angle_compare l.1 l.2.1).bind fun r2 =>
    some ((decide (r2 < (0 : Int))))
   else some (false)
  else some (false)
noncomputable def impl_areAll_impl_Leaf_f1 (x : ((Int × (Int × Unit)) × ((Int × (Int × Unit)) × Unit))) : Option (Bool) :=
  (impl_IsLeaf x).bind fun r0 =>
  some ((!r0))
noncomputable def slices_IndexFunc__impl_Leaf_impl_Leaf_l0 : (List ((Int × (Int × Unit)) × ((Int × (Int × Unit)) × Unit))) × Unit × ((Unit × Unit) × Unit) × Int × Int × Unit → Option (Ctl ((List ((Int × (Int × Unit)) × ((Int × (Int × Unit)) × Unit))) × Unit × ((Unit × Unit) × Unit) × Int × Int × Unit) ((Int × Unit) ⊕ (Unit)))
  | (s, ((), (((), ()), ()), (t7, (t8, ())))) =>
    bif (decide (t8 < t7)) then
   bif ((decide ((0 : Int) ≤ t8)) && (decide (t8 < ((s.length : Nat) : Int)))) then
    (impl_areAll_impl_Leaf_f1 (s.getD t8.toNat (((0 : Int), (0 : Int), ()), ((0 : Int), (0 : Int), ()), ()))).bind fun r0 =>
    bif r0 then
     some (.stop (.inl (t8, ())))
    else some (.next (s, ((), (((), ()), ()), (t7, ((w64 (t8 + (1 : Int))), ())))))
   else none
  else some (.stop (.inr (())))
noncomputable def slices_IndexFunc__impl_Leaf_impl_Leaf (s : List ((Int × (Int × Unit)) × ((Int × (Int × Unit)) × Unit))) : Option (Int) :=
  (loop slices_IndexFunc__impl_Leaf_impl_Leaf_l0 (s, (), (((), ()), ()), ((s.length : Nat) : Int), (0 : Int), ())).bind fun r0 =>
  alt r0 (fun r1 =>
   some (r1.1))
   (fun r2 =>
   some ((-1 : Int)))
noncomputable def slices_ContainsFunc__impl_Leaf_impl_Leaf (s : List ((Int × (Int × Unit)) × ((Int × (Int × Unit)) × Unit))) : Option (Bool) :=
  (slices_IndexFunc__impl_Leaf_impl_Leaf s).bind fun r0 =>
  some ((decide (r0 ≥ (0 : Int))))
noncomputable def impl_areAll_impl_Leaf (list : List ((Int × (Int × Unit)) × ((Int × (Int × Unit)) × Unit))) : Option (Bool) :=
  (slices_ContainsFunc__impl_Leaf_impl_Leaf list).bind fun r0 =>
  some ((!r0))
noncomputable def impl_leavesCode (list : List ((Int × (Int × Unit)) × ((Int × (Int × Unit)) × Unit))) : Option (Int) :=
  (impl_areAll_impl_Leaf list).bind fun r0 =>
  bif (!r0) then
   some ((1 : Int))
  else some ((0 : Int))
noncomputable def impl_angle (num : Int) (den : Int) : Option ((Int × (Int × Unit))) :=
  bif (!(den == (0 : Int))) then
   bif (!(den == (0 : Int))) then
    (impl_divisor den ((w64 ((num.tmod den) + den)).tmod den)).bind fun r0 =>
    bif (!(r0 == (0 : Int))) then
     bif (!(r0 == (0 : Int))) then
      some (((w64 (((w64 ((num.tmod den) + den)).tmod den).tdiv r0)), (w64 (den.tdiv r0)), ()))
     else none
    else none
   else none
  else none
noncomputable def impl_Angle_minus (a : (Int × (Int × Unit))) (b : (Int × (Int × Unit))) : Option ((Int × (Int × Unit))) :=
  (impl_angle (w64 ((w64 (a.1 * b.2.1)) - (w64 (b.1 * a.2.1)))) (w64 (a.2.1 * b.2.1))).bind fun r0 =>
  some (r0)
noncomputable def impl_Angle_distance (a : (Int × (Int × Unit))) (b : (Int × (Int × Unit))) : Option ((Int × (Int × Unit))) :=
  (impl_Angle_minus a b).bind fun r0 =>
  (impl_Angle_minus b a).bind fun r1 =>
  (impl_Angle_compare r0 r1).bind fun r2 =>
  bif (decide (r2 < (0 : Int))) then
   some (r0)
  else some (r1)
noncomputable def impl_Leaf_size (l : ((Int × (Int × Unit)) × ((Int × (Int × Unit)) × Unit))) : Option ((Int × (Int × Unit))) :=
  (impl_Angle_distance l.1 l.2.1).bind fun r0 =>
  some (r0)
noncomputable def impl_Leaf_isShort (l : ((Int × (Int × Unit)) × ((Int × (Int × Unit)) × Unit))) : Option (Bool) :=
  (impl_Leaf_size l).bind fun r0 =>
  (impl_Angle_compare r0 ((1 : Int), (3 : Int), ())).bind fun r1 =>
  some ((decide (r1 ≤ (0 : Int))))
noncomputable def slices_Index__impl_Leaf_impl_Leaf_l0 : (List ((Int × (Int × Unit)) × ((Int × (Int × Unit)) × Unit))) × (((Int × (Int × Unit)) × ((Int × (Int × Unit)) × Unit))) × Int × Int × Unit → Option (Ctl ((List ((Int × (Int × Unit)) × ((Int × (Int × Unit)) × Unit))) × (((Int × (Int × Unit)) × ((Int × (Int × Unit)) × Unit))) × Int × Int × Unit) ((Int × Unit) ⊕ (Unit)))
  | (s, (v, (t7, (t8, ())))) =>
    bif (decide (t8 < t7)) then
   bif ((decide ((0 : Int) ≤ t8)) && (decide (t8 < ((s.length : Nat) : Int)))) then
    bif (((v.1.1 == (s.getD t8.toNat (((0 : Int), (0 : Int), ()), ((0 : Int), (0 : Int), ()), ())).1.1) && ((v.1.2.1 == (s.getD t8.toNat (((0 : Int), (0 : Int), ()), ((0 : Int), (0 : Int), ()), ())).1.2.1) && true)) && (((v.2.1.1 == (s.getD t8.toNat (((0 : Int), (0 : Int), ()), ((0 : Int), (0 : Int), ()), ())).2.1.1) && ((v.2.1.2.1 == (s.getD t8.toNat (((0 : Int), (0 : Int), ()), ((0 : Int), (0 : Int), ()), ())).2.1.2.1) && true)) && true)) then
     some (.stop (.inl (t8, ())))
    else some (.next (s, (v, (t7, ((w64 (t8 + (1 : Int))), ())))))
   else none
  else some (.stop (.inr (())))
noncomputable def slices_Index__impl_Leaf_impl_Leaf (s : List ((Int × (Int × Unit)) × ((Int × (Int × Unit)) × Unit))) (v : ((Int × (Int × Unit)) × ((Int × (Int × Unit)) × Unit))) : Option (Int) :=
  (loop slices_Index__impl_Leaf_impl_Leaf_l0 (s, v, ((s.length : Nat) : Int), (0 : Int), ())).bind fun r0 =>
  alt r0 (fun r1 =>
   some (r1.1))
   (fun r2 =>
   some ((-1 : Int)))
noncomputable def slices_Contains__impl_Leaf_impl_Leaf (s : List ((Int × (Int × Unit)) × ((Int × (Int × Unit)) × Unit))) (v : ((Int × (Int × Unit)) × ((Int × (Int × Unit)) × Unit))) : Option (Bool) :=
  (slices_Index__impl_Leaf_impl_Leaf s v).bind fun r0 =>
  some ((decide (r0 ≥ (0 : Int))))
noncomputable def impl_half  : Option ((Int × (Int × Unit))) :=
  some (((1 : Int), (2 : Int), ()))
noncomputable def impl_Leaf_isDiameter (l : ((Int × (Int × Unit)) × ((Int × (Int × Unit)) × Unit))) : Option (Bool) :=
  (impl_Leaf_size l).bind fun r0 =>
  impl_half.bind fun r1 =>
  some (((r0.1 == r1.1) && ((r0.2.1 == r1.2.1) && true)))
noncomputable def impl_Angle_double (a : (Int × (Int × Unit))) : Option ((Int × (Int × Unit))) :=
  (impl_angle (w64 ((2 : Int) * a.1)) a.2.1).bind fun r0 =>
  some (r0)
noncomputable def impl_leaf (a : (Int × (Int × Unit))) (b : (Int × (Int × Unit))) : Option (((Int × (Int × Unit)) × ((Int × (Int × Unit)) × Unit))) :=
  (impl_Angle_compare a b).bind fun r0 =>
  bif (decide (r0 > (0 : Int))) then
   some ((b, a, ()))
  else some ((a, b, ()))
noncomputable def impl_Leaf_image (l : ((Int × (Int × Unit)) × ((Int × (Int × Unit)) × Unit))) : Option (((Int × (Int × Unit)) × ((Int × (Int × Unit)) × Unit))) :=
  (impl_Angle_double l.1).bind fun r0 =>
  (impl_Angle_double l.2.1).bind fun r1 =>
  (impl_leaf r0 r1).bind fun r2 =>
  some (r2)
noncomputable def impl_Leaf_images_l0 : (((Int × (Int × Unit)) × ((Int × (Int × Unit)) × Unit))) × (List ((Int × (Int × Unit)) × ((Int × (Int × Unit)) × Unit))) × Unit → Option (Ctl ((((Int × (Int × Unit)) × ((Int × (Int × Unit)) × Unit))) × (List ((Int × (Int × Unit)) × ((Int × (Int × Unit)) × Unit))) × Unit) (((List ((Int × (Int × Unit)) × ((Int × (Int × Unit)) × Unit))) × Bool × (List ((Int × (Int × Unit)) × ((Int × (Int × Unit)) × Unit))) × Unit) ⊕ ((List ((Int × (Int × Unit)) × ((Int × (Int × Unit)) × Unit))) × Unit)))
  | (l, (out, ())) =>
    (slices_Contains__impl_Leaf_impl_Leaf out l).bind fun r0 =>
  bif (!r0) then
   bif (((out.length : Nat) : Int) == (64 : Int)) then
    some (.stop (.inl (([] : List ((Int × (Int × Unit)) × ((Int × (Int × Unit)) × Unit))), (false, (out, ())))))
   else bif (decide (((out.length + [l].length) * 32) ≤ 140737488355328)) then
     (impl_Leaf_isDiameter l).bind fun r1 =>
     bif r1 then
      some (.stop (.inr (((out ++ [l]), ()))))
     else (impl_Leaf_image l).bind fun r2 =>
      some (.next (r2, ((out ++ [l]), ())))
    else none
  else some (.stop (.inr ((out, ()))))
noncomputable def impl_Leaf_images (l : ((Int × (Int × Unit)) × ((Int × (Int × Unit)) × Unit))) : Option ((List ((Int × (Int × Unit)) × ((Int × (Int × Unit)) × Unit))) × Bool) :=
  (loop impl_Leaf_images_l0 (l, ([] : List ((Int × (Int × Unit)) × ((Int × (Int × Unit)) × Unit))), ())).bind fun r0 =>
  alt r0 (fun r1 =>
   some (r1.1, r1.2.1))
   (fun r2 =>
   some (r2.1, true))
noncomputable def impl_Angle_halves (a : (Int × (Int × Unit))) : Option ((Int × (Int × Unit)) × (Int × (Int × Unit))) :=
  (impl_angle a.1 (w64 ((2 : Int) * a.2.1))).bind fun r0 =>
  (impl_angle (w64 (a.1 + a.2.1)) (w64 ((2 : Int) * a.2.1))).bind fun r1 =>
  some (r0, r1)
noncomputable def cmp_Or_int_l0 : (List Int) × Int × (List Int) × Int × Int × Unit → Option (Ctl ((List Int) × Int × (List Int) × Int × Int × Unit) ((Int × Unit) ⊕ (Int × Unit)))
  | (vals, (zero, (t6, (t7, (t8, ()))))) =>
    bif (decide (t8 < t7)) then
   bif ((decide ((0 : Int) ≤ t8)) && (decide (t8 < ((t6.length : Nat) : Int)))) then
    bif ((t6.getD t8.toNat (0 : Int)) != zero) then
     some (.stop (.inl ((t6.getD t8.toNat (0 : Int)), ())))
    else some (.next (vals, (zero, (t6, (t7, ((w64 (t8 + (1 : Int))), ()))))))
   else none
  else some (.stop (.inr ((zero, ()))))
noncomputable def cmp_Or_int (vals : List Int) : Option (Int) :=
  (loop cmp_Or_int_l0 (vals, (0 : Int), vals, ((vals.length : Nat) : Int), (0 : Int), ())).bind fun r0 =>
  alt r0 (fun r1 =>
   some (r1.1))
   (fun r2 =>
   some (r2.1))
noncomputable def impl_Leaf_compare (l : ((Int × (Int × Unit)) × ((Int × (Int × Unit)) × Unit))) (m : ((Int × (Int × Unit)) × ((Int × (Int × Unit)) × Unit))) : Option (Int) :=
  (impl_Angle_compare l.1 m.1).bind fun r0 =>
  (impl_Angle_compare l.2.1 m.2.1).bind fun r1 =>
  (cmp_Or_int [r0, r1]).bind fun r2 =>
  some (r2)
noncomputable def impl_two (l : ((Int × (Int × Unit)) × ((Int × (Int × Unit)) × Unit))) (m : ((Int × (Int × Unit)) × ((Int × (Int × Unit)) × Unit))) : Option ((List ((Int × (Int × Unit)) × ((Int × (Int × Unit)) × Unit)))) :=
  (impl_Leaf_compare l m).bind fun r0 =>
  bif (decide (r0 > (0 : Int))) then
   some ([m, l])
  else some ([l, m])
noncomputable def impl_areLimited_f1 (l : ((Int × (Int × Unit)) × ((Int × (Int × Unit)) × Unit))) : Option (Bool) :=
  some ((decide ((if (l.2.1.2.1 > l.1.2.1) then l.2.1.2.1 else l.1.2.1) ≤ (8191 : Int))))
noncomputable def impl_areAll_impl_Leaf_f1_v2 (x : ((Int × (Int × Unit)) × ((Int × (Int × Unit)) × Unit))) : Option (Bool) :=
  (impl_areLimited_f1 x).bind fun r0 =>
  some ((!r0))
noncomputable def slices_IndexFunc__impl_Leaf_impl_Leaf_v2_l0 : (List ((Int × (Int × Unit)) × ((Int × (Int × Unit)) × Unit))) × Unit × ((Unit × Unit) × Unit) × Int × Int × Unit → Option (Ctl ((List ((Int × (Int × Unit)) × ((Int × (Int × Unit)) × Unit))) × Unit × ((Unit × Unit) × Unit) × Int × Int × Unit) ((Int × Unit) ⊕ (Unit)))
  | (s, ((), (((), ()), ()), (t7, (t8, ())))) =>
    bif (decide (t8 < t7)) then
   bif ((decide ((0 : Int) ≤ t8)) && (decide (t8 < ((s.length : Nat) : Int)))) then
    (impl_areAll_impl_Leaf_f1_v2 (s.getD t8.toNat (((0 : Int), (0 : Int), ()), ((0 : Int), (0 : Int), ()), ()))).bind fun r0 =>
    bif r0 then
     some (.stop (.inl (t8, ())))
    else some (.next (s, ((), (((), ()), ()), (t7, ((w64 (t8 + (1 : Int))), ())))))
   else none
  else some (.stop (.inr (())))
noncomputable def slices_IndexFunc__impl_Leaf_impl_Leaf_v2 (s : List ((Int × (Int × Unit)) × ((Int × (Int × Unit)) × Unit))) : Option (Int) :=
  (loop slices_IndexFunc__impl_Leaf_impl_Leaf_v2_l0 (s, (), (((), ()), ()), ((s.length : Nat) : Int), (0 : Int), ())).bind fun r0 =>
  alt r0 (fun r1 =>
   some (r1.1))
   (fun r2 =>
   some ((-1 : Int)))
noncomputable def slices_ContainsFunc__impl_Leaf_impl_Leaf_v2 (s : List ((Int × (Int × Unit)) × ((Int × (Int × Unit)) × Unit))) : Option (Bool) :=
  (slices_IndexFunc__impl_Leaf_impl_Leaf_v2 s).bind fun r0 =>
  some ((decide (r0 ≥ (0 : Int))))
noncomputable def impl_areAll_impl_Leaf_v2 (list : List ((Int × (Int × Unit)) × ((Int × (Int × Unit)) × Unit))) : Option (Bool) :=
  (slices_ContainsFunc__impl_Leaf_impl_Leaf_v2 list).bind fun r0 =>
  some ((!r0))
noncomputable def impl_areLimited_v2 (list : List ((Int × (Int × Unit)) × ((Int × (Int × Unit)) × Unit))) : Option ((List ((Int × (Int × Unit)) × ((Int × (Int × Unit)) × Unit))) × Int) :=
  (impl_areAll_impl_Leaf_v2 list).bind fun r0 =>
  bif (!r0) then
   some (([] : List ((Int × (Int × Unit)) × ((Int × (Int × Unit)) × Unit))), (3 : Int))
  else some (list, (0 : Int))
noncomputable def impl_Leaf_majors (l : ((Int × (Int × Unit)) × ((Int × (Int × Unit)) × Unit))) : Option ((List ((Int × (Int × Unit)) × ((Int × (Int × Unit)) × Unit))) × Int) :=
  (impl_Angle_minus l.2.1 l.1).bind fun r0 =>
  (impl_Leaf_size l).bind fun r1 =>
  bif (!((r0.1 == r1.1) && ((r0.2.1 == r1.2.1) && true))) then
   (impl_Angle_halves l.2.1).bind fun r2 =>
   (impl_Angle_halves l.1).bind fun r3 =>
   (impl_leaf r3.1 r2.2).bind fun r4 =>
   (impl_leaf r2.1 r3.2).bind fun r5 =>
   (impl_two r4 r5).bind fun r6 =>
   (impl_areLimited_v2 r6).bind fun r7 =>
   some (r7.1, r7.2)
  else (impl_Angle_halves l.1).bind fun r8 =>
   (impl_Angle_halves l.2.1).bind fun r9 =>
   (impl_leaf r9.1 r8.2).bind fun r10 =>
   (impl_leaf r8.1 r9.2).bind fun r11 =>
   (impl_two r10 r11).bind fun r12 =>
   (impl_areLimited_v2 r12).bind fun r13 =>
   some (r13.1, r13.2)
noncomputable def impl_order (a : (Int × (Int × Unit))) (b : (Int × (Int × Unit))) (c : (Int × (Int × Unit))) : Option (Int) :=
  bif ((a.1 == b.1) && ((a.2.1 == b.2.1) && true)) then
   some ((0 : Int))
  else bif ((b.1 == c.1) && ((b.2.1 == c.2.1) && true)) then
    some ((0 : Int))
   else bif ((a.1 == c.1) && ((a.2.1 == c.2.1) && true)) then
     some ((0 : Int))
    else (impl_Angle_minus b a).bind fun r0 =>
     (impl_Angle_minus c a).bind fun r1 =>
     (impl_Angle_compare r0 r1).bind fun r2 =>
     bif (decide (r2 < (0 : Int))) then
      some ((1 : Int))
     else some ((-1 : Int))
noncomputable def impl_Leaf_cross (l : ((Int × (Int × Unit)) × ((Int × (Int × Unit)) × Unit))) (m : ((Int × (Int × Unit)) × ((Int × (Int × Unit)) × Unit))) : Option (Bool) :=
  (impl_order l.1 m.1 l.2.1).bind fun r0 =>
  (impl_order l.1 m.2.1 l.2.1).bind fun r1 =>
  some (((w64 (r0 * r1)) == (-1 : Int)))
noncomputable def slices_IndexFunc__impl_Leaf_impl_Leaf_v4_l0 : (List ((Int × (Int × Unit)) × ((Int × (Int × Unit)) × Unit))) × (((Int × (Int × Unit)) × ((Int × (Int × Unit)) × Unit)) × Unit) × Unit × Int × Int × Unit → Option (Ctl ((List ((Int × (Int × Unit)) × ((Int × (Int × Unit)) × Unit))) × (((Int × (Int × Unit)) × ((Int × (Int × Unit)) × Unit)) × Unit) × Unit × Int × Int × Unit) ((Int × Unit) ⊕ (Unit)))
  | (s, ((f, ()), (), (t7, (t8, ())))) =>
    bif (decide (t8 < t7)) then
   bif ((decide ((0 : Int) ≤ t8)) && (decide (t8 < ((s.length : Nat) : Int)))) then
    (impl_Leaf_cross f (s.getD t8.toNat (((0 : Int), (0 : Int), ()), ((0 : Int), (0 : Int), ()), ()))).bind fun r0 =>
    bif r0 then
     some (.stop (.inl (t8, ())))
    else some (.next (s, ((f, ()), (), (t7, ((w64 (t8 + (1 : Int))), ())))))
   else none
  else some (.stop (.inr (())))
noncomputable def slices_IndexFunc__impl_Leaf_impl_Leaf_v4 (s : List ((Int × (Int × Unit)) × ((Int × (Int × Unit)) × Unit))) (f_0 : ((Int × (Int × Unit)) × ((Int × (Int × Unit)) × Unit))) : Option (Int) :=
  (loop slices_IndexFunc__impl_Leaf_impl_Leaf_v4_l0 (s, (f_0, ()), (), ((s.length : Nat) : Int), (0 : Int), ())).bind fun r0 =>
  alt r0 (fun r1 =>
   some (r1.1))
   (fun r2 =>
   some ((-1 : Int)))
noncomputable def slices_ContainsFunc__impl_Leaf_impl_Leaf_v4 (s : List ((Int × (Int × Unit)) × ((Int × (Int × Unit)) × Unit))) (f_0 : ((Int × (Int × Unit)) × ((Int × (Int × Unit)) × Unit))) : Option (Bool) :=
  (slices_IndexFunc__impl_Leaf_impl_Leaf_v4 s f_0).bind fun r0 =>
  some ((decide (r0 ≥ (0 : Int))))
noncomputable def impl_haveCross_f1 (l : ((Int × (Int × Unit)) × ((Int × (Int × Unit)) × Unit))) (t1 : List ((Int × (Int × Unit)) × ((Int × (Int × Unit)) × Unit))) : Option (Bool) :=
  (slices_ContainsFunc__impl_Leaf_impl_Leaf_v4 t1 l).bind fun r0 =>
  some (r0)
noncomputable def slices_IndexFunc__impl_Leaf_impl_Leaf_v3_l0 : (List ((Int × (Int × Unit)) × ((Int × (Int × Unit)) × Unit))) × Unit × (List ((Int × (Int × Unit)) × ((Int × (Int × Unit)) × Unit)) × Unit) × Int × Int × Unit → Option (Ctl ((List ((Int × (Int × Unit)) × ((Int × (Int × Unit)) × Unit))) × Unit × (List ((Int × (Int × Unit)) × ((Int × (Int × Unit)) × Unit)) × Unit) × Int × Int × Unit) ((Int × Unit) ⊕ (Unit)))
  | (s, ((), (f, ()), (t7, (t8, ())))) =>
    bif (decide (t8 < t7)) then
   bif ((decide ((0 : Int) ≤ t8)) && (decide (t8 < ((s.length : Nat) : Int)))) then
    (impl_haveCross_f1 (s.getD t8.toNat (((0 : Int), (0 : Int), ()), ((0 : Int), (0 : Int), ()), ())) f).bind fun r0 =>
    bif r0 then
     some (.stop (.inl (t8, ())))
    else some (.next (s, ((), (f, ()), (t7, ((w64 (t8 + (1 : Int))), ())))))
   else none
  else some (.stop (.inr (())))
noncomputable def slices_IndexFunc__impl_Leaf_impl_Leaf_v3 (s : List ((Int × (Int × Unit)) × ((Int × (Int × Unit)) × Unit))) (f_0 : List ((Int × (Int × Unit)) × ((Int × (Int × Unit)) × Unit))) : Option (Int) :=
  (loop slices_IndexFunc__impl_Leaf_impl_Leaf_v3_l0 (s, (), (f_0, ()), ((s.length : Nat) : Int), (0 : Int), ())).bind fun r0 =>
  alt r0 (fun r1 =>
   some (r1.1))
   (fun r2 =>
   some ((-1 : Int)))
noncomputable def slices_ContainsFunc__impl_Leaf_impl_Leaf_v3 (s : List ((Int × (Int × Unit)) × ((Int × (Int × Unit)) × Unit))) (f_0 : List ((Int × (Int × Unit)) × ((Int × (Int × Unit)) × Unit))) : Option (Bool) :=
  (slices_IndexFunc__impl_Leaf_impl_Leaf_v3 s f_0).bind fun r0 =>
  some ((decide (r0 ≥ (0 : Int))))
noncomputable def impl_haveCross (list : List ((Int × (Int × Unit)) × ((Int × (Int × Unit)) × Unit))) (other : List ((Int × (Int × Unit)) × ((Int × (Int × Unit)) × Unit))) : Option (Bool) :=
  (slices_ContainsFunc__impl_Leaf_impl_Leaf_v3 list other).bind fun r0 =>
  some (r0)
noncomputable def impl_minorOf_f1 (l : ((Int × (Int × Unit)) × ((Int × (Int × Unit)) × Unit))) (t1 : ((Int × (Int × Unit)) × ((Int × (Int × Unit)) × Unit))) : Option (Bool) :=
  (impl_Leaf_size l).bind fun r0 =>
  (impl_Leaf_size t1).bind fun r1 =>
  (impl_Angle_compare r0 r1).bind fun r2 =>
  some ((decide (r2 < (0 : Int))))
noncomputable def slices_IndexFunc__impl_Leaf_impl_Leaf_v5_l0 : (List ((Int × (Int × Unit)) × ((Int × (Int × Unit)) × Unit))) × Unit × (((Int × (Int × Unit)) × ((Int × (Int × Unit)) × Unit)) × Unit) × Int × Int × Unit → Option (Ctl ((List ((Int × (Int × Unit)) × ((Int × (Int × Unit)) × Unit))) × Unit × (((Int × (Int × Unit)) × ((Int × (Int × Unit)) × Unit)) × Unit) × Int × Int × Unit) ((Int × Unit) ⊕ (Unit)))
  | (s, ((), (f, ()), (t7, (t8, ())))) =>
    bif (decide (t8 < t7)) then
   bif ((decide ((0 : Int) ≤ t8)) && (decide (t8 < ((s.length : Nat) : Int)))) then
    (impl_minorOf_f1 (s.getD t8.toNat (((0 : Int), (0 : Int), ()), ((0 : Int), (0 : Int), ()), ())) f).bind fun r0 =>
    bif r0 then
     some (.stop (.inl (t8, ())))
    else some (.next (s, ((), (f, ()), (t7, ((w64 (t8 + (1 : Int))), ())))))
   else none
  else some (.stop (.inr (())))
noncomputable def slices_IndexFunc__impl_Leaf_impl_Leaf_v5 (s : List ((Int × (Int × Unit)) × ((Int × (Int × Unit)) × Unit))) (f_0 : ((Int × (Int × Unit)) × ((Int × (Int × Unit)) × Unit))) : Option (Int) :=
  (loop slices_IndexFunc__impl_Leaf_impl_Leaf_v5_l0 (s, (), (f_0, ()), ((s.length : Nat) : Int), (0 : Int), ())).bind fun r0 =>
  alt r0 (fun r1 =>
   some (r1.1))
   (fun r2 =>
   some ((-1 : Int)))
noncomputable def slices_ContainsFunc__impl_Leaf_impl_Leaf_v5 (s : List ((Int × (Int × Unit)) × ((Int × (Int × Unit)) × Unit))) (f_0 : ((Int × (Int × Unit)) × ((Int × (Int × Unit)) × Unit))) : Option (Bool) :=
  (slices_IndexFunc__impl_Leaf_impl_Leaf_v5 s f_0).bind fun r0 =>
  some ((decide (r0 ≥ (0 : Int))))
noncomputable def impl_minorOf (m : ((Int × (Int × Unit)) × ((Int × (Int × Unit)) × Unit))) : Option ((((Int × (Int × Unit)) × ((Int × (Int × Unit)) × Unit)) × ((List ((Int × (Int × Unit)) × ((Int × (Int × Unit)) × Unit))) × ((List ((Int × (Int × Unit)) × ((Int × (Int × Unit)) × Unit))) × (Int × Unit)))) × Int) :=
  (impl_leavesCode [m]).bind fun r0 =>
  bif (r0 != (0 : Int)) then
   some (((((0 : Int), (0 : Int), ()), ((0 : Int), (0 : Int), ()), ()), ([] : List ((Int × (Int × Unit)) × ((Int × (Int × Unit)) × Unit))), ([] : List ((Int × (Int × Unit)) × ((Int × (Int × Unit)) × Unit))), (0 : Int), ()), r0)
  else (impl_Leaf_isShort m).bind fun r1 =>
   bif (!r1) then
    some ((m, ([] : List ((Int × (Int × Unit)) × ((Int × (Int × Unit)) × Unit))), ([] : List ((Int × (Int × Unit)) × ((Int × (Int × Unit)) × Unit))), (1 : Int), ()), (0 : Int))
   else (impl_Leaf_images m).bind fun r2 =>
    (impl_Leaf_majors m).bind fun r3 =>
    bif (!r2.2) then
     some (((((0 : Int), (0 : Int), ()), ((0 : Int), (0 : Int), ()), ()), ([] : List ((Int × (Int × Unit)) × ((Int × (Int × Unit)) × Unit))), ([] : List ((Int × (Int × Unit)) × ((Int × (Int × Unit)) × Unit))), (0 : Int), ()), (3 : Int))
    else bif (r3.2 != (0 : Int)) then
      some (((((0 : Int), (0 : Int), ()), ((0 : Int), (0 : Int), ()), ()), ([] : List ((Int × (Int × Unit)) × ((Int × (Int × Unit)) × Unit))), ([] : List ((Int × (Int × Unit)) × ((Int × (Int × Unit)) × Unit))), (0 : Int), ()), (3 : Int))
     else (impl_haveCross r2.1 r2.1).bind fun r4 =>
      bif r4 then
       some ((m, r2.1, r3.1, (2 : Int), ()), (0 : Int))
      else (slices_ContainsFunc__impl_Leaf_impl_Leaf_v5 r2.1 m).bind fun r5 =>
       bif r5 then
        some ((m, r2.1, r3.1, (3 : Int), ()), (0 : Int))
       else (impl_haveCross r2.1 r3.1).bind fun r6 =>
        bif r6 then
         some ((m, r2.1, r3.1, (4 : Int), ()), (0 : Int))
        else some ((m, r2.1, r3.1, (0 : Int), ()), (0 : Int))
noncomputable def impl_minorLeaf (m : ((Int × (Int × Unit)) × ((Int × (Int × Unit)) × Unit))) (isRange : Bool) (others : List ((Int × (Int × Unit)) × ((Int × (Int × Unit)) × Unit))) : Option ((((Int × (Int × Unit)) × ((Int × (Int × Unit)) × Unit)) × ((List ((Int × (Int × Unit)) × ((Int × (Int × Unit)) × Unit))) × ((List ((Int × (Int × Unit)) × ((Int × (Int × Unit)) × Unit))) × (Int × Unit)))) × Int) :=
  (impl_leavesCode others).bind fun r0 =>
  bif (r0 != (0 : Int)) then
   some (((((0 : Int), (0 : Int), ()), ((0 : Int), (0 : Int), ()), ()), ([] : List ((Int × (Int × Unit)) × ((Int × (Int × Unit)) × Unit))), ([] : List ((Int × (Int × Unit)) × ((Int × (Int × Unit)) × Unit))), (0 : Int), ()), r0)
  else (impl_IsLeaf m).bind fun r1 =>
   bif r1 then
    bif (!isRange) then
     some (((((0 : Int), (0 : Int), ()), ((0 : Int), (0 : Int), ()), ()), ([] : List ((Int × (Int × Unit)) × ((Int × (Int × Unit)) × Unit))), ([] : List ((Int × (Int × Unit)) × ((Int × (Int × Unit)) × Unit))), (0 : Int), ()), (2 : Int))
    else (impl_minorOf m).bind fun r2 =>
     bif (r2.2 != (0 : Int)) then
      some (((((0 : Int), (0 : Int), ()), ((0 : Int), (0 : Int), ()), ()), ([] : List ((Int × (Int × Unit)) × ((Int × (Int × Unit)) × Unit))), ([] : List ((Int × (Int × Unit)) × ((Int × (Int × Unit)) × Unit))), (0 : Int), ()), r2.2)
     else bif (r2.1.2.2.2.1 != (0 : Int)) then
       some (((((0 : Int), (0 : Int), ()), ((0 : Int), (0 : Int), ()), ()), ([] : List ((Int × (Int × Unit)) × ((Int × (Int × Unit)) × Unit))), ([] : List ((Int × (Int × Unit)) × ((Int × (Int × Unit)) × Unit))), (0 : Int), ()), (5 : Int))
      else some (r2.1, (0 : Int))
   else (impl_minorOf m).bind fun r3 =>
    bif (r3.2 != (0 : Int)) then
     some (((((0 : Int), (0 : Int), ()), ((0 : Int), (0 : Int), ()), ()), ([] : List ((Int × (Int × Unit)) × ((Int × (Int × Unit)) × Unit))), ([] : List ((Int × (Int × Unit)) × ((Int × (Int × Unit)) × Unit))), (0 : Int), ()), r3.2)
    else bif (r3.1.2.2.2.1 != (0 : Int)) then
      some (((((0 : Int), (0 : Int), ()), ((0 : Int), (0 : Int), ()), ()), ([] : List ((Int × (Int × Unit)) × ((Int × (Int × Unit)) × Unit))), ([] : List ((Int × (Int × Unit)) × ((Int × (Int × Unit)) × Unit))), (0 : Int), ()), (5 : Int))
     else some (r3.1, (0 : Int))
noncomputable def slices_Concat__impl_Leaf_impl_Leaf_l0 : (List (List ((Int × (Int × Unit)) × ((Int × (Int × Unit)) × Unit)))) × Int × (List (List ((Int × (Int × Unit)) × ((Int × (Int × Unit)) × Unit)))) × Int × Int × Unit → Option (Ctl ((List (List ((Int × (Int × Unit)) × ((Int × (Int × Unit)) × Unit)))) × Int × (List (List ((Int × (Int × Unit)) × ((Int × (Int × Unit)) × Unit)))) × Int × Int × Unit) (((List (List ((Int × (Int × Unit)) × ((Int × (Int × Unit)) × Unit)))) × Int × Unit)))
  | (slices, (size, (t9, (t10, (t11, ()))))) =>
    bif (decide (t11 < t10)) then
   bif ((decide ((0 : Int) ≤ t11)) && (decide (t11 < ((t9.length : Nat) : Int)))) then
    bif (decide ((w64 (size + (((t9.getD t11.toNat ([] : List ((Int × (Int × Unit)) × ((Int × (Int × Unit)) × Unit)))).length : Nat) : Int))) < (0 : Int))) then
     none
    else some (.next (slices, ((w64 (size + (((t9.getD t11.toNat ([] : List ((Int × (Int × Unit)) × ((Int × (Int × Unit)) × Unit)))).length : Nat) : Int))), (t9, (t10, ((w64 (t11 + (1 : Int))), ()))))))
   else none
  else some (.stop ((slices, (size, ()))))
noncomputable def slices_Grow__impl_Leaf_impl_Leaf (xs : List ((Int × (Int × Unit)) × ((Int × (Int × Unit)) × Unit))) (n : Int) : Option (List ((Int × (Int × Unit)) × ((Int × (Int × Unit)) × Unit))) :=
  growOf 32 xs n
noncomputable def slices_Concat__impl_Leaf_impl_Leaf_l1 : (List (List ((Int × (Int × Unit)) × ((Int × (Int × Unit)) × Unit)))) × (List ((Int × (Int × Unit)) × ((Int × (Int × Unit)) × Unit))) × (List (List ((Int × (Int × Unit)) × ((Int × (Int × Unit)) × Unit)))) × Int × Int × Unit → Option (Ctl ((List (List ((Int × (Int × Unit)) × ((Int × (Int × Unit)) × Unit)))) × (List ((Int × (Int × Unit)) × ((Int × (Int × Unit)) × Unit))) × (List (List ((Int × (Int × Unit)) × ((Int × (Int × Unit)) × Unit)))) × Int × Int × Unit) (((List ((Int × (Int × Unit)) × ((Int × (Int × Unit)) × Unit))) × Unit)))
  | (slices, (newslice, (t25, (t26, (t27, ()))))) =>
    bif (decide (t27 < t26)) then
   bif ((decide ((0 : Int) ≤ t27)) && (decide (t27 < ((t25.length : Nat) : Int)))) then
    bif (decide (((newslice.length + (t25.getD t27.toNat ([] : List ((Int × (Int × Unit)) × ((Int × (Int × Unit)) × Unit)))).length) * 32) ≤ 140737488355328)) then
     some (.next (slices, ((newslice ++ (t25.getD t27.toNat ([] : List ((Int × (Int × Unit)) × ((Int × (Int × Unit)) × Unit))))), (t25, (t26, ((w64 (t27 + (1 : Int))), ()))))))
    else none
   else none
  else some (.stop ((newslice, ())))
noncomputable def slices_Concat__impl_Leaf_impl_Leaf (slices : List (List ((Int × (Int × Unit)) × ((Int × (Int × Unit)) × Unit)))) : Option ((List ((Int × (Int × Unit)) × ((Int × (Int × Unit)) × Unit)))) :=
  (loop slices_Concat__impl_Leaf_impl_Leaf_l0 (slices, (0 : Int), slices, ((slices.length : Nat) : Int), (0 : Int), ())).bind fun r0 =>
  (slices_Grow__impl_Leaf_impl_Leaf ([] : List ((Int × (Int × Unit)) × ((Int × (Int × Unit)) × Unit))) r0.2.1).bind fun r1 =>
  (loop slices_Concat__impl_Leaf_impl_Leaf_l1 (r0.1, r1, r0.1, ((r0.1.length : Nat) : Int), (0 : Int), ())).bind fun r2 =>
  some (r2.1)
noncomputable def slices_BinarySearchFunc__impl_Leaf_impl_Leaf_impl_Leaf_l0 : (List ((Int × (Int × Unit)) × ((Int × (Int × Unit)) × Unit))) × Unit × Unit × (((Int × (Int × Unit)) × ((Int × (Int × Unit)) × Unit))) × Int × Int × Int × Unit → Option (Ctl ((List ((Int × (Int × Unit)) × ((Int × (Int × Unit)) × Unit))) × Unit × Unit × (((Int × (Int × Unit)) × ((Int × (Int × Unit)) × Unit))) × Int × Int × Int × Unit) (((List ((Int × (Int × Unit)) × ((Int × (Int × Unit)) × Unit))) × Unit × Unit × (((Int × (Int × Unit)) × ((Int × (Int × Unit)) × Unit))) × Int × Int × Unit)))
  | (x, ((), (), (target, (n, (i, (j, ())))))) =>
    bif (decide (i < j)) then
   bif (decide ((0 : Int) ≤ (1 : Int))) then
    bif ((decide ((0 : Int) ≤ (w64 ((wu64 (w64 (i + j))).fdiv ((2 : Int) ^ (min (1 : Int).toNat 64)))))) && (decide ((w64 ((wu64 (w64 (i + j))).fdiv ((2 : Int) ^ (min (1 : Int).toNat 64)))) < ((x.length : Nat) : Int)))) then
     (impl_Leaf_compare (x.getD (w64 ((wu64 (w64 (i + j))).fdiv ((2 : Int) ^ (min (1 : Int).toNat 64)))).toNat (((0 : Int), (0 : Int), ()), ((0 : Int), (0 : Int), ()), ())) target).bind fun r0 =>
     bif (decide (r0 < (0 : Int))) then
      some (.next (x, ((), (), (target, (n, ((w64 ((w64 ((wu64 (w64 (i + j))).fdiv ((2 : Int) ^ (min (1 : Int).toNat 64)))) + (1 : Int))), (j, ())))))))
     else some (.next (x, ((), (), (target, (n, (i, ((w64 ((wu64 (w64 (i + j))).fdiv ((2 : Int) ^ (min (1 : Int).toNat 64)))), ())))))))
    else none
   else none
  else some (.stop ((x, ((), (), (target, (n, (i, ())))))))
noncomputable def slices_BinarySearchFunc__impl_Leaf_impl_Leaf_impl_Leaf (x : List ((Int × (Int × Unit)) × ((Int × (Int × Unit)) × Unit))) (target : ((Int × (Int × Unit)) × ((Int × (Int × Unit)) × Unit))) : Option (Int × Bool) :=
  (loop slices_BinarySearchFunc__impl_Leaf_impl_Leaf_impl_Leaf_l0 (x, (), (), target, ((x.length : Nat) : Int), (0 : Int), ((x.length : Nat) : Int), ())).bind fun r0 =>
  bif (decide (r0.2.2.2.2.2.1 < r0.2.2.2.2.1)) then
   bif ((decide ((0 : Int) ≤ r0.2.2.2.2.2.1)) && (decide (r0.2.2.2.2.2.1 < ((r0.1.length : Nat) : Int)))) then
    (impl_Leaf_compare (r0.1.getD r0.2.2.2.2.2.1.toNat (((0 : Int), (0 : Int), ()), ((0 : Int), (0 : Int), ()), ())) r0.2.2.2.1).bind fun r1 =>
    some (r0.2.2.2.2.2.1, (r1 == (0 : Int)))
   else none
  else some (r0.2.2.2.2.2.1, false)
noncomputable def slices_Insert__impl_Leaf_impl_Leaf (xs : List ((Int × (Int × Unit)) × ((Int × (Int × Unit)) × Unit))) (i : Int) (ys : List ((Int × (Int × Unit)) × ((Int × (Int × Unit)) × Unit))) : Option (List ((Int × (Int × Unit)) × ((Int × (Int × Unit)) × Unit))) :=
  insertOf 32 xs i ys
noncomputable def impl_put (list : List ((Int × (Int × Unit)) × ((Int × (Int × Unit)) × Unit))) (l : ((Int × (Int × Unit)) × ((Int × (Int × Unit)) × Unit))) : Option ((List ((Int × (Int × Unit)) × ((Int × (Int × Unit)) × Unit)))) :=
  (slices_BinarySearchFunc__impl_Leaf_impl_Leaf_impl_Leaf list l).bind fun r0 =>
  bif r0.2 then
   some (list)
  else (slices_Insert__impl_Leaf_impl_Leaf list r0.1 [l]).bind fun r1 =>
   some (r1)
noncomputable def impl_minor_laminations_l0 : Int × ((((Int × (Int × Unit)) × ((Int × (Int × Unit)) × Unit)) × ((List ((Int × (Int × Unit)) × ((Int × (Int × Unit)) × Unit))) × ((List ((Int × (Int × Unit)) × ((Int × (Int × Unit)) × Unit))) × (Int × Unit))))) × (List ((Int × (Int × Unit)) × ((Int × (Int × Unit)) × Unit))) × (List ((Int × (Int × Unit)) × ((Int × (Int × Unit)) × Unit))) × Int × Int × Unit → Option (Ctl (Int × ((((Int × (Int × Unit)) × ((Int × (Int × Unit)) × Unit)) × ((List ((Int × (Int × Unit)) × ((Int × (Int × Unit)) × Unit))) × ((List ((Int × (Int × Unit)) × ((Int × (Int × Unit)) × Unit))) × (Int × Unit))))) × (List ((Int × (Int × Unit)) × ((Int × (Int × Unit)) × Unit))) × (List ((Int × (Int × Unit)) × ((Int × (Int × Unit)) × Unit))) × Int × Int × Unit) ((Int × ((((Int × (Int × Unit)) × ((Int × (Int × Unit)) × Unit)) × ((List ((Int × (Int × Unit)) × ((Int × (Int × Unit)) × Unit))) × ((List ((Int × (Int × Unit)) × ((Int × (Int × Unit)) × Unit))) × (Int × Unit))))) × (List ((Int × (Int × Unit)) × ((Int × (Int × Unit)) × Unit))) × Unit)))
  | (k, (m, (list, (t22, (t23, (t24, ())))))) =>
    bif (decide (t24 < t23)) then
   bif ((decide ((0 : Int) ≤ t24)) && (decide (t24 < ((t22.length : Nat) : Int)))) then
    (impl_put list (t22.getD t24.toNat (((0 : Int), (0 : Int), ()), ((0 : Int), (0 : Int), ()), ()))).bind fun r0 =>
    some (.next (k, (m, (r0, (t22, (t23, ((w64 (t24 + (1 : Int))), ())))))))
   else none
  else some (.stop ((k, (m, (list, ())))))
noncomputable def impl_length_impl_Leaf (list : List ((Int × (Int × Unit)) × ((Int × (Int × Unit)) × Unit))) : Option (Int) :=
  some (((list.length : Nat) : Int))
noncomputable def slices_Clone__impl_Leaf_impl_Leaf (xs : List ((Int × (Int × Unit)) × ((Int × (Int × Unit)) × Unit))) : Option (List ((Int × (Int × Unit)) × ((Int × (Int × Unit)) × Unit))) :=
  cloneOf 32 xs
noncomputable def impl_Leaf_ways (l : ((Int × (Int × Unit)) × ((Int × (Int × Unit)) × Unit))) : Option ((List ((Int × (Int × Unit)) × ((Int × (Int × Unit)) × Unit))) × (List ((Int × (Int × Unit)) × ((Int × (Int × Unit)) × Unit)))) :=
  (impl_Angle_halves l.1).bind fun r0 =>
  (impl_Angle_halves l.2.1).bind fun r1 =>
  (impl_leaf r0.1 r1.1).bind fun r2 =>
  (impl_leaf r0.2 r1.2).bind fun r3 =>
  (impl_two r2 r3).bind fun r4 =>
  (impl_leaf r0.1 r1.2).bind fun r5 =>
  (impl_leaf r0.2 r1.1).bind fun r6 =>
  (impl_two r5 r6).bind fun r7 =>
  some (r4, r7)
noncomputable def impl_sum (list : List ((Int × (Int × Unit)) × ((Int × (Int × Unit)) × Unit))) : Option (Int × Int) :=
  bif ((decide ((0 : Int) ≤ (0 : Int))) && (decide ((0 : Int) < ((list.length : Nat) : Int)))) then
   (impl_Leaf_size (list.getD (0 : Int).toNat (((0 : Int), (0 : Int), ()), ((0 : Int), (0 : Int), ()), ()))).bind fun r0 =>
   bif ((decide ((0 : Int) ≤ (1 : Int))) && (decide ((1 : Int) < ((list.length : Nat) : Int)))) then
    (impl_Leaf_size (list.getD (1 : Int).toNat (((0 : Int), (0 : Int), ()), ((0 : Int), (0 : Int), ()), ()))).bind fun r1 =>
    some ((w64 ((w64 (r0.1 * r1.2.1)) + (w64 (r1.1 * r0.2.1)))), (w64 (r0.2.1 * r1.2.1)))
   else none
  else none
noncomputable def math_bits_Mul64 (x : Int) (y : Int) : Option (Int × Int) :=
  bif (decide ((0 : Int) ≤ (32 : Int))) then
   bif (decide ((0 : Int) ≤ (32 : Int))) then
    bif (decide ((0 : Int) ≤ (32 : Int))) then
     bif (decide ((0 : Int) ≤ (32 : Int))) then
      bif (decide ((0 : Int) ≤ (32 : Int))) then
       some ((wu64 ((wu64 ((wu64 ((x.fdiv ((2 : Int) ^ (min (32 : Int).toNat 64))) * (y.fdiv ((2 : Int) ^ (min (32 : Int).toNat 64))))) + ((wu64 ((wu64 ((x.fdiv ((2 : Int) ^ (min (32 : Int).toNat 64))) * (wu64 (((BitVec.toNat (HAnd.hAnd (BitVec.ofInt 64 y) (BitVec.ofInt 64 (4294967295 : Int)))) : Nat) : Int)))) + ((wu64 ((wu64 (((BitVec.toNat (HAnd.hAnd (BitVec.ofInt 64 x) (BitVec.ofInt 64 (4294967295 : Int)))) : Nat) : Int)) * (wu64 (((BitVec.toNat (HAnd.hAnd (BitVec.ofInt 64 y) (BitVec.ofInt 64 (4294967295 : Int)))) : Nat) : Int)))).fdiv ((2 : Int) ^ (min (32 : Int).toNat 64))))).fdiv ((2 : Int) ^ (min (32 : Int).toNat 64))))) + ((wu64 ((wu64 (((BitVec.toNat (HAnd.hAnd (BitVec.ofInt 64 (wu64 ((wu64 ((x.fdiv ((2 : Int) ^ (min (32 : Int).toNat 64))) * (wu64 (((BitVec.toNat (HAnd.hAnd (BitVec.ofInt 64 y) (BitVec.ofInt 64 (4294967295 : Int)))) : Nat) : Int)))) + ((wu64 ((wu64 (((BitVec.toNat (HAnd.hAnd (BitVec.ofInt 64 x) (BitVec.ofInt 64 (4294967295 : Int)))) : Nat) : Int)) * (wu64 (((BitVec.toNat (HAnd.hAnd (BitVec.ofInt 64 y) (BitVec.ofInt 64 (4294967295 : Int)))) : Nat) : Int)))).fdiv ((2 : Int) ^ (min (32 : Int).toNat 64)))))) (BitVec.ofInt 64 (4294967295 : Int)))) : Nat) : Int)) + (wu64 ((wu64 (((BitVec.toNat (HAnd.hAnd (BitVec.ofInt 64 x) (BitVec.ofInt 64 (4294967295 : Int)))) : Nat) : Int)) * (y.fdiv ((2 : Int) ^ (min (32 : Int).toNat 64))))))).fdiv ((2 : Int) ^ (min (32 : Int).toNat 64))))), (wu64 (x * y)))
      else none
     else none
    else none
   else none
  else none
noncomputable def impl_isLess (list : List ((Int × (Int × Unit)) × ((Int × (Int × Unit)) × Unit))) (other : List ((Int × (Int × Unit)) × ((Int × (Int × Unit)) × Unit))) : Option (Bool) :=
  (impl_sum list).bind fun r0 =>
  (impl_sum other).bind fun r1 =>
  (math_bits_Mul64 (wu64 r0.1) (wu64 r1.2)).bind fun r2 =>
  (math_bits_Mul64 (wu64 r1.1) (wu64 r0.2)).bind fun r3 =>
  bif (decide (r2.1 < r3.1)) then
   some (true)
  else bif (r2.1 == r3.1) then
    some ((decide (r2.2 < r3.2)))
   else some (false)
noncomputable def impl_minor_pullBack_v2 (m : (((Int × (Int × Unit)) × ((Int × (Int × Unit)) × Unit)) × ((List ((Int × (Int × Unit)) × ((Int × (Int × Unit)) × Unit))) × ((List ((Int × (Int × Unit)) × ((Int × (Int × Unit)) × Unit))) × (Int × Unit))))) (l : ((Int × (Int × Unit)) × ((Int × (Int × Unit)) × Unit))) : Option ((List ((Int × (Int × Unit)) × ((Int × (Int × Unit)) × Unit))) × Int) :=
  bif (((l.1.1 == m.1.1.1) && ((l.1.2.1 == m.1.1.2.1) && true)) && (((l.2.1.1 == m.1.2.1.1) && ((l.2.1.2.1 == m.1.2.1.2.1) && true)) && true)) then
   some (m.2.2.1, (0 : Int))
  else (impl_Leaf_ways l).bind fun r0 =>
   (impl_areLimited_v2 r0.1).bind fun r1 =>
   bif (r1.2 != (0 : Int)) then
    some (([] : List ((Int × (Int × Unit)) × ((Int × (Int × Unit)) × Unit))), r1.2)
   else (impl_haveCross r0.1 m.2.2.1).bind fun r2 =>
    (impl_haveCross r0.2 m.2.2.1).bind fun r3 =>
    bif r2 then
     bif r3 then
      some (([] : List ((Int × (Int × Unit)) × ((Int × (Int × Unit)) × Unit))), (5 : Int))
     else bif (!r2) then
       bif r3 then
        some (r0.1, (0 : Int))
       else (impl_isLess r0.1 r0.2).bind fun r4 =>
        bif r4 then
         some (r0.1, (0 : Int))
        else some (r0.2, (0 : Int))
      else some (r0.2, (0 : Int))
    else bif (!r2) then
      bif r3 then
       some (r0.1, (0 : Int))
      else (impl_isLess r0.1 r0.2).bind fun r5 =>
       bif r5 then
        some (r0.1, (0 : Int))
       else some (r0.2, (0 : Int))
     else some (r0.2, (0 : Int))
noncomputable def impl_minor_laminations_l3 : ((((Int × (Int × Unit)) × ((Int × (Int × Unit)) × Unit)) × ((List ((Int × (Int × Unit)) × ((Int × (Int × Unit)) × Unit))) × ((List ((Int × (Int × Unit)) × ((Int × (Int × Unit)) × Unit))) × (Int × Unit))))) × (List ((Int × (Int × Unit)) × ((Int × (Int × Unit)) × Unit))) × (List Int) × (List ((Int × (Int × Unit)) × ((Int × (Int × Unit)) × Unit))) × Int × Int × (List ((Int × (Int × Unit)) × ((Int × (Int × Unit)) × Unit))) × Int × Int × (List ((Int × (Int × Unit)) × ((Int × (Int × Unit)) × Unit))) × (List ((Int × (Int × Unit)) × ((Int × (Int × Unit)) × Unit))) × Int × Int × Unit → Option (Ctl (((((Int × (Int × Unit)) × ((Int × (Int × Unit)) × Unit)) × ((List ((Int × (Int × Unit)) × ((Int × (Int × Unit)) × Unit))) × ((List ((Int × (Int × Unit)) × ((Int × (Int × Unit)) × Unit))) × (Int × Unit))))) × (List ((Int × (Int × Unit)) × ((Int × (Int × Unit)) × Unit))) × (List Int) × (List ((Int × (Int × Unit)) × ((Int × (Int × Unit)) × Unit))) × Int × Int × (List ((Int × (Int × Unit)) × ((Int × (Int × Unit)) × Unit))) × Int × Int × (List ((Int × (Int × Unit)) × ((Int × (Int × Unit)) × Unit))) × (List ((Int × (Int × Unit)) × ((Int × (Int × Unit)) × Unit))) × Int × Int × Unit) ((((((Int × (Int × Unit)) × ((Int × (Int × Unit)) × Unit)) × ((List ((Int × (Int × Unit)) × ((Int × (Int × Unit)) × Unit))) × ((List ((Int × (Int × Unit)) × ((Int × (Int × Unit)) × Unit))) × (Int × Unit))))) × (List ((Int × (Int × Unit)) × ((Int × (Int × Unit)) × Unit))) × (List Int) × Int × Int × (List ((Int × (Int × Unit)) × ((Int × (Int × Unit)) × Unit))) × Int × Int × Unit)))
  | (m, (list, (counts, (pulled, (t35, (t36, (t39, (t40, (t41, (t49, (t54, (t55, (t56, ()))))))))))))) =>
    bif (decide (t56 < t55)) then
   bif ((decide ((0 : Int) ≤ t56)) && (decide (t56 < ((t54.length : Nat) : Int)))) then
    (slices_ContainsFunc__impl_Leaf_impl_Leaf_v4 list (t54.getD t56.toNat (((0 : Int), (0 : Int), ()), ((0 : Int), (0 : Int), ()), ()))).bind fun r0 =>
    bif (!r0) then
     (impl_put list (t54.getD t56.toNat (((0 : Int), (0 : Int), ()), ((0 : Int), (0 : Int), ()), ()))).bind fun r1 =>
     some (.next (m, (r1, (counts, (pulled, (t35, (t36, (t39, (t40, (t41, (t49, (t54, (t55, ((w64 (t56 + (1 : Int))), ()))))))))))))))
    else some (.next (m, (list, (counts, (pulled, (t35, (t36, (t39, (t40, (t41, (t49, (t54, (t55, ((w64 (t56 + (1 : Int))), ()))))))))))))))
   else none
  else some (.stop ((m, (list, (counts, (t35, (t36, (t39, (t40, (t41, ()))))))))))
noncomputable def impl_minor_laminations_l2 : ((((Int × (Int × Unit)) × ((Int × (Int × Unit)) × Unit)) × ((List ((Int × (Int × Unit)) × ((Int × (Int × Unit)) × Unit))) × ((List ((Int × (Int × Unit)) × ((Int × (Int × Unit)) × Unit))) × (Int × Unit))))) × (List ((Int × (Int × Unit)) × ((Int × (Int × Unit)) × Unit))) × (List Int) × Int × Int × (List ((Int × (Int × Unit)) × ((Int × (Int × Unit)) × Unit))) × Int × Int × Unit → Option (Ctl (((((Int × (Int × Unit)) × ((Int × (Int × Unit)) × Unit)) × ((List ((Int × (Int × Unit)) × ((Int × (Int × Unit)) × Unit))) × ((List ((Int × (Int × Unit)) × ((Int × (Int × Unit)) × Unit))) × (Int × Unit))))) × (List ((Int × (Int × Unit)) × ((Int × (Int × Unit)) × Unit))) × (List Int) × Int × Int × (List ((Int × (Int × Unit)) × ((Int × (Int × Unit)) × Unit))) × Int × Int × Unit) (((List ((Int × (Int × Unit)) × ((Int × (Int × Unit)) × Unit))) × (List Int) × Int × (List ((Int × (Int × Unit)) × ((Int × (Int × Unit)) × Unit))) × (List Int) × Unit) ⊕ (((((Int × (Int × Unit)) × ((Int × (Int × Unit)) × Unit)) × ((List ((Int × (Int × Unit)) × ((Int × (Int × Unit)) × Unit))) × ((List ((Int × (Int × Unit)) × ((Int × (Int × Unit)) × Unit))) × (Int × Unit))))) × (List ((Int × (Int × Unit)) × ((Int × (Int × Unit)) × Unit))) × (List Int) × Int × Int × Unit)))
  | (m, (list, (counts, (t35, (t36, (t39, (t40, (t41, ())))))))) =>
    bif (decide (t41 < t40)) then
   bif ((decide ((0 : Int) ≤ t41)) && (decide (t41 < ((t39.length : Nat) : Int)))) then
    (impl_minor_pullBack_v2 m (t39.getD t41.toNat (((0 : Int), (0 : Int), ()), ((0 : Int), (0 : Int), ()), ()))).bind fun r0 =>
    bif (r0.2 != (0 : Int)) then
     some (.stop (.inl (([] : List ((Int × (Int × Unit)) × ((Int × (Int × Unit)) × Unit))), (([] : List Int), (r0.2, (list, (counts, ())))))))
    else (loop impl_minor_laminations_l3 (m, list, counts, r0.1, t35, t36, t39, t40, t41, r0.1, r0.1, ((r0.1.length : Nat) : Int), (0 : Int), ())).bind fun r1 =>
     bif (decide (((r1.2.1.length : Nat) : Int) > (200 : Int))) then
      some (.stop (.inl (([] : List ((Int × (Int × Unit)) × ((Int × (Int × Unit)) × Unit))), (([] : List Int), ((3 : Int), (r1.2.1, (r1.2.2.1, ())))))))
     else some (.next (r1.1, (r1.2.1, (r1.2.2.1, (r1.2.2.2.1, (r1.2.2.2.2.1, (r1.2.2.2.2.2.1, (r1.2.2.2.2.2.2.1, ((w64 (r1.2.2.2.2.2.2.2.1 + (1 : Int))), ())))))))))
   else none
  else some (.stop (.inr ((m, (list, (counts, (t35, (t36, ()))))))))
noncomputable def impl_minor_laminations_l1 : ((((Int × (Int × Unit)) × ((Int × (Int × Unit)) × Unit)) × ((List ((Int × (Int × Unit)) × ((Int × (Int × Unit)) × Unit))) × ((List ((Int × (Int × Unit)) × ((Int × (Int × Unit)) × Unit))) × (Int × Unit))))) × (List ((Int × (Int × Unit)) × ((Int × (Int × Unit)) × Unit))) × (List Int) × Int × Int × Unit → Option (Ctl (((((Int × (Int × Unit)) × ((Int × (Int × Unit)) × Unit)) × ((List ((Int × (Int × Unit)) × ((Int × (Int × Unit)) × Unit))) × ((List ((Int × (Int × Unit)) × ((Int × (Int × Unit)) × Unit))) × (Int × Unit))))) × (List ((Int × (Int × Unit)) × ((Int × (Int × Unit)) × Unit))) × (List Int) × Int × Int × Unit) (((List ((Int × (Int × Unit)) × ((Int × (Int × Unit)) × Unit))) × (List Int) × Int × (List ((Int × (Int × Unit)) × ((Int × (Int × Unit)) × Unit))) × (List Int) × Unit) ⊕ ((List ((Int × (Int × Unit)) × ((Int × (Int × Unit)) × Unit))) × (List Int) × Unit)))
  | (m, (list, (counts, (t35, (t36, ()))))) =>
    bif (decide (t36 < t35)) then
   (slices_Clone__impl_Leaf_impl_Leaf list).bind fun r0 =>
   (loop impl_minor_laminations_l2 (m, list, counts, t35, t36, r0, ((r0.length : Nat) : Int), (0 : Int), ())).bind fun r1 =>
   alt r1 (fun r2 =>
    some (.stop (.inl (r2.1, (r2.2.1, (r2.2.2.1, (r2.2.2.2.1, (r2.2.2.2.2.1, ()))))))))
    (fun r3 =>
    (impl_length_impl_Leaf r3.2.1).bind fun r4 =>
    bif (decide (((r3.2.2.1.length + [r4].length) * 8) ≤ 140737488355328)) then
     some (.next (r3.1, (r3.2.1, ((r3.2.2.1 ++ [r4]), (r3.2.2.2.1, ((w64 (r3.2.2.2.2.1 + (1 : Int))), ()))))))
    else none)
  else some (.stop (.inr ((list, (counts, ())))))
noncomputable def impl_minor_laminations (m : (((Int × (Int × Unit)) × ((Int × (Int × Unit)) × Unit)) × ((List ((Int × (Int × Unit)) × ((Int × (Int × Unit)) × Unit))) × ((List ((Int × (Int × Unit)) × ((Int × (Int × Unit)) × Unit))) × (Int × Unit))))) (k : Int) : Option ((List ((Int × (Int × Unit)) × ((Int × (Int × Unit)) × Unit))) × (List Int) × Int) :=
  (slices_Concat__impl_Leaf_impl_Leaf [m.2.1, m.2.2.1]).bind fun r0 =>
  (loop impl_minor_laminations_l0 (k, m, ([] : List ((Int × (Int × Unit)) × ((Int × (Int × Unit)) × Unit))), r0, ((r0.length : Nat) : Int), (0 : Int), ())).bind fun r1 =>
  (impl_length_impl_Leaf r1.2.2.1).bind fun r2 =>
  (loop impl_minor_laminations_l1 (r1.2.1, r1.2.2.1, [r2], r1.1, (0 : Int), ())).bind fun r3 =>
  alt r3 (fun r4 =>
   some (r4.1, r4.2.1, r4.2.2.1))
   (fun r5 =>
   some (r5.1, r5.2.1, (0 : Int)))
noncomputable def impl_CountByDepth (m : ((Int × (Int × Unit)) × ((Int × (Int × Unit)) × Unit))) (k : Int) : Option ((List Int) × Int) :=
  (impl_isDepth k).bind fun r0 =>
  (impl_minorLeaf m r0 ([] : List ((Int × (Int × Unit)) × ((Int × (Int × Unit)) × Unit)))).bind fun r1 =>
  bif (r1.2 != (0 : Int)) then
   some (([] : List Int), r1.2)
  else (impl_minor_laminations r1.1 k).bind fun r2 =>
   some (r2.2.1, r2.2.2)
noncomputable def laws_eqInt64S_l0 : (List Int) × (List Int) × Int × Unit → Option (Ctl ((List Int) × (List Int) × Int × Unit) ((Bool × Unit) ⊕ (Unit)))
  | (a, (b, (i, ()))) =>
    bif (decide (i < ((a.length : Nat) : Int))) then
   bif ((decide ((0 : Int) ≤ i)) && (decide (i < ((a.length : Nat) : Int)))) then
    bif ((decide ((0 : Int) ≤ i)) && (decide (i < ((b.length : Nat) : Int)))) then
     bif ((a.getD i.toNat (0 : Int)) != (b.getD i.toNat (0 : Int))) then
      some (.stop (.inl (false, ())))
     else some (.next (a, (b, ((w64 (i + (1 : Int))), ()))))
    else none
   else none
  else some (.stop (.inr (())))
noncomputable def laws_eqInt64S (a : List Int) (b : List Int) : Option (Bool) :=
  bif (((a.length : Nat) : Int) != ((b.length : Nat) : Int)) then
   some (false)
  else (loop laws_eqInt64S_l0 (a, b, (0 : Int), ())).bind fun r0 =>
   alt r0 (fun r1 =>
    some (r1.1))
    (fun r2 =>
    some (true))
noncomputable def laws_markInt64S_l0 : (List Int) × Int × Int × Unit → Option (Ctl ((List Int) × Int × Int × Unit) (((List Int) × Int × Unit)))
  | (a, (k, (i, ()))) =>
    bif (decide (i < ((a.length : Nat) : Int))) then
   bif ((decide ((0 : Int) ≤ i)) && (decide (i < ((a.length : Nat) : Int)))) then
    some (.next ((a.set i.toNat k), ((w64 (k + (1 : Int))), ((w64 (i + (1 : Int))), ()))))
   else none
  else some (.stop ((a, (k, ()))))
noncomputable def laws_markInt64S (a : List Int) (k : Int) : Option (Int × (List Int)) :=
  (loop laws_markInt64S_l0 (a, k, (0 : Int), ())).bind fun r0 =>
  some (r0.2.1, r0.1)
noncomputable def laws_heldInt64S_l0 : (List Int) × Int × Int × Unit → Option (Ctl ((List Int) × Int × Int × Unit) ((Int × Unit) ⊕ (Int × Unit)))
  | (a, (k, (i, ()))) =>
    bif (decide (i < ((a.length : Nat) : Int))) then
   bif ((decide ((0 : Int) ≤ i)) && (decide (i < ((a.length : Nat) : Int)))) then
    bif ((a.getD i.toNat (0 : Int)) != k) then
     some (.stop (.inl ((-1 : Int), ())))
    else some (.next (a, ((w64 (k + (1 : Int))), ((w64 (i + (1 : Int))), ()))))
   else none
  else some (.stop (.inr ((k, ()))))
noncomputable def laws_heldInt64S (a : List Int) (k : Int) : Option (Int) :=
  (loop laws_heldInt64S_l0 (a, k, (0 : Int), ())).bind fun r0 =>
  alt r0 (fun r1 =>
   some (r1.1))
   (fun r2 =>
   some (r2.1))
noncomputable def laws_FnExactCountByDepth (aM : ((Int × (Int × Unit)) × ((Int × (Int × Unit)) × Unit))) (aK : Int) : Option (Bool) :=
  (laws_toLeaf aM).bind fun r0 =>
  (spec_CountByDepth r0 aK).bind fun r1 =>
  (laws_toLeaf aM).bind fun r2 =>
  (impl_CountByDepth r2 aK).bind fun r3 =>
  (laws_eqInt64S r3.1 r1.1).bind fun r4 =>
  bif (!r4) then
   some (false)
  else bif (r3.2 != r1.2) then
    some (false)
   else (laws_markInt64S r3.1 (1 : Int)).bind fun r5 =>
    (laws_heldInt64S r5.2 (1 : Int)).bind fun r6 =>
    bif (decide (r6 < (0 : Int))) then
     some (false)
    else bif (r6 != r5.1) then
      some (false)
     else (laws_toLeaf aM).bind fun r7 =>
      (impl_CountByDepth r7 aK).bind fun r8 =>
      (laws_eqInt64S r8.1 r1.1).bind fun r9 =>
      bif (!r9) then
       some (false)
      else bif (r8.2 != r1.2) then
        some (false)
       else (laws_heldInt64S r5.2 (1 : Int)).bind fun r10 =>
        bif (decide (r10 < (0 : Int))) then
         some (false)
        else bif (r10 != r5.1) then
          some (false)
         else some (true)
noncomputable def spec_LaminationOf_v2 (m : ((Int × (Int × Unit)) × ((Int × (Int × Unit)) × Unit))) (k : Int) : Option ((List ((Int × (Int × Unit)) × ((Int × (Int × Unit)) × Unit))) × Int) :=
  (spec_l03Is m).bind fun r0 =>
  bif (!r0) then
   some (([] : List ((Int × (Int × Unit)) × ((Int × (Int × Unit)) × Unit))), (1 : Int))
  else (spec_l01In k (0 : Int) (6 : Int)).bind fun r1 =>
   bif (!r1) then
    some (([] : List ((Int × (Int × Unit)) × ((Int × (Int × Unit)) × Unit))), (2 : Int))
   else (spec_l05Depths_v3 m k).bind fun r2 =>
    bif (r2.2 != (0 : Int)) then
     some (([] : List ((Int × (Int × Unit)) × ((Int × (Int × Unit)) × Unit))), r2.2)
    else bif ((decide ((0 : Int) ≤ k)) && (decide (k < ((r2.1.length : Nat) : Int)))) then
      some ((r2.1.getD k.toNat ([] : List ((Int × (Int × Unit)) × ((Int × (Int × Unit)) × Unit)))), (0 : Int))
     else none
noncomputable def impl_LaminationOf (m : ((Int × (Int × Unit)) × ((Int × (Int × Unit)) × Unit))) (k : Int) : Option ((List ((Int × (Int × Unit)) × ((Int × (Int × Unit)) × Unit))) × Int) :=
  (impl_isDepth k).bind fun r0 =>
  (impl_minorLeaf m r0 ([] : List ((Int × (Int × Unit)) × ((Int × (Int × Unit)) × Unit)))).bind fun r1 =>
  bif (r1.2 != (0 : Int)) then
   some (([] : List ((Int × (Int × Unit)) × ((Int × (Int × Unit)) × Unit))), r1.2)
  else (impl_minor_laminations r1.1 k).bind fun r2 =>
   some (r2.1, r2.2.2)
noncomputable def laws_eqAngle (a : (Int × (Int × Unit))) (b : (Int × (Int × Unit))) : Option (Bool) :=
  bif (a.1 != b.1) then
   some (false)
  else bif (a.2.1 != b.2.1) then
    some (false)
   else some (true)
noncomputable def laws_eqLeaf (a : ((Int × (Int × Unit)) × ((Int × (Int × Unit)) × Unit))) (b : ((Int × (Int × Unit)) × ((Int × (Int × Unit)) × Unit))) : Option (Bool) :=
  (laws_eqAngle a.1 b.1).bind fun r0 =>
  bif (!r0) then
   some (false)
  else (laws_eqAngle a.2.1 b.2.1).bind fun r1 =>
   bif (!r1) then
    some (false)
   else some (true)
noncomputable def laws_eqLeafS_l0 : (List ((Int × (Int × Unit)) × ((Int × (Int × Unit)) × Unit))) × (List ((Int × (Int × Unit)) × ((Int × (Int × Unit)) × Unit))) × Int × Unit → Option (Ctl ((List ((Int × (Int × Unit)) × ((Int × (Int × Unit)) × Unit))) × (List ((Int × (Int × Unit)) × ((Int × (Int × Unit)) × Unit))) × Int × Unit) ((Bool × Unit) ⊕ (Unit)))
  | (a, (b, (i, ()))) =>
    bif (decide (i < ((a.length : Nat) : Int))) then
   bif ((decide ((0 : Int) ≤ i)) && (decide (i < ((a.length : Nat) : Int)))) then
    bif ((decide ((0 : Int) ≤ i)) && (decide (i < ((b.length : Nat) : Int)))) then
     (laws_eqLeaf (a.getD i.toNat (((0 : Int), (0 : Int), ()), ((0 : Int), (0 : Int), ()), ())) (b.getD i.toNat (((0 : Int), (0 : Int), ()), ((0 : Int), (0 : Int), ()), ()))).bind fun r0 =>
     bif (!r0) then
      some (.stop (.inl (false, ())))
     else some (.next (a, (b, ((w64 (i + (1 : Int))), ()))))
    else none
   else none
  else some (.stop (.inr (())))
noncomputable def laws_eqLeafS (a : List ((Int × (Int × Unit)) × ((Int × (Int × Unit)) × Unit))) (b : List ((Int × (Int × Unit)) × ((Int × (Int × Unit)) × Unit))) : Option (Bool) :=
  bif (((a.length : Nat) : Int) != ((b.length : Nat) : Int)) then
   some (false)
  else (loop laws_eqLeafS_l0 (a, b, (0 : Int), ())).bind fun r0 =>
   alt r0 (fun r1 =>
    some (r1.1))
    (fun r2 =>
    some (true))
noncomputable def laws_markLeafS_l0 : (List ((Int × (Int × Unit)) × ((Int × (Int × Unit)) × Unit))) × Int × Int × Unit → Option (Ctl ((List ((Int × (Int × Unit)) × ((Int × (Int × Unit)) × Unit))) × Int × Int × Unit) (((List ((Int × (Int × Unit)) × ((Int × (Int × Unit)) × Unit))) × Int × Unit)))
  | (a, (k, (i, ()))) =>
    bif (decide (i < ((a.length : Nat) : Int))) then
   bif ((decide ((0 : Int) ≤ i)) && (decide (i < ((a.length : Nat) : Int)))) then
    bif ((decide ((0 : Int) ≤ i)) && (decide (i < (((a.set i.toNat ((k, (a.getD i.toNat (((0 : Int), (0 : Int), ()), ((0 : Int), (0 : Int), ()), ())).1.2), (a.getD i.toNat (((0 : Int), (0 : Int), ()), ((0 : Int), (0 : Int), ()), ())).2)).length : Nat) : Int)))) then
     bif ((decide ((0 : Int) ≤ i)) && (decide (i < ((((a.set i.toNat ((k, (a.getD i.toNat (((0 : Int), (0 : Int), ()), ((0 : Int), (0 : Int), ()), ())).1.2), (a.getD i.toNat (((0 : Int), (0 : Int), ()), ((0 : Int), (0 : Int), ()), ())).2)).set i.toNat ((((a.set i.toNat ((k, (a.getD i.toNat (((0 : Int), (0 : Int), ()), ((0 : Int), (0 : Int), ()), ())).1.2), (a.getD i.toNat (((0 : Int), (0 : Int), ()), ((0 : Int), (0 : Int), ()), ())).2)).getD i.toNat (((0 : Int), (0 : Int), ()), ((0 : Int), (0 : Int), ()), ())).1.1, (w64 (k + (1 : Int))), ((a.set i.toNat ((k, (a.getD i.toNat (((0 : Int), (0 : Int), ()), ((0 : Int), (0 : Int), ()), ())).1.2), (a.getD i.toNat (((0 : Int), (0 : Int), ()), ((0 : Int), (0 : Int), ()), ())).2)).getD i.toNat (((0 : Int), (0 : Int), ()), ((0 : Int), (0 : Int), ()), ())).1.2.2), ((a.set i.toNat ((k, (a.getD i.toNat (((0 : Int), (0 : Int), ()), ((0 : Int), (0 : Int), ()), ())).1.2), (a.getD i.toNat (((0 : Int), (0 : Int), ()), ((0 : Int), (0 : Int), ()), ())).2)).getD i.toNat (((0 : Int), (0 : Int), ()), ((0 : Int), (0 : Int), ()), ())).2)).length : Nat) : Int)))) then
      bif ((decide ((0 : Int) ≤ i)) && (decide (i < (((((a.set i.toNat ((k, (a.getD i.toNat (((0 : Int), (0 : Int), ()), ((0 : Int), (0 : Int), ()), ())).1.2), (a.getD i.toNat (((0 : Int), (0 : Int), ()), ((0 : Int), (0 : Int), ()), ())).2)).set i.toNat ((((a.set i.toNat ((k, (a.getD i.toNat (((0 : Int), (0 : Int), ()), ((0 : Int), (0 : Int), ()), ())).1.2), (a.getD i.toNat (((0 : Int), (0 : Int), ()), ((0 : Int), (0 : Int), ()), ())).2)).getD i.toNat (((0 : Int), (0 : Int), ()), ((0 : Int), (0 : Int), ()), ())).1.1, (w64 (k + (1 : Int))), ((a.set i.toNat ((k, (a.getD i.toNat (((0 : Int), (0 : Int), ()), ((0 : Int), (0 : Int), ()), ())).1.2), (a.getD i.toNat (((0 : Int), (0 : Int), ()), ((0 : Int), (0 : Int), ()), ())).2)).getD i.toNat (((0 : Int), (0 : Int), ()), ((0 : Int), (0 : Int), ()), ())).1.2.2), ((a.set i.toNat ((k, (a.getD i.toNat (((0 : Int), (0 : Int), ()), ((0 : Int), (0 : Int), ()), ())).1.2), (a.getD i.toNat (((0 : Int), (0 : Int), ()), ((0 : Int), (0 : Int), ()), ())).2)).getD i.toNat (((0 : Int), (0 : Int), ()), ((0 : Int), (0 : Int), ()), ())).2)).set i.toNat ((((a.set i.toNat ((k, (a.getD i.toNat (((0 : Int), (0 : Int), ()), ((0 : Int), (0 : Int), ()), ())).1.2), (a.getD i.toNat (((0 : Int), (0 : Int), ()), ((0 : Int), (0 : Int), ()), ())).2)).set i.toNat ((((a.set i.toNat ((k, (a.getD i.toNat (((0 : Int), (0 : Int), ()), ((0 : Int), (0 : Int), ()), ())).1.2), (a.getD i.toNat (((0 : Int), (0 : Int), ()), ((0 : Int), (0 : Int), ()), ())).2)).getD i.toNat (((0 : Int), (0 : Int), ()), ((0 : Int), (0 : Int), ()), ())).1.1, (w64 (k + (1 : Int))), ((a.set i.toNat ((k, (a.getD i.toNat (((0 : Int), (0 : Int), ()), ((0 : Int), (0 : Int), ()), ())).1.2), (a.getD i.toNat (((0 : Int), (0 : Int), ()), ((0 : Int), (0 : Int), ()), ())).2)).getD i.toNat (((0 : Int), (0 : Int), ()), ((0 : Int), (0 : Int), ()), ())).1.2.2), ((a.set i.toNat ((k, (a.getD i.toNat (((0 : Int), (0 : Int), ()), ((0 : Int), (0 : Int), ()), ())).1.2), (a.getD i.toNat (((0 : Int), (0 : Int), ()), ((0 : Int), (0 : Int), ()), ())).2)).getD i.toNat (((0 : Int), (0 : Int), ()), ((0 : Int), (0 : Int), ()), ())).2)).getD i.toNat (((0 : Int), (0 : Int), ()), ((0 : Int), (0 : Int), ()), ())).1, ((w64 ((w64 (k + (1 : Int))) + (1 : Int))), (((a.set i.toNat ((k, (a.getD i.toNat (((0 : Int), (0 : Int), ()), ((0 : Int), (0 : Int), ()), ())).1.2), (a.getD i.toNat (((0 : Int), (0 : Int), ()), ((0 : Int), (0 : Int), ()), ())).2)).set i.toNat ((((a.set i.toNat ((k, (a.getD i.toNat (((0 : Int), (0 : Int), ()), ((0 : Int), (0 : Int), ()), ())).1.2), (a.getD i.toNat (((0 : Int), (0 : Int), ()), ((0 : Int), (0 : Int), ()), ())).2)).getD i.toNat (((0 : Int), (0 : Int), ()), ((0 : Int), (0 : Int), ()), ())).1.1, (w64 (k + (1 : Int))), ((a.set i.toNat ((k, (a.getD i.toNat (((0 : Int), (0 : Int), ()), ((0 : Int), (0 : Int), ()), ())).1.2), (a.getD i.toNat (((0 : Int), (0 : Int), ()), ((0 : Int), (0 : Int), ()), ())).2)).getD i.toNat (((0 : Int), (0 : Int), ()), ((0 : Int), (0 : Int), ()), ())).1.2.2), ((a.set i.toNat ((k, (a.getD i.toNat (((0 : Int), (0 : Int), ()), ((0 : Int), (0 : Int), ()), ())).1.2), (a.getD i.toNat (((0 : Int), (0 : Int), ()), ((0 : Int), (0 : Int), ()), ())).2)).getD i.toNat (((0 : Int), (0 : Int), ()), ((0 : Int), (0 : Int), ()), ())).2)).getD i.toNat (((0 : Int), (0 : Int), ()), ((0 : Int), (0 : Int), ()), ())).2.1.2), (((a.set i.toNat ((k, (a.getD i.toNat (((0 : Int), (0 : Int), ()), ((0 : Int), (0 : Int), ()), ())).1.2), (a.getD i.toNat (((0 : Int), (0 : Int), ()), ((0 : Int), (0 : Int), ()), ())).2)).set i.toNat ((((a.set i.toNat ((k, (a.getD i.toNat (((0 : Int), (0 : Int), ()), ((0 : Int), (0 : Int), ()), ())).1.2), (a.getD i.toNat (((0 : Int), (0 : Int), ()), ((0 : Int), (0 : Int), ()), ())).2)).getD i.toNat (((0 : Int), (0 : Int), ()), ((0 : Int), (0 : Int), ()), ())).1.1, (w64 (k + (1 : Int))), ((a.set i.toNat ((k, (a.getD i.toNat (((0 : Int), (0 : Int), ()), ((0 : Int), (0 : Int), ()), ())).1.2), (a.getD i.toNat (((0 : Int), (0 : Int), ()), ((0 : Int), (0 : Int), ()), ())).2)).getD i.toNat (((0 : Int), (0 : Int), ()), ((0 : Int), (0 : Int), ()), ())).1.2.2), ((a.set i.toNat ((k, (a.getD i.toNat (((0 : Int), (0 : Int), ()), ((0 : Int), (0 : Int), ()), ())).1.2), (a.getD i.toNat (((0 : Int), (0 : Int), ()), ((0 : Int), (0 : Int), ()), ())).2)).getD i.toNat (((0 : Int), (0 : Int), ()), ((0 : Int), (0 : Int), ()), ())).2)).getD i.toNat (((0 : Int), (0 : Int), ()), ((0 : Int), (0 : Int), ()), ())).2.2)).length : Nat) : Int)))) then
       some (.next (((((a.set i.toNat ((k, (a.getD i.toNat (((0 : Int), (0 : Int), ()), ((0 : Int), (0 : Int), ()), ())).1.2), (a.getD i.toNat (((0 : Int), (0 : Int), ()), ((0 : Int), (0 : Int), ()), ())).2)).set i.toNat ((((a.set i.toNat ((k, (a.getD i.toNat (((0 : Int), (0 : Int), ()), ((0 : Int), (0 : Int), ()), ())).1.2), (a.getD i.toNat (((0 : Int), (0 : Int), ()), ((0 : Int), (0 : Int), ()), ())).2)).getD i.toNat (((0 : Int), (0 : Int), ()), ((0 : Int), (0 : Int), ()), ())).1.1, (w64 (k + (1 : Int))), ((a.set i.toNat ((k, (a.getD i.toNat (((0 : Int), (0 : Int), ()), ((0 : Int), (0 : Int), ()), ())).1.2), (a.getD i.toNat (((0 : Int), (0 : Int), ()), ((0 : Int), (0 : Int), ()), ())).2)).getD i.toNat (((0 : Int), (0 : Int), ()), ((0 : Int), (0 : Int), ()), ())).1.2.2), ((a.set i.toNat ((k, (a.getD i.toNat (((0 : Int), (0 : Int), ()), ((0 : Int), (0 : Int), ()), ())).1.2), (a.getD i.toNat (((0 : Int), (0 : Int), ()), ((0 : Int), (0 : Int), ()), ())).2)).getD i.toNat (((0 : Int), (0 : Int), ()), ((0 : Int), (0 : Int), ()), ())).2)).set i.toNat ((((a.set i.toNat ((k, (a.getD i.toNat (((0 : Int), (0 : Int), ()), ((0 : Int), (0 : Int), ()), ())).1.2), (a.getD i.toNat (((0 : Int), (0 : Int), ()), ((0 : Int), (0 : Int), ()), ())).2)).set i.toNat ((((a.set i.toNat ((k, (a.getD i.toNat (((0 : Int), (0 : Int), ()), ((0 : Int), (0 : Int), ()), ())).1.2), (a.getD i.toNat (((0 : Int), (0 : Int), ()), ((0 : Int), (0 : Int), ()), ())).2)).getD i.toNat (((0 : Int), (0 : Int), ()), ((0 : Int), (0 : Int), ()), ())).1.1, (w64 (k + (1 : Int))), ((a.set i.toNat ((k, (a.getD i.toNat (((0 : Int), (0 : Int), ()), ((0 : Int), (0 : Int), ()), ())).1.2), (a.getD i.toNat (((0 : Int), (0 : Int), ()), ((0 : Int), (0 : Int), ()), ())).2)).getD i.toNat (((0 : Int), (0 : Int), ()), ((0 : Int), (0 : Int), ()), ())).1.2.2), ((a.set i.toNat ((k, (a.getD i.toNat (((0 : Int), (0 : Int), ()), ((0 : Int), (0 : Int), ()), ())).1.2), (a.getD i.toNat (((0 : Int), (0 : Int), ()), ((0 : Int), (0 : Int), ()), ())).2)).getD i.toNat (((0 : Int), (0 : Int), ()), ((0 : Int), (0 : Int), ()), ())).2)).getD i.toNat (((0 : Int), (0 : Int), ()), ((0 : Int), (0 : Int), ()), ())).1, ((w64 ((w64 (k + (1 : Int))) + (1 : Int))), (((a.set i.toNat ((k, (a.getD i.toNat (((0 : Int), (0 : Int), ()), ((0 : Int), (0 : Int), ()), ())).1.2), (a.getD i.toNat (((0 : Int), (0 : Int), ()), ((0 : Int), (0 : Int), ()), ())).2)).set i.toNat ((((a.set i.toNat ((k, (a.getD i.toNat (((0 : Int), (0 : Int), ()), ((0 : Int), (0 : Int), ()), ())).1.2), (a.getD i.toNat (((0 : Int), (0 : Int), ()), ((0 : Int), (0 : Int), ()), ())).2)).getD i.toNat (((0 : Int), (0 : Int), ()), ((0 : Int), (0 : Int), ()), ())).1.1, (w64 (k + (1 : Int))), ((a.set i.toNat ((k, (a.getD i.toNat (((0 : Int), (0 : Int), ()), ((0 : Int), (0 : Int), ()), ())).1.2), (a.getD i.toNat (((0 : Int), (0 : Int), ()), ((0 : Int), (0 : Int), ()), ())).2)).getD i.toNat (((0 : Int), (0 : Int), ()), ((0 : Int), (0 : Int), ()), ())).1.2.2), ((a.set i.toNat ((k, (a.getD i.toNat (((0 : Int), (0 : Int), ()), ((0 : Int), (0 : Int), ()), ())).1.2), (a.getD i.toNat (((0 : Int), (0 : Int), ()), ((0 : Int), (0 : Int), ()), ())).2)).getD i.toNat (((0 : Int), (0 : Int), ()), ((0 : Int), (0 : Int), ()), ())).2)).getD i.toNat (((0 : Int), (0 : Int), ()), ((0 : Int), (0 : Int), ()), ())).2.1.2), (((a.set i.toNat ((k, (a.getD i.toNat (((0 : Int), (0 : Int), ()), ((0 : Int), (0 : Int), ()), ())).1.2), (a.getD i.toNat (((0 : Int), (0 : Int), ()), ((0 : Int), (0 : Int), ()), ())).2)).set i.toNat ((((a.set i.toNat ((k, (a.getD i.toNat (((0 : Int), (0 : Int), ()), ((0 : Int), (0 : Int), ()), ())).1.2), (a.getD i.toNat (((0 : Int), (0 : Int), ()), ((0 : Int), (0 : Int), ()), ())).2)).getD i.toNat (((0 : Int), (0 : Int), ()), ((0 : Int), (0 : Int), ()), ())).1.1, (w64 (k + (1 : Int))), ((a.set i.toNat ((k, (a.getD i.toNat (((0 : Int), (0 : Int), ()), ((0 : Int), (0 : Int), ()), ())).1.2), (a.getD i.toNat (((0 : Int), (0 : Int), ()), ((0 : Int), (0 : Int), ()), ())).2)).getD i.toNat (((0 : Int), (0 : Int), ()), ((0 : Int), (0 : Int), ()), ())).1.2.2), ((a.set i.toNat ((k, (a.getD i.toNat (((0 : Int), (0 : Int), ()), ((0 : Int), (0 : Int), ()), ())).1.2), (a.getD i.toNat (((0 : Int), (0 : Int), ()), ((0 : Int), (0 : Int), ()), ())).2)).getD i.toNat (((0 : Int), (0 : Int), ()), ((0 : Int), (0 : Int), ()), ())).2)).getD i.toNat (((0 : Int), (0 : Int), ()), ((0 : Int), (0 : Int), ()), ())).2.2)).set i.toNat (((((a.set i.toNat ((k, (a.getD i.toNat (((0 : Int), (0 : Int), ()), ((0 : Int), (0 : Int), ()), ())).1.2), (a.getD i.toNat (((0 : Int), (0 : Int), ()), ((0 : Int), (0 : Int), ()), ())).2)).set i.toNat ((((a.set i.toNat ((k, (a.getD i.toNat (((0 : Int), (0 : Int), ()), ((0 : Int), (0 : Int), ()), ())).1.2), (a.getD i.toNat (((0 : Int), (0 : Int), ()), ((0 : Int), (0 : Int), ()), ())).2)).getD i.toNat (((0 : Int), (0 : Int), ()), ((0 : Int), (0 : Int), ()), ())).1.1, (w64 (k + (1 : Int))), ((a.set i.toNat ((k, (a.getD i.toNat (((0 : Int), (0 : Int), ()), ((0 : Int), (0 : Int), ()), ())).1.2), (a.getD i.toNat (((0 : Int), (0 : Int), ()), ((0 : Int), (0 : Int), ()), ())).2)).getD i.toNat (((0 : Int), (0 : Int), ()), ((0 : Int), (0 : Int), ()), ())).1.2.2), ((a.set i.toNat ((k, (a.getD i.toNat (((0 : Int), (0 : Int), ()), ((0 : Int), (0 : Int), ()), ())).1.2), (a.getD i.toNat (((0 : Int), (0 : Int), ()), ((0 : Int), (0 : Int), ()), ())).2)).getD i.toNat (((0 : Int), (0 : Int), ()), ((0 : Int), (0 : Int), ()), ())).2)).set i.toNat ((((a.set i.toNat ((k, (a.getD i.toNat (((0 : Int), (0 : Int), ()), ((0 : Int), (0 : Int), ()), ())).1.2), (a.getD i.toNat (((0 : Int), (0 : Int), ()), ((0 : Int), (0 : Int), ()), ())).2)).set i.toNat ((((a.set i.toNat ((k, (a.getD i.toNat (((0 : Int), (0 : Int), ()), ((0 : Int), (0 : Int), ()), ())).1.2), (a.getD i.toNat (((0 : Int), (0 : Int), ()), ((0 : Int), (0 : Int), ()), ())).2)).getD i.toNat (((0 : Int), (0 : Int), ()), ((0 : Int), (0 : Int), ()), ())).1.1, (w64 (k + (1 : Int))), ((a.set i.toNat ((k, (a.getD i.toNat (((0 : Int), (0 : Int), ()), ((0 : Int), (0 : Int), ()), ())).1.2), (a.getD i.toNat (((0 : Int), (0 : Int), ()), ((0 : Int), (0 : Int), ()), ())).2)).getD i.toNat (((0 : Int), (0 : Int), ()), ((0 : Int), (0 : Int), ()), ())).1.2.2), ((a.set i.toNat ((k, (a.getD i.toNat (((0 : Int), (0 : Int), ()), ((0 : Int), (0 : Int), ()), ())).1.2), (a.getD i.toNat (((0 : Int), (0 : Int), ()), ((0 : Int), (0 : Int), ()), ())).2)).getD i.toNat (((0 : Int), (0 : Int), ()), ((0 : Int), (0 : Int), ()), ())).2)).getD i.toNat (((0 : Int), (0 : Int), ()), ((0 : Int), (0 : Int), ()), ())).1, ((w64 ((w64 (k + (1 : Int))) + (1 : Int))), (((a.set i.toNat ((k, (a.getD i.toNat (((0 : Int), (0 : Int), ()), ((0 : Int), (0 : Int), ()), ())).1.2), (a.getD i.toNat (((0 : Int), (0 : Int), ()), ((0 : Int), (0 : Int), ()), ())).2)).set i.toNat ((((a.set i.toNat ((k, (a.getD i.toNat (((0 : Int), (0 : Int), ()), ((0 : Int), (0 : Int), ()), ())).1.2), (a.getD i.toNat (((0 : Int), (0 : Int), ()), ((0 : Int), (0 : Int), ()), ())).2)).getD i.toNat (((0 : Int), (0 : Int), ()), ((0 : Int), (0 : Int), ()), ())).1.1, (w64 (k + (1 : Int))), ((a.set i.toNat ((k, (a.getD i.toNat (((0 : Int), (0 : Int), ()), ((0 : Int), (0 : Int), ()), ())).1.2), (a.getD i.toNat (((0 : Int), (0 : Int), ()), ((0 : Int), (0 : Int), ()), ())).2)).getD i.toNat (((0 : Int), (0 : Int), ()), ((0 : Int), (0 : Int), ()), ())).1.2.2), ((a.set i.toNat ((k, (a.getD i.toNat (((0 : Int), (0 : Int), ()), ((0 : Int), (0 : Int), ()), ())).1.2), (a.getD i.toNat (((0 : Int), (0 : Int), ()), ((0 : Int), (0 : Int), ()), ())).2)).getD i.toNat (((0 : Int), (0 : Int), ()), ((0 : Int), (0 : Int), ()), ())).2)).getD i.toNat (((0 : Int), (0 : Int), ()), ((0 : Int), (0 : Int), ()), ())).2.1.2), (((a.set i.toNat ((k, (a.getD i.toNat (((0 : Int), (0 : Int), ()), ((0 : Int), (0 : Int), ()), ())).1.2), (a.getD i.toNat (((0 : Int), (0 : Int), ()), ((0 : Int), (0 : Int), ()), ())).2)).set i.toNat ((((a.set i.toNat ((k, (a.getD i.toNat (((0 : Int), (0 : Int), ()), ((0 : Int), (0 : Int), ()), ())).1.2), (a.getD i.toNat (((0 : Int), (0 : Int), ()), ((0 : Int), (0 : Int), ()), ())).2)).getD i.toNat (((0 : Int), (0 : Int), ()), ((0 : Int), (0 : Int), ()), ())).1.1, (w64 (k + (1 : Int))), ((a.set i.toNat ((k, (a.getD i.toNat (((0 : Int), (0 : Int), ()), ((0 : Int), (0 : Int), ()), ())).1.2), (a.getD i.toNat (((0 : Int), (0 : Int), ()), ((0 : Int), (0 : Int), ()), ())).2)).getD i.toNat (((0 : Int), (0 : Int), ()), ((0 : Int), (0 : Int), ()), ())).1.2.2), ((a.set i.toNat ((k, (a.getD i.toNat (((0 : Int), (0 : Int), ()), ((0 : Int), (0 : Int), ()), ())).1.2), (a.getD i.toNat (((0 : Int), (0 : Int), ()), ((0 : Int), (0 : Int), ()), ())).2)).getD i.toNat (((0 : Int), (0 : Int), ()), ((0 : Int), (0 : Int), ()), ())).2)).getD i.toNat (((0 : Int), (0 : Int), ()), ((0 : Int), (0 : Int), ()), ())).2.2)).getD i.toNat (((0 : Int), (0 : Int), ()), ((0 : Int), (0 : Int), ()), ())).1, (((((a.set i.toNat ((k, (a.getD i.toNat (((0 : Int), (0 : Int), ()), ((0 : Int), (0 : Int), ()), ())).1.2), (a.getD i.toNat (((0 : Int), (0 : Int), ()), ((0 : Int), (0 : Int), ()), ())).2)).set i.toNat ((((a.set i.toNat ((k, (a.getD i.toNat (((0 : Int), (0 : Int), ()), ((0 : Int), (0 : Int), ()), ())).1.2), (a.getD i.toNat (((0 : Int), (0 : Int), ()), ((0 : Int), (0 : Int), ()), ())).2)).getD i.toNat (((0 : Int), (0 : Int), ()), ((0 : Int), (0 : Int), ()), ())).1.1, (w64 (k + (1 : Int))), ((a.set i.toNat ((k, (a.getD i.toNat (((0 : Int), (0 : Int), ()), ((0 : Int), (0 : Int), ()), ())).1.2), (a.getD i.toNat (((0 : Int), (0 : Int), ()), ((0 : Int), (0 : Int), ()), ())).2)).getD i.toNat (((0 : Int), (0 : Int), ()), ((0 : Int), (0 : Int), ()), ())).1.2.2), ((a.set i.toNat ((k, (a.getD i.toNat (((0 : Int), (0 : Int), ()), ((0 : Int), (0 : Int), ()), ())).1.2), (a.getD i.toNat (((0 : Int), (0 : Int), ()), ((0 : Int), (0 : Int), ()), ())).2)).getD i.toNat (((0 : Int), (0 : Int), ()), ((0 : Int), (0 : Int), ()), ())).2)).set i.toNat ((((a.set i.toNat ((k, (a.getD i.toNat (((0 : Int), (0 : Int), ()), ((0 : Int), (0 : Int), ()), ())).1.2), (a.getD i.toNat (((0 : Int), (0 : Int), ()), ((0 : Int), (0 : Int), ()), ())).2)).set i.toNat ((((a.set i.toNat ((k, (a.getD i.toNat (((0 : Int), (0 : Int), ()), ((0 : Int), (0 : Int), ()), ())).1.2), (a.getD i.toNat (((0 : Int), (0 : Int), ()), ((0 : Int), (0 : Int), ()), ())).2)).getD i.toNat (((0 : Int), (0 : Int), ()), ((0 : Int), (0 : Int), ()), ())).1.1, (w64 (k + (1 : Int))), ((a.set i.toNat ((k, (a.getD i.toNat (((0 : Int), (0 : Int), ()), ((0 : Int), (0 : Int), ()), ())).1.2), (a.getD i.toNat (((0 : Int), (0 : Int), ()), ((0 : Int), (0 : Int), ()), ())).2)).getD i.toNat (((0 : Int), (0 : Int), ()), ((0 : Int), (0 : Int), ()), ())).1.2.2), ((a.set i.toNat ((k, (a.getD i.toNat (((0 : Int), (0 : Int), ()), ((0 : Int), (0 : Int), ()), ())).1.2), (a.getD i.toNat (((0 : Int), (0 : Int), ()), ((0 : Int), (0 : Int), ()), ())).2)).getD i.toNat (((0 : Int), (0 : Int), ()), ((0 : Int), (0 : Int), ()), ())).2)).getD i.toNat (((0 : Int), (0 : Int), ()), ((0 : Int), (0 : Int), ()), ())).1, ((w64 ((w64 (k + (1 : Int))) + (1 : Int))), (((a.set i.toNat ((k, (a.getD i.toNat (((0 : Int), (0 : Int), ()), ((0 : Int), (0 : Int), ()), ())).1.2), (a.getD i.toNat (((0 : Int), (0 : Int), ()), ((0 : Int), (0 : Int), ()), ())).2)).set i.toNat ((((a.set i.toNat ((k, (a.getD i.toNat (((0 : Int), (0 : Int), ()), ((0 : Int), (0 : Int), ()), ())).1.2), (a.getD i.toNat (((0 : Int), (0 : Int), ()), ((0 : Int), (0 : Int), ()), ())).2)).getD i.toNat (((0 : Int), (0 : Int), ()), ((0 : Int), (0 : Int), ()), ())).1.1, (w64 (k + (1 : Int))), ((a.set i.toNat ((k, (a.getD i.toNat (((0 : Int), (0 : Int), ()), ((0 : Int), (0 : Int), ()), ())).1.2), (a.getD i.toNat (((0 : Int), (0 : Int), ()), ((0 : Int), (0 : Int), ()), ())).2)).getD i.toNat (((0 : Int), (0 : Int), ()), ((0 : Int), (0 : Int), ()), ())).1.2.2), ((a.set i.toNat ((k, (a.getD i.toNat (((0 : Int), (0 : Int), ()), ((0 : Int), (0 : Int), ()), ())).1.2), (a.getD i.toNat (((0 : Int), (0 : Int), ()), ((0 : Int), (0 : Int), ()), ())).2)).getD i.toNat (((0 : Int), (0 : Int), ()), ((0 : Int), (0 : Int), ()), ())).2)).getD i.toNat (((0 : Int), (0 : Int), ()), ((0 : Int), (0 : Int), ()), ())).2.1.2), (((a.set i.toNat ((k, (a.getD i.toNat (((0 : Int), (0 : Int), ()), ((0 : Int), (0 : Int), ()), ())).1.2), (a.getD i.toNat (((0 : Int), (0 : Int), ()), ((0 : Int), (0 : Int), ()), ())).2)).set i.toNat ((((a.set i.toNat ((k, (a.getD i.toNat (((0 : Int), (0 : Int), ()), ((0 : Int), (0 : Int), ()), ())).1.2), (a.getD i.toNat (((0 : Int), (0 : Int), ()), ((0 : Int), (0 : Int), ()), ())).2)).getD i.toNat (((0 : Int), (0 : Int), ()), ((0 : Int), (0 : Int), ()), ())).1.1, (w64 (k + (1 : Int))), ((a.set i.toNat ((k, (a.getD i.toNat (((0 : Int), (0 : Int), ()), ((0 : Int), (0 : Int), ()), ())).1.2), (a.getD i.toNat (((0 : Int), (0 : Int), ()), ((0 : Int), (0 : Int), ()), ())).2)).getD i.toNat (((0 : Int), (0 : Int), ()), ((0 : Int), (0 : Int), ()), ())).1.2.2), ((a.set i.toNat ((k, (a.getD i.toNat (((0 : Int), (0 : Int), ()), ((0 : Int), (0 : Int), ()), ())).1.2), (a.getD i.toNat (((0 : Int), (0 : Int), ()), ((0 : Int), (0 : Int), ()), ())).2)).getD i.toNat (((0 : Int), (0 : Int), ()), ((0 : Int), (0 : Int), ()), ())).2)).getD i.toNat (((0 : Int), (0 : Int), ()), ((0 : Int), (0 : Int), ()), ())).2.2)).getD i.toNat (((0 : Int), (0 : Int), ()), ((0 : Int), (0 : Int), ()), ())).2.1.1, (w64 ((w64 ((w64 (k + (1 : Int))) + (1 : Int))) + (1 : Int))), ((((a.set i.toNat ((k, (a.getD i.toNat (((0 : Int), (0 : Int), ()), ((0 : Int), (0 : Int), ()), ())).1.2), (a.getD i.toNat (((0 : Int), (0 : Int), ()), ((0 : Int), (0 : Int), ()), ())).2)).set i.toNat ((((a.set i.toNat ((k, (a.getD i.toNat (((0 : Int), (0 : Int), ()), ((0 : Int), (0 : Int), ()), ())).1.2), (a.getD i.toNat (((0 : Int), (0 : Int), ()), ((0 : Int), (0 : Int), ()), ())).2)).getD i.toNat (((0 : Int), (0 : Int), ()), ((0 : Int), (0 : Int), ()), ())).1.1, (w64 (k + (1 : Int))), ((a.set i.toNat ((k, (a.getD i.toNat (((0 : Int), (0 : Int), ()), ((0 : Int), (0 : Int), ()), ())).1.2), (a.getD i.toNat (((0 : Int), (0 : Int), ()), ((0 : Int), (0 : Int), ()), ())).2)).getD i.toNat (((0 : Int), (0 : Int), ()), ((0 : Int), (0 : Int), ()), ())).1.2.2), ((a.set i.toNat ((k, (a.getD i.toNat (((0 : Int), (0 : Int), ()), ((0 : Int), (0 : Int), ()), ())).1.2), (a.getD i.toNat (((0 : Int), (0 : Int), ()), ((0 : Int), (0 : Int), ()), ())).2)).getD i.toNat (((0 : Int), (0 : Int), ()), ((0 : Int), (0 : Int), ()), ())).2)).set i.toNat ((((a.set i.toNat ((k, (a.getD i.toNat (((0 : Int), (0 : Int), ()), ((0 : Int), (0 : Int), ()), ())).1.2), (a.getD i.toNat (((0 : Int), (0 : Int), ()), ((0 : Int), (0 : Int), ()), ())).2)).set i.toNat ((((a.set i.toNat ((k, (a.getD i.toNat (((0 : Int), (0 : Int), ()), ((0 : Int), (0 : Int), ()), ())).1.2), (a.getD i.toNat (((0 : Int), (0 : Int), ()), ((0 : Int), (0 : Int), ()), ())).2)).getD i.toNat (((0 : Int), (0 : Int), ()), ((0 : Int), (0 : Int), ()), ())).1.1, (w64 (k + (1 : Int))), ((a.set i.toNat ((k, (a.getD i.toNat (((0 : Int), (0 : Int), ()), ((0 : Int), (0 : Int), ()), ())).1.2), (a.getD i.toNat (((0 : Int), (0 : Int), ()), ((0 : Int), (0 : Int), ()), ())).2)).getD i.toNat (((0 : Int), (0 : Int), ()), ((0 : Int), (0 : Int), ()), ())).1.2.2), ((a.set i.toNat ((k, (a.getD i.toNat (((0 : Int), (0 : Int), ()), ((0 : Int), (0 : Int), ()), ())).1.2), (a.getD i.toNat (((0 : Int), (0 : Int), ()), ((0 : Int), (0 : Int), ()), ())).2)).getD i.toNat (((0 : Int), (0 : Int), ()), ((0 : Int), (0 : Int), ()), ())).2)).getD i.toNat (((0 : Int), (0 : Int), ()), ((0 : Int), (0 : Int), ()), ())).1, ((w64 ((w64 (k + (1 : Int))) + (1 : Int))), (((a.set i.toNat ((k, (a.getD i.toNat (((0 : Int), (0 : Int), ()), ((0 : Int), (0 : Int), ()), ())).1.2), (a.getD i.toNat (((0 : Int), (0 : Int), ()), ((0 : Int), (0 : Int), ()), ())).2)).set i.toNat ((((a.set i.toNat ((k, (a.getD i.toNat (((0 : Int), (0 : Int), ()), ((0 : Int), (0 : Int), ()), ())).1.2), (a.getD i.toNat (((0 : Int), (0 : Int), ()), ((0 : Int), (0 : Int), ()), ())).2)).getD i.toNat (((0 : Int), (0 : Int), ()), ((0 : Int), (0 : Int), ()), ())).1.1, (w64 (k + (1 : Int))), ((a.set i.toNat ((k, (a.getD i.toNat (((0 : Int), (0 : Int), ()), ((0 : Int), (0 : Int), ()), ())).1.2), (a.getD i.toNat (((0 : Int), (0 : Int), ()), ((0 : Int), (0 : Int), ()), ())).2)).getD i.toNat (((0 : Int), (0 : Int), ()), ((0 : Int), (0 : Int), ()), ())).1.2.2), ((a.set i.toNat ((k, (a.getD i.toNat (((0 : Int), (0 : Int), ()), ((0 : Int), (0 : Int), ()), ())).1.2), (a.getD i.toNat (((0 : Int), (0 : Int), ()), ((0 : Int), (0 : Int), ()), ())).2)).getD i.toNat (((0 : Int), (0 : Int), ()), ((0 : Int), (0 : Int), ()), ())).2)).getD i.toNat (((0 : Int), (0 : Int), ()), ((0 : Int), (0 : Int), ()), ())).2.1.2), (((a.set i.toNat ((k, (a.getD i.toNat (((0 : Int), (0 : Int), ()), ((0 : Int), (0 : Int), ()), ())).1.2), (a.getD i.toNat (((0 : Int), (0 : Int), ()), ((0 : Int), (0 : Int), ()), ())).2)).set i.toNat ((((a.set i.toNat ((k, (a.getD i.toNat (((0 : Int), (0 : Int), ()), ((0 : Int), (0 : Int), ()), ())).1.2), (a.getD i.toNat (((0 : Int), (0 : Int), ()), ((0 : Int), (0 : Int), ()), ())).2)).getD i.toNat (((0 : Int), (0 : Int), ()), ((0 : Int), (0 : Int), ()), ())).1.1, (w64 (k + (1 : Int))), ((a.set i.toNat ((k, (a.getD i.toNat (((0 : Int), (0 : Int), ()), ((0 : Int), (0 : Int), ()), ())).1.2), (a.getD i.toNat (((0 : Int), (0 : Int), ()), ((0 : Int), (0 : Int), ()), ())).2)).getD i.toNat (((0 : Int), (0 : Int), ()), ((0 : Int), (0 : Int), ()), ())).1.2.2), ((a.set i.toNat ((k, (a.getD i.toNat (((0 : Int), (0 : Int), ()), ((0 : Int), (0 : Int), ()), ())).1.2), (a.getD i.toNat (((0 : Int), (0 : Int), ()), ((0 : Int), (0 : Int), ()), ())).2)).getD i.toNat (((0 : Int), (0 : Int), ()), ((0 : Int), (0 : Int), ()), ())).2)).getD i.toNat (((0 : Int), (0 : Int), ()), ((0 : Int), (0 : Int), ()), ())).2.2)).getD i.toNat (((0 : Int), (0 : Int), ()), ((0 : Int), (0 : Int), ()), ())).2.1.2.2), ((((a.set i.toNat ((k, (a.getD i.toNat (((0 : Int), (0 : Int), ()), ((0 : Int), (0 : Int), ()), ())).1.2), (a.getD i.toNat (((0 : Int), (0 : Int), ()), ((0 : Int), (0 : Int), ()), ())).2)).set i.toNat ((((a.set i.toNat ((k, (a.getD i.toNat (((0 : Int), (0 : Int), ()), ((0 : Int), (0 : Int), ()), ())).1.2), (a.getD i.toNat (((0 : Int), (0 : Int), ()), ((0 : Int), (0 : Int), ()), ())).2)).getD i.toNat (((0 : Int), (0 : Int), ()), ((0 : Int), (0 : Int), ()), ())).1.1, (w64 (k + (1 : Int))), ((a.set i.toNat ((k, (a.getD i.toNat (((0 : Int), (0 : Int), ()), ((0 : Int), (0 : Int), ()), ())).1.2), (a.getD i.toNat (((0 : Int), (0 : Int), ()), ((0 : Int), (0 : Int), ()), ())).2)).getD i.toNat (((0 : Int), (0 : Int), ()), ((0 : Int), (0 : Int), ()), ())).1.2.2), ((a.set i.toNat ((k, (a.getD i.toNat (((0 : Int), (0 : Int), ()), ((0 : Int), (0 : Int), ()), ())).1.2), (a.getD i.toNat (((0 : Int), (0 : Int), ()), ((0 : Int), (0 : Int), ()), ())).2)).getD i.toNat (((0 : Int), (0 : Int), ()), ((0 : Int), (0 : Int), ()), ())).2)).set i.toNat ((((a.set i.toNat ((k, (a.getD i.toNat (((0 : Int), (0 : Int), ()), ((0 : Int), (0 : Int), ()), ())).1.2), (a.getD i.toNat (((0 : Int), (0 : Int), ()), ((0 : Int), (0 : Int), ()), ())).2)).set i.toNat ((((a.set i.toNat ((k, (a.getD i.toNat (((0 : Int), (0 : Int), ()), ((0 : Int), (0 : Int), ()), ())).1.2), (a.getD i.toNat (((0 : Int), (0 : Int), ()), ((0 : Int), (0 : Int), ()), ())).2)).getD i.toNat (((0 : Int), (0 : Int), ()), ((0 : Int), (0 : Int), ()), ())).1.1, (w64 (k + (1 : Int))), ((a.set i.toNat ((k, (a.getD i.toNat (((0 : Int), (0 : Int), ()), ((0 : Int), (0 : Int), ()), ())).1.2), (a.getD i.toNat (((0 : Int), (0 : Int), ()), ((0 : Int), (0 : Int), ()), ())).2)).getD i.toNat (((0 : Int), (0 : Int), ()), ((0 : Int), (0 : Int), ()), ())).1.2.2), ((a.set i.toNat ((k, (a.getD i.toNat (((0 : Int), (0 : Int), ()), ((0 : Int), (0 : Int), ()), ())).1.2), (a.getD i.toNat (((0 : Int), (0 : Int), ()), ((0 : Int), (0 : Int), ()), ())).2)).getD i.toNat (((0 : Int), (0 : Int), ()), ((0 : Int), (0 : Int), ()), ())).2)).getD i.toNat (((0 : Int), (0 : Int), ()), ((0 : Int), (0 : Int), ()), ())).1, ((w64 ((w64 (k + (1 : Int))) + (1 : Int))), (((a.set i.toNat ((k, (a.getD i.toNat (((0 : Int), (0 : Int), ()), ((0 : Int), (0 : Int), ()), ())).1.2), (a.getD i.toNat (((0 : Int), (0 : Int), ()), ((0 : Int), (0 : Int), ()), ())).2)).set i.toNat ((((a.set i.toNat ((k, (a.getD i.toNat (((0 : Int), (0 : Int), ()), ((0 : Int), (0 : Int), ()), ())).1.2), (a.getD i.toNat (((0 : Int), (0 : Int), ()), ((0 : Int), (0 : Int), ()), ())).2)).getD i.toNat (((0 : Int), (0 : Int), ()), ((0 : Int), (0 : Int), ()), ())).1.1, (w64 (k + (1 : Int))), ((a.set i.toNat ((k, (a.getD i.toNat (((0 : Int), (0 : Int), ()), ((0 : Int), (0 : Int), ()), ())).1.2), (a.getD i.toNat (((0 : Int), (0 : Int), ()), ((0 : Int), (0 : Int), ()), ())).2)).getD i.toNat (((0 : Int), (0 : Int), ()), ((0 : Int), (0 : Int), ()), ())).1.2.2), ((a.set i.toNat ((k, (a.getD i.toNat (((0 : Int), (0 : Int), ()), ((0 : Int), (0 : Int), ()), ())).1.2), (a.getD i.toNat (((0 : Int), (0 : Int), ()), ((0 : Int), (0 : Int), ()), ())).2)).getD i.toNat (((0 : Int), (0 : Int), ()), ((0 : Int), (0 : Int), ()), ())).2)).getD i.toNat (((0 : Int), (0 : Int), ()), ((0 : Int), (0 : Int), ()), ())).2.1.2), (((a.set i.toNat ((k, (a.getD i.toNat (((0 : Int), (0 : Int), ()), ((0 : Int), (0 : Int), ()), ())).1.2), (a.getD i.toNat (((0 : Int), (0 : Int), ()), ((0 : Int), (0 : Int), ()), ())).2)).set i.toNat ((((a.set i.toNat ((k, (a.getD i.toNat (((0 : Int), (0 : Int), ()), ((0 : Int), (0 : Int), ()), ())).1.2), (a.getD i.toNat (((0 : Int), (0 : Int), ()), ((0 : Int), (0 : Int), ()), ())).2)).getD i.toNat (((0 : Int), (0 : Int), ()), ((0 : Int), (0 : Int), ()), ())).1.1, (w64 (k + (1 : Int))), ((a.set i.toNat ((k, (a.getD i.toNat (((0 : Int), (0 : Int), ()), ((0 : Int), (0 : Int), ()), ())).1.2), (a.getD i.toNat (((0 : Int), (0 : Int), ()), ((0 : Int), (0 : Int), ()), ())).2)).getD i.toNat (((0 : Int), (0 : Int), ()), ((0 : Int), (0 : Int), ()), ())).1.2.2), ((a.set i.toNat ((k, (a.getD i.toNat (((0 : Int), (0 : Int), ()), ((0 : Int), (0 : Int), ()), ())).1.2), (a.getD i.toNat (((0 : Int), (0 : Int), ()), ((0 : Int), (0 : Int), ()), ())).2)).getD i.toNat (((0 : Int), (0 : Int), ()), ((0 : Int), (0 : Int), ()), ())).2)).getD i.toNat (((0 : Int), (0 : Int), ()), ((0 : Int), (0 : Int), ()), ())).2.2)).getD i.toNat (((0 : Int), (0 : Int), ()), ((0 : Int), (0 : Int), ()), ())).2.2)), ((w64 ((w64 ((w64 ((w64 (k + (1 : Int))) + (1 : Int))) + (1 : Int))) + (1 : Int))), ((w64 (i + (1 : Int))), ()))))
      else none
     else none
    else none
   else none
  else some (.stop ((a, (k, ()))))
noncomputable def laws_markLeafS (a : List ((Int × (Int × Unit)) × ((Int × (Int × Unit)) × Unit))) (k : Int) : Option (Int × (List ((Int × (Int × Unit)) × ((Int × (Int × Unit)) × Unit)))) :=
  (loop laws_markLeafS_l0 (a, k, (0 : Int), ())).bind fun r0 =>
  some (r0.2.1, r0.1)
noncomputable def laws_heldLeafS_l0 : (List ((Int × (Int × Unit)) × ((Int × (Int × Unit)) × Unit))) × Int × Int × Unit → Option (Ctl ((List ((Int × (Int × Unit)) × ((Int × (Int × Unit)) × Unit))) × Int × Int × Unit) ((Int × Unit) ⊕ (Int × Unit)))
  | (a, (k, (i, ()))) =>
    bif (decide (i < ((a.length : Nat) : Int))) then
   bif ((decide ((0 : Int) ≤ i)) && (decide (i < ((a.length : Nat) : Int)))) then
    bif ((a.getD i.toNat (((0 : Int), (0 : Int), ()), ((0 : Int), (0 : Int), ()), ())).1.1 != k) then
     some (.stop (.inl ((-1 : Int), ())))
    else bif ((decide ((0 : Int) ≤ i)) && (decide (i < ((a.length : Nat) : Int)))) then
      bif ((a.getD i.toNat (((0 : Int), (0 : Int), ()), ((0 : Int), (0 : Int), ()), ())).1.2.1 != (w64 (k + (1 : Int)))) then
       some (.stop (.inl ((-1 : Int), ())))
      else bif ((decide ((0 : Int) ≤ i)) && (decide (i < ((a.length : Nat) : Int)))) then
        bif ((a.getD i.toNat (((0 : Int), (0 : Int), ()), ((0 : Int), (0 : Int), ()), ())).2.1.1 != (w64 ((w64 (k + (1 : Int))) + (1 : Int)))) then
         some (.stop (.inl ((-1 : Int), ())))
        else bif ((decide ((0 : Int) ≤ i)) && (decide (i < ((a.length : Nat) : Int)))) then
          bif ((a.getD i.toNat (((0 : Int), (0 : Int), ()), ((0 : Int), (0 : Int), ()), ())).2.1.2.1 != (w64 ((w64 ((w64 (k + (1 : Int))) + (1 : Int))) + (1 : Int)))) then
           some (.stop (.inl ((-1 : Int), ())))
          else some (.next (a, ((w64 ((w64 ((w64 ((w64 (k + (1 : Int))) + (1 : Int))) + (1 : Int))) + (1 : Int))), ((w64 (i + (1 : Int))), ()))))
         else none
       else none
     else none
   else none
  else some (.stop (.inr ((k, ()))))
noncomputable def laws_heldLeafS (a : List ((Int × (Int × Unit)) × ((Int × (Int × Unit)) × Unit))) (k : Int) : Option (Int) :=
  (loop laws_heldLeafS_l0 (a, k, (0 : Int), ())).bind fun r0 =>
  alt r0 (fun r1 =>
   some (r1.1))
   (fun r2 =>
   some (r2.1))
noncomputable def laws_FnExactLaminationOf (aM : ((Int × (Int × Unit)) × ((Int × (Int × Unit)) × Unit))) (aK : Int) : Option (Bool) :=
  (laws_toLeaf aM).bind fun r0 =>
  (spec_LaminationOf_v2 r0 aK).bind fun r1 =>
  (laws_toLeaf aM).bind fun r2 =>
  (impl_LaminationOf r2 aK).bind fun r3 =>
  (laws_eqLeafS r3.1 r1.1).bind fun r4 =>
  bif (!r4) then
   some (false)
  else bif (r3.2 != r1.2) then
    some (false)
   else (laws_markLeafS r3.1 (1 : Int)).bind fun r5 =>
    (laws_heldLeafS r5.2 (1 : Int)).bind fun r6 =>
    bif (decide (r6 < (0 : Int))) then
     some (false)
    else bif (r6 != r5.1) then
      some (false)
     else (laws_toLeaf aM).bind fun r7 =>
      (impl_LaminationOf r7 aK).bind fun r8 =>
      (laws_eqLeafS r8.1 r1.1).bind fun r9 =>
      bif (!r9) then
       some (false)
      else bif (r8.2 != r1.2) then
        some (false)
       else (laws_heldLeafS r5.2 (1 : Int)).bind fun r10 =>
        bif (decide (r10 < (0 : Int))) then
         some (false)
        else bif (r10 != r5.1) then
          some (false)
         else some (true)
end Go.K.Pure

/- Plain laws of laminations, part A: loops, words, angles (turned from the parts of EndClasses). -/
set_option linter.unusedVariables false
set_option linter.unusedSimpArgs false
namespace Go.K.Pure

theorem w64_id {n : Int} (h1 : -9223372036854775808 ≤ n) (h2 : n < 9223372036854775808) : w64 n = n := by
  simp [w64, IntKind.wrap, IntKind.bits, IntKind.signed]; omega
/-- A loop with an invariant and a measure. -/
theorem loop_inv {α β : Type} {step : α → Option (Ctl α β)} (I : α → Prop) (μ : α → Nat) (Q : β → Prop)
    (h : ∀ a, I a → (∃ b, step a = some (.stop b) ∧ Q b) ∨ ∃ a', step a = some (.next a') ∧ I a' ∧ μ a' < μ a) : ∀ a, I a → ∃ b, loop step a = some b ∧ Q b := by
  have key : ∀ n a, μ a ≤ n → I a → ∃ b, loop step a = some b ∧ Q b := by
    intro n
    induction n with
    | zero =>
      intro a hm ha
      rcases h a ha with ⟨b, h1, h2⟩ | ⟨a', _, _, h3⟩
      · exact ⟨b, by rw [loop_eq, h1], h2⟩
      · omega
    | succ n ih =>
      intro a hm ha
      rcases h a ha with ⟨b, h1, h2⟩ | ⟨a', h1, h2, h3⟩
      · exact ⟨b, by rw [loop_eq, h1], h2⟩
      · obtain ⟨b, h4, h5⟩ := ih a' (by omega) h2
        exact ⟨b, by rw [loop_eq, h1]; exact h4, h5⟩
  exact fun a ha => key (μ a) a (Nat.le_refl _) ha
/-- A counted loop: from state `s i` to `s (i + 1)` while `i < n`. -/
theorem loop_count {α β : Type} {step : α → Option (Ctl α β)} (s : Nat → α) (n : Nat) (b : β) (h1 : ∀ i, i < n → step (s i) = some (.next (s (i + 1)))) (h2 : step (s n) = some (.stop b)) : ∀ i, i ≤ n → loop step (s i) = some b := by
  have key : ∀ k i, n - i = k → i ≤ n → loop step (s i) = some b := by
    intro k
    induction k with
    | zero =>
      intro i hk hi
      have : i = n := by omega
      subst this
      rw [loop_eq, h2]
    | succ k ih =>
      intro i hk hi
      rw [loop_eq, h1 i (by omega)]
      exact ih (i + 1) (by omega) (by omega)
  exact fun i hi => key _ i rfl hi
/-- A counted loop that may stop early: it stops at the first `i` at which `stop i` gives something. -/
theorem loop_find {α β : Type} {step : α → Option (Ctl α β)} (s : Nat → α) (n : Nat) (b : β) (stop : Nat → Option β) (h1 : ∀ i, i < n → step (s i) = match stop i with | some c => some (.stop c) | none => some (.next (s (i + 1)))) (h2 : step (s n) = some (.stop b)) :
    ∀ i, i ≤ n → (loop step (s i) = some b ∧ ∀ j, i ≤ j → j < n → stop j = none) ∨ ∃ j c, i ≤ j ∧ j < n ∧ stop j = some c ∧ loop step (s i) = some c ∧ ∀ k, i ≤ k → k < j → stop k = none := by
  have key : ∀ k i, n - i = k → i ≤ n → (loop step (s i) = some b ∧ ∀ j, i ≤ j → j < n → stop j = none) ∨ ∃ j c, i ≤ j ∧ j < n ∧ stop j = some c ∧ loop step (s i) = some c ∧ ∀ k, i ≤ k → k < j → stop k = none := by
    intro k
    induction k with
    | zero =>
      intro i hk hi
      have : i = n := by omega
      subst this
      exact .inl ⟨by rw [loop_eq, h2], fun j h3 h4 => by omega⟩
    | succ k ih =>
      intro i hk hi
      have h3 := h1 i (by omega)
      cases hs : stop i with
      | some c =>
        rw [hs] at h3
        exact .inr ⟨i, c, Nat.le_refl _, by omega, hs, by rw [loop_eq, h3], fun k h4 h5 => by omega⟩
      | none =>
        rw [hs] at h3
        rcases ih (i + 1) (by omega) (by omega) with ⟨h4, h5⟩ | ⟨j, c, h4, h5, h6, h7, h8⟩
        · refine .inl ⟨by rw [loop_eq, h3]; exact h4, fun j h6 h7 => ?_⟩
          by_cases hj : j = i
          · subst hj; exact hs
          · exact h5 j (by omega) h7
        · refine .inr ⟨j, c, by omega, h5, h6, by rw [loop_eq, h3]; exact h7, fun k h9 h10 => ?_⟩
          by_cases hj : k = i
          · subst hj; exact hs
          · exact h8 k (by omega) h10
  exact fun i hi => key _ i rfl hi
theorem getD_at {α : Type} {l : List α} {i : Nat} {d : α} (h : i < l.length) : l.getD i d = l[i] := by
  simp [List.getD_eq_getElem?_getD, h]

abbrev Ang := Int × Int × Unit
abbrev Lf := Ang × Ang × Unit
abbrev InI (n : Int) : Prop := -9223372036854775808 ≤ n ∧ n < 9223372036854775808
theorem bif_pos {α : Type} {p : Prop} [Decidable p] (h : p) {x y : α} : (bif decide p then x else y) = x := by simp [h]
theorem bif_neg {α : Type} {p : Prop} [Decidable p] (h : ¬ p) {x y : α} : (bif decide p then x else y) = y := by simp [h]

abbrev InA (a : Ang) : Prop := InI a.1 ∧ InI a.2.1
abbrev isA (a : Ang) : Prop := 1 ≤ a.2.1 ∧ a.2.1 ≤ 8191 ∧ 0 ≤ a.1 ∧ a.1 < a.2.1 ∧ Int.gcd a.1 a.2.1 = 1
theorem gcd_step {x y : Int} (hx : 0 ≤ x) (hy : 0 < y) : Int.gcd y (x.tmod y) = Int.gcd x y := by
  rw [Int.tmod_eq_emod_of_nonneg hx]
  obtain ⟨x, rfl⟩ := Int.eq_ofNat_of_zero_le hx
  obtain ⟨y, rfl⟩ := Int.eq_ofNat_of_zero_le (Int.le_of_lt hy)
  show Nat.gcd y (x % y) = Nat.gcd x y
  rw [Nat.gcd_comm y, ← Nat.gcd_rec, Nat.gcd_comm]
theorem spec_div {a b : Int} (ha : 0 ≤ a) (hb : 0 ≤ b) : spec_l01Divisor a b = some (Int.gcd a b : Int) := by
  unfold spec_l01Divisor
  obtain ⟨r, h1, h2⟩ := loop_inv (step := spec_l01Divisor_l0) (fun s => 0 ≤ s.1 ∧ 0 ≤ s.2.1 ∧ Int.gcd s.1 s.2.1 = Int.gcd a b) (fun s => s.2.1.toNat) (fun r => r.1 = (Int.gcd a b : Int)) (by
    rintro ⟨x, y, ⟨⟩⟩ ⟨hx, hy, hg⟩
    simp only at hx hy hg
    by_cases h : y > 0
    · right
      refine ⟨(y, x.tmod y, ()), ?_, ⟨hy, Int.tmod_nonneg _ hx, ?_⟩, ?_⟩
      · have : ¬ y = 0 := by omega
        have e : (y == 0) = false := by simpa using this
        simp [spec_l01Divisor_l0, h, e]
      · rw [gcd_step hx h]; exact hg
      · have h1 := Int.tmod_lt_of_pos x h
        have h2 := Int.tmod_nonneg y hx
        simp only
        omega
    · left
      have : y = 0 := by omega
      subst this
      refine ⟨(x, ()), by simp [spec_l01Divisor_l0], ?_⟩
      simp only
      rw [← hg, Int.gcd_zero_right]
      omega) (a, b, ()) ⟨ha, hb, rfl⟩
  rw [h1]
  simp only [Option.bind_some]
  rw [h2]
theorem impl_div {a b : Int} (ha : 0 ≤ a) (hb : 0 ≤ b) : impl_divisor a b = some (Int.gcd a b : Int) := by
  unfold impl_divisor
  obtain ⟨r, h1, h2⟩ := loop_inv (step := impl_divisor_l0) (fun s => 0 ≤ s.1 ∧ 0 ≤ s.2.1 ∧ Int.gcd s.1 s.2.1 = Int.gcd a b) (fun s => s.2.1.toNat) (fun r => r.1 = (Int.gcd a b : Int)) (by
    rintro ⟨x, y, ⟨⟩⟩ ⟨hx, hy, hg⟩
    simp only at hx hy hg
    by_cases h : y > 0
    · right
      refine ⟨(y, x.tmod y, ()), ?_, ⟨hy, Int.tmod_nonneg _ hx, ?_⟩, ?_⟩
      · have : ¬ y = 0 := by omega
        have e : (y == 0) = false := by simpa using this
        have e2 : (y != 0) = true := by simpa using this
        simp [impl_divisor_l0, e, e2]
      · rw [gcd_step hx h]; exact hg
      · have h1 := Int.tmod_lt_of_pos x h
        have h2 := Int.tmod_nonneg y hx
        simp only
        omega
    · left
      have : y = 0 := by omega
      subst this
      refine ⟨(x, ()), by simp [impl_divisor_l0], ?_⟩
      simp only
      rw [← hg, Int.gcd_zero_right]
      omega) (a, b, ()) ⟨ha, hb, rfl⟩
  rw [h1]
  simp only [Option.bind_some]
  rw [h2]
theorem spec_in {n l h : Int} : spec_l01In n l h = some (decide (l ≤ n ∧ n ≤ h)) := by
  unfold spec_l01In
  by_cases h1 : n ≥ l
  · have : l ≤ n := h1
    simp [h1, this]
  · have : ¬ l ≤ n := h1
    simp [h1, this]
theorem impl_in {n l h : Int} : impl_within n l h = some (decide (l ≤ n ∧ n ≤ h)) := by
  unfold impl_within
  by_cases h1 : l ≤ n <;> simp [h1]
theorem spec_isA {a : Ang} (ha : InA a) : spec_l01Is a = some (decide (isA a)) := by
  obtain ⟨⟨a1, a2⟩, a3, a4⟩ := ha
  unfold spec_l01Is isA
  rw [spec_in]
  by_cases h1 : 1 ≤ a.2.1 ∧ a.2.1 ≤ 8191
  · rw [w64_id (by omega) (by omega)]
    simp only [Option.bind_some, h1, and_self, decide_true, cond_true, spec_in, true_and]
    by_cases h2 : 0 ≤ a.1 ∧ a.1 ≤ a.2.1 - 1
    · simp only [h2, and_self, decide_true, cond_true]
      rw [spec_div (by omega) (by omega)]
      have h3 : a.1 < a.2.1 := by omega
      simp only [Option.bind_some, h3, true_and]
      congr 1
      by_cases hg : Int.gcd a.1 a.2.1 = 1
      · simp [hg]
      · have : ¬ ((Int.gcd a.1 a.2.1 : Nat) : Int) = 1 := by omega
        simp [hg, this]
    · simp only [h2, decide_false, cond_false]
      congr 1
      symm
      exact decide_eq_false (by omega)
  · simp only [Option.bind_some, h1, decide_false, cond_false]
    congr 1
    symm
    exact decide_eq_false (by omega)
theorem impl_isA {a : Ang} (ha : InA a) : impl_IsAngle a = some (decide (isA a)) := by
  obtain ⟨⟨a1, a2⟩, a3, a4⟩ := ha
  unfold impl_IsAngle isA
  rw [impl_in]
  by_cases h1 : 1 ≤ a.2.1 ∧ a.2.1 ≤ 8191
  · rw [w64_id (by omega) (by omega)]
    simp only [Option.bind_some, h1, and_self, decide_true, cond_true, impl_in, true_and]
    by_cases h2 : 0 ≤ a.1 ∧ a.1 ≤ a.2.1 - 1
    · simp only [h2, and_self, decide_true, cond_true]
      rw [impl_div (by omega) (by omega), Int.gcd_comm]
      have h3 : a.1 < a.2.1 := by omega
      simp only [Option.bind_some, h3, true_and]
      congr 1
      by_cases hg : Int.gcd a.1 a.2.1 = 1
      · simp [hg]
      · have : ¬ ((Int.gcd a.1 a.2.1 : Nat) : Int) = 1 := by omega
        simp [hg, this]
    · simp only [h2, decide_false, cond_false]
      congr 1
      symm
      exact decide_eq_false (by omega)
  · simp only [Option.bind_some, h1, decide_false, cond_false]
    congr 1
    symm
    exact decide_eq_false (by omega)

theorem common : ∀ n : Nat, ∃ K : Int, 0 < K ∧ ∀ d : Int, 1 ≤ d → d ≤ n → d ∣ K
  | 0 => ⟨1, by omega, fun d h1 h2 => by omega⟩
  | n + 1 => by
    obtain ⟨K, h1, h2⟩ := common n
    refine ⟨K * (n + 1), Int.mul_pos h1 (by omega), fun d h3 h4 => ?_⟩
    by_cases h : d ≤ n
    · exact Int.dvd_trans (h2 d h3 h) ⟨(n : Int) + 1, rfl⟩
    · have : d = (n : Int) + 1 := by omega
      subst this
      exact ⟨K, by rw [Int.mul_comm]⟩
/-- A common multiple of all denominators. -/
noncomputable def KK : Int := Classical.choose (common 8191)
theorem KK_pos : 0 < KK := (Classical.choose_spec (common 8191)).1
theorem KK_dvd {d : Int} (h1 : 1 ≤ d) (h2 : d ≤ 8191) : d ∣ KK := (Classical.choose_spec (common 8191)).2 d h1 h2
/-- An angle's value, over the common denominator. -/
noncomputable def val (a : Ang) : Int := a.1 * (KK / a.2.1)
theorem KK_div {a : Ang} (h : isA a) : a.2.1 * (KK / a.2.1) = KK := Int.mul_ediv_cancel' (KK_dvd h.1 h.2.1)
theorem kd_pos {a : Ang} (h : isA a) : 0 < KK / a.2.1 := by
  have h1 := KK_div h
  have h2 := KK_pos
  have h3 := h.1
  by_cases h4 : 0 < KK / a.2.1
  · exact h4
  · exfalso
    have : a.2.1 * (KK / a.2.1) ≤ 0 := Int.mul_nonpos_of_nonneg_of_nonpos (by omega) (by omega)
    omega
theorem val_nonneg {a : Ang} (h : isA a) : 0 ≤ val a := Int.mul_nonneg h.2.2.1 (Int.le_of_lt (kd_pos h))
theorem val_lt_KK {a : Ang} (h : isA a) : val a < KK := by
  have h1 := Int.mul_lt_mul_of_pos_right h.2.2.2.1 (kd_pos h)
  rw [KK_div h] at h1
  exact h1
/-- The difference of two values. -/
theorem val_cross {a b : Ang} (ha : isA a) (hb : isA b) : (val b - val a) * (a.2.1 * b.2.1) = (b.1 * a.2.1 - a.1 * b.2.1) * KK := by
  have h1 := KK_div ha
  have h2 := KK_div hb
  unfold val
  generalize KK / a.2.1 = x at *
  generalize KK / b.2.1 = y at *
  have e1 : b.1 * y * (a.2.1 * b.2.1) = b.1 * a.2.1 * KK := by rw [← h2]; ac_rfl
  have e2 : a.1 * x * (a.2.1 * b.2.1) = a.1 * b.2.1 * KK := by rw [← h1]; ac_rfl
  rw [Int.sub_mul, Int.sub_mul, e1, e2]
def lt (a b : Ang) : Prop := a.1 * b.2.1 < b.1 * a.2.1
instance (a b : Ang) : Decidable (lt a b) := by unfold lt; infer_instance
theorem den_pos {a b : Ang} (ha : isA a) (hb : isA b) : 0 < a.2.1 * b.2.1 := Int.mul_pos (by have := ha.1; omega) (by have := hb.1; omega)
theorem lt_val {a b : Ang} (ha : isA a) (hb : isA b) : lt a b ↔ val a < val b := by
  have h1 := val_cross ha hb
  have h2 := den_pos ha hb
  have h3 := KK_pos
  unfold lt
  constructor
  · intro h
    have : 0 < (b.1 * a.2.1 - a.1 * b.2.1) * KK := Int.mul_pos (by omega) h3
    rw [← h1] at this
    have := Int.pos_of_mul_pos_left this h2
    omega
  · intro h
    have : 0 < (val b - val a) * (a.2.1 * b.2.1) := Int.mul_pos (by omega) h2
    rw [h1] at this
    have := Int.pos_of_mul_pos_left this h3
    omega
theorem dvd_of_gcd {a b c : Int} (h : a ∣ b * c) (g : Int.gcd a b = 1) : a ∣ c := by
  rw [← Int.natAbs_dvd_natAbs, Int.natAbs_mul] at h
  rw [← Int.natAbs_dvd_natAbs]
  exact Nat.Coprime.dvd_of_dvd_mul_left (show Nat.Coprime a.natAbs b.natAbs from g) h
theorem val_inj {a b : Ang} (ha : isA a) (hb : isA b) (h : val a = val b) : a = b := by
  have h1 := val_cross ha hb
  have h3 := KK_pos
  rw [h, Int.sub_self, Int.zero_mul] at h1
  have h4 : a.1 * b.2.1 = b.1 * a.2.1 := by
    rcases Int.mul_eq_zero.1 h1.symm with h5 | h5 <;> omega
  obtain ⟨a1, a2, ⟨⟩⟩ := a
  obtain ⟨b1, b2, ⟨⟩⟩ := b
  simp only [isA] at ha hb h4 ⊢
  obtain ⟨x1, x2, x3, x4, x5⟩ := ha
  obtain ⟨y1, y2, y3, y4, y5⟩ := hb
  have d1 : a2 ∣ b2 := by
    have : a2 ∣ a1 * b2 := ⟨b1, by rw [h4, Int.mul_comm]⟩
    exact dvd_of_gcd this (by rw [Int.gcd_comm]; exact x5)
  have d2 : b2 ∣ a2 := by
    have : b2 ∣ b1 * a2 := ⟨a1, by rw [← h4, Int.mul_comm]⟩
    exact dvd_of_gcd this (by rw [Int.gcd_comm]; exact y5)
  have e : a2 = b2 := Int.dvd_antisymm (by omega) (by omega) d1 d2
  subst e
  have : a1 = b1 := Int.eq_of_mul_eq_mul_right (by omega) h4
  rw [this]
theorem mul_bnd {x y : Int} (h1 : 0 ≤ x) (h2 : x ≤ 8191) (h3 : 0 ≤ y) (h4 : y ≤ 8191) : 0 ≤ x * y ∧ x * y ≤ 67092481 := by
  refine ⟨Int.mul_nonneg h1 h3, ?_⟩
  have := Int.mul_le_mul h2 h4 h3 (by omega)
  omega
theorem cross_bnd {a b : Ang} (ha : isA a) (hb : isA b) : 0 ≤ a.1 * b.2.1 ∧ a.1 * b.2.1 ≤ 67092481 := by
  obtain ⟨x1, x2, x3, x4, x5⟩ := ha
  obtain ⟨y1, y2, y3, y4, y5⟩ := hb
  exact mul_bnd (by omega) (by omega) (by omega) (by omega)
theorem spec_less {a b : Ang} (ha : isA a) (hb : isA b) : spec_l01Less a b = some (decide (lt a b)) := by
  unfold spec_l01Less lt
  have h1 := cross_bnd ha hb
  have h2 := cross_bnd hb ha
  rw [w64_id (by omega) (by omega), w64_id (by omega) (by omega)]
theorem impl_cmp {x y : Int} : cmp_Compare_int64 x y = some (if x < y then -1 else if y < x then 1 else 0) := by
  unfold cmp_Compare_int64 cmp_isNaN_int64
  simp only [Option.bind_some, bne_self_eq_false, cond_false]
  by_cases h1 : x < y
  · simp [h1]
  · by_cases h2 : y < x
    · have : x > y := h2
      simp [h1, this]
    · have : ¬ x > y := h2
      simp [h1, this]
def cmpA (a b : Ang) : Int := if lt a b then -1 else if lt b a then 1 else 0
theorem impl_compare {a b : Ang} (ha : isA a) (hb : isA b) : impl_Angle_compare a b = some (cmpA a b) := by
  unfold impl_Angle_compare cmpA lt
  have h1 := cross_bnd ha hb
  have h2 := cross_bnd hb ha
  rw [w64_id (by omega) (by omega), w64_id (by omega) (by omega), impl_cmp]
  rfl

theorem mul_lt_iff {x y c : Int} (hc : 0 < c) : x * c < y * c ↔ x < y := ⟨fun h => Int.lt_of_mul_lt_mul_right h (Int.le_of_lt hc), fun h => Int.mul_lt_mul_of_pos_right h hc⟩
theorem angle_ok {num den : Int} (h1 : 0 < den) (h2 : den ≤ 67092481) (h3 : -67092481 ≤ num) (h4 : num ≤ 67092481) :
    ∃ g n d : Int, 0 < g ∧ num % den = g * n ∧ den = g * d ∧ 0 ≤ n ∧ n < d ∧ d ≤ den ∧ impl_angle num den = some (n, d, ()) := by
  have e0 : (den == 0) = false := by simpa using (by omega : ¬ den = 0)
  have m1 : -den < num.tmod den := Int.lt_tmod_of_pos num h1
  have m2 : num.tmod den < den := Int.tmod_lt_of_pos num h1
  have e1 : (num.tmod den + den).tmod den = num % den := by
    rw [Int.tmod_eq_emod_of_nonneg (by omega), Int.add_emod_right, Int.emod_eq_emod_iff_emod_sub_eq_zero]
    have : num.tmod den - num = den * (-(num.tdiv den)) := by
      have := Int.mul_tdiv_add_tmod num den
      rw [Int.mul_neg]; omega
    rw [this]
    exact Int.mul_emod_right _ _
  have n1 := Int.emod_nonneg num (show den ≠ 0 by omega)
  have n2 := Int.emod_lt_of_pos num h1
  unfold impl_angle
  simp only [e0, Bool.not_false, cond_true]
  rw [w64_id (n := num.tmod den + den) (by omega) (by omega), e1]
  rw [impl_div (by omega) (by omega)]
  simp only [Option.bind_some]
  have g0 : 0 < Int.gcd den (num % den) := Int.gcd_pos_of_ne_zero_left _ (by omega)
  generalize hg : Int.gcd den (num % den) = g at g0
  have e2 : (((g : Nat) : Int) == 0) = false := by simpa using (by omega : ¬ (g : Int) = 0)
  simp only [e2, Bool.not_false, cond_true]
  obtain ⟨d, hd⟩ : (g : Int) ∣ den := by rw [← hg]; exact Int.gcd_dvd_left _ _
  obtain ⟨n, hn⟩ : (g : Int) ∣ num % den := by rw [← hg]; exact Int.gcd_dvd_right _ _
  have t1 : (num % den).tdiv (g : Int) = n := by rw [hn]; exact Int.mul_tdiv_cancel_left _ (by omega)
  have t2 : den.tdiv (g : Int) = d := by
    conv => lhs; rw [hd]
    exact Int.mul_tdiv_cancel_left _ (by omega)
  have hgp : (0 : Int) < g := by omega
  have d0 : 0 < d := by
    rw [hd] at h1
    exact Int.pos_of_mul_pos_right h1 hgp
  have n0 : 0 ≤ n := by
    rw [← t1]; exact Int.tdiv_nonneg n1 (by omega)
  have nd : n < d := by
    rw [hn] at n2
    have n2' : n * g < d * g := by rw [Int.mul_comm n, Int.mul_comm d, ← hd]; exact n2
    exact Int.lt_of_mul_lt_mul_right n2' (by omega)
  have dd : d ≤ den := by
    have : d * 1 ≤ d * g := Int.mul_le_mul_of_nonneg_left (by omega) (by omega)
    rw [hd, Int.mul_comm (g : Int)]; omega
  refine ⟨g, n, d, hgp, hn, hd, n0, nd, dd, ?_⟩
  rw [t1, t2, w64_id (by omega) (by omega), w64_id (by omega) (by omega)]
/-- How far it is from one to the other, ahead. -/
noncomputable def dv (x y : Ang) : Int := if val y ≤ val x then val x - val y else val x - val y + KK
theorem minus_ok {a b : Ang} (ha : isA a) (hb : isA b) : ∃ n d : Int, impl_Angle_minus b a = some (n, d, ()) ∧ 0 ≤ n ∧ n < d ∧ d ≤ 67092481 ∧ n * KK = dv b a * d := by
  have c1 := cross_bnd hb ha
  have c2 := cross_bnd ha hb
  have c3 := mul_bnd (show 0 ≤ b.2.1 by have := hb.1; omega) hb.2.1 (show 0 ≤ a.2.1 by have := ha.1; omega) ha.2.1
  have c4 := den_pos hb ha
  have hv := val_cross ha hb
  have v1 := val_nonneg ha
  have v2 := val_lt_KK ha
  have v3 := val_nonneg hb
  have v4 := val_lt_KK hb
  have hK := KK_pos
  have hlt := lt_val hb ha
  unfold impl_Angle_minus
  rw [w64_id (n := b.1 * a.2.1) (by omega) (by omega), w64_id (n := a.1 * b.2.1) (by omega) (by omega), w64_id (n := b.1 * a.2.1 - a.1 * b.2.1) (by omega) (by omega), w64_id (n := b.2.1 * a.2.1) (by omega) (by omega)]
  obtain ⟨g, n, d, h1, h2, h3, h4, h5, h6, h7⟩ := angle_ok (num := b.1 * a.2.1 - a.1 * b.2.1) (den := b.2.1 * a.2.1) c4 c3.2 (by omega) (by omega)
  refine ⟨n, d, by rw [h7]; rfl, h4, h5, by omega, ?_⟩
  -- the fractional part, over the common denominator
  have key : (b.1 * a.2.1 - a.1 * b.2.1) % (b.2.1 * a.2.1) * KK = dv b a * (b.2.1 * a.2.1) := by
    have hn1 := hb.2.2.2.1
    have hn2 := ha.2.2.2.1
    have p1 : b.1 * a.2.1 < b.2.1 * a.2.1 := Int.mul_lt_mul_of_pos_right hn1 (by have := ha.1; omega)
    have p2 : a.1 * b.2.1 < a.2.1 * b.2.1 := Int.mul_lt_mul_of_pos_right hn2 (by have := hb.1; omega)
    rw [Int.mul_comm a.2.1 b.2.1] at hv p2
    unfold lt at hlt
    unfold dv
    generalize b.2.1 * a.2.1 = D at *
    by_cases hc : val a ≤ val b
    · rw [if_pos hc, hv]
      have : ¬ (b.1 * a.2.1 < a.1 * b.2.1) := fun h => by have := hlt.1 h; omega
      rw [Int.emod_eq_of_lt (by omega) (by omega)]
    · rw [if_neg hc, Int.add_mul, hv]
      have : b.1 * a.2.1 < a.1 * b.2.1 := hlt.2 (by omega)
      rw [← Int.add_emod_right, Int.emod_eq_of_lt (by omega) (by omega), Int.add_mul, Int.mul_comm KK]
  rw [h2, h3] at key
  have key' : (n * KK) * g = (dv b a * d) * g := by
    calc (n * KK) * g = g * n * KK := by ac_rfl
      _ = dv b a * (g * d) := key
      _ = (dv b a * d) * g := by ac_rfl
  exact Int.eq_of_mul_eq_mul_right (by omega) key'
theorem impl_order_ok {a b c : Ang} (ha : isA a) (hb : isA b) (hc : isA c) : impl_order a b c = some (if a = b ∨ b = c ∨ a = c then 0 else if dv b a < dv c a then 1 else -1) := by
  have beqA : ∀ x y : Ang, ((x.1 == y.1) && ((x.2.1 == y.2.1) && true)) = decide (x = y) := by
    rintro ⟨x1, x2, ⟨⟩⟩ ⟨y1, y2, ⟨⟩⟩
    by_cases h1 : x1 = y1 <;> by_cases h2 : x2 = y2 <;> simp [h1, h2]
  unfold impl_order
  rw [beqA, beqA, beqA]
  by_cases h1 : a = b
  · simp [h1]
  · by_cases h2 : b = c
    · simp [h1, h2]
    · by_cases h3 : a = c
      · simp [h1, h2, h3]
      · simp only [h1, h2, h3, decide_false, cond_false, or_self, if_false]
        obtain ⟨n0, d0, e0, p1, p2, p3, p4⟩ := minus_ok ha hb
        obtain ⟨n1, d1, e1, q1, q2, q3, q4⟩ := minus_ok ha hc
        rw [e0, e1]
        simp only [Option.bind_some]
        have hK := KK_pos
        have b1 : 0 ≤ n0 * d1 ∧ n0 * d1 ≤ 67092481 * 67092481 := ⟨Int.mul_nonneg p1 (by omega), by
          have := Int.mul_le_mul (show n0 ≤ 67092481 by omega) q3 (by omega) (by omega); omega⟩
        have b2 : 0 ≤ n1 * d0 ∧ n1 * d0 ≤ 67092481 * 67092481 := ⟨Int.mul_nonneg q1 (by omega), by
          have := Int.mul_le_mul (show n1 ≤ 67092481 by omega) p3 (by omega) (by omega); omega⟩
        unfold impl_Angle_compare
        simp only
        rw [w64_id (n := n0 * d1) (by omega) (by omega), w64_id (n := n1 * d0) (by omega) (by omega), impl_cmp]
        have hiff : n0 * d1 < n1 * d0 ↔ dv b a < dv c a := by
          have k1 : n0 * d1 * KK = dv b a * (d0 * d1) := by
            calc n0 * d1 * KK = n0 * KK * d1 := by ac_rfl
              _ = dv b a * d0 * d1 := by rw [p4]
              _ = _ := by ac_rfl
          have k2 : n1 * d0 * KK = dv c a * (d0 * d1) := by
            calc n1 * d0 * KK = n1 * KK * d0 := by ac_rfl
              _ = dv c a * d1 * d0 := by rw [q4]
              _ = _ := by ac_rfl
          rw [← mul_lt_iff hK, k1, k2, mul_lt_iff (Int.mul_pos (by omega) (by omega))]
        simp only [Option.bind_some]
        by_cases h : n0 * d1 < n1 * d0
        · rw [if_pos h, if_pos (hiff.1 h)]; rfl
        · rw [if_neg h, if_neg (fun h' => h (hiff.2 h'))]
          split <;> rfl
theorem beqA (x y : Ang) : ((x.1 == y.1) && ((x.2.1 == y.2.1) && true)) = decide (x = y) := by
  obtain ⟨x1, x2, ⟨⟩⟩ := x
  obtain ⟨y1, y2, ⟨⟩⟩ := y
  by_cases h1 : x1 = y1 <;> by_cases h2 : x2 = y2 <;> simp [h1, h2]
theorem spec_within {x a b : Ang} (hx : isA x) (ha : isA a) (hb : isA b) (h : lt a b) : spec_l01Within x a b = some (decide (lt a x ∧ lt x b)) := by
  unfold spec_l01Within
  rw [spec_less ha hb, decide_eq_true h]
  simp only [Option.bind_some, cond_true]
  rw [spec_less ha hx]
  simp only [Option.bind_some]
  by_cases h1 : lt a x
  · rw [decide_eq_true h1, cond_true, spec_less hx hb]
    simp [h1]
  · rw [decide_eq_false h1, cond_false]
    simp [h1]
theorem inb {n m : Nat} (h : n < m) : (decide ((0 : Int) ≤ (n : Int)) && decide ((n : Int) < (m : Int))) = true := by
  simp only [Bool.and_eq_true, decide_eq_true_eq]; omega
theorem nn {n : Nat} : decide ((0 : Int) ≤ (n : Int)) = true := by simp only [decide_eq_true_eq]; omega
theorem ltb {n m : Nat} (h : n < m) : decide ((n : Int) < (m : Int)) = true := by simp only [decide_eq_true_eq]; omega
theorem nltb {n m : Nat} (h : ¬ n < m) : decide ((n : Int) < (m : Int)) = false := by simp only [decide_eq_false_iff_not]; omega
theorem w64_succ {n : Nat} (h : n < 4611686018427387904) : w64 ((n : Int) + 1) = ((n + 1 : Nat) : Int) := by rw [w64_id (by omega) (by omega)]; omega
theorem w64_pred {n : Nat} (h : n < 4611686018427387904) (h0 : 0 < n) : w64 ((n : Int) - 1) = ((n - 1 : Nat) : Int) := by rw [w64_id (by omega) (by omega)]; omega

def tab {α : Type} (g : Nat → α) (N : Nat) : List α := (List.range N).map g
section
variable {α : Type} {g h : Nat → α} {N p : Nat} {d v : α}
theorem tab_len : (tab g N).length = N := by simp [tab]
theorem tab_at (hp : p < N) : (tab g N).getD p d = g p := by simp [tab, hp]
theorem tab_ext (hh : ∀ p, p < N → g p = h p) : tab g N = tab h N := List.map_congr_left fun p hp => hh p (List.mem_range.1 hp)
theorem tab_set (hp : p < N) : (tab g N).set p v = tab (fun q => if q = p then v else g q) N := by
  apply List.ext_getElem?
  intro i
  rw [List.getElem?_set]
  unfold tab
  by_cases hi : i < N
  · by_cases e : p = i
    · subst e; simp [hi]
    · have : ¬ i = p := fun h => e h.symm
      simp [hi, e, this]
  · have : ¬ p = i := by omega
    simp [hi, this]
theorem tab_self (l : List α) : tab (fun i => l.getD i d) l.length = l := by
  apply List.ext_getElem?
  intro i
  unfold tab
  by_cases hi : i < l.length
  · simp [hi]
  · simp [hi]
theorem tab_rep : List.replicate N v = tab (fun _ => v) N := by
  apply List.ext_getElem?
  intro i
  unfold tab
  by_cases hi : i < N <;> simp [hi]
end
theorem eq_angle (a : Ang) : laws_eqAngle a a = some true := by
  unfold laws_eqAngle; simp
open Classical
/-- One or the other. -/
noncomputable def sel {α : Type} (p : Prop) (x y : α) : α := @ite _ p (Classical.propDecidable p) x y
theorem sel_pos {α : Type} {p : Prop} (h : p) {x y : α} : sel p x y = x := if_pos h
theorem sel_neg {α : Type} {p : Prop} (h : ¬ p) {x y : α} : sel p x y = y := if_neg h
theorem sel_congr {α : Type} {p q : Prop} (h : p ↔ q) {x y : α} : sel p x y = sel q x y := by rw [propext h]
theorem decide_eq_sel (p : Prop) [Decidable p] : decide p = sel p true false := by
  by_cases h : p
  · rw [sel_pos h, decide_eq_true h]
  · rw [sel_neg h, decide_eq_false h]
/-- A loop that stops with one answer at the first place where something holds. -/
theorem loop_any {α β : Type} {step : α → Option (Ctl α β)} (s : Nat → α) (n : Nat) (b c : β) (P : Nat → Prop)
    (h1 : ∀ i, i < n → (∀ j, j < i → ¬ P j) → step (s i) = some (sel (P i) (.stop c) (.next (s (i + 1))))) (h2 : (∀ j, j < n → ¬ P j) → step (s n) = some (.stop b)) : loop step (s 0) = some (sel (∃ i, i < n ∧ P i) c b) := by
  have key : ∀ k i, n - i = k → i ≤ n → (∀ j, j < i → ¬ P j) → loop step (s i) = some (sel (∃ j, j < n ∧ P j) c b) := by
    intro k
    induction k with
    | zero =>
      intro i hk hi hj
      have : i = n := by omega
      subst this
      rw [loop_eq, h2 hj, sel_neg (fun ⟨j, h3, h4⟩ => hj j h3 h4)]
    | succ k ih =>
      intro i hk hi hj
      have h3 := h1 i (by omega) hj
      by_cases hp : P i
      · rw [sel_pos hp] at h3
        rw [loop_eq, h3, sel_pos ⟨i, by omega, hp⟩]
      · rw [sel_neg hp] at h3
        rw [loop_eq, h3]
        exact ih (i + 1) (by omega) (by omega) fun j hj' => by
          by_cases e : j = i
          · subst e; exact hp
          · exact hj j (by omega)
  exact key _ 0 rfl (Nat.zero_le _) fun j h => by omega
theorem loop_first {α β : Type} {step : α → Option (Ctl α β)} (s : Nat → α) (n : Nat) (b : β) (c : Nat → β) (P : Nat → Prop)
    (h1 : ∀ i, i < n → (∀ j, j < i → ¬ P j) → step (s i) = some (sel (P i) (.stop (c i)) (.next (s (i + 1))))) (h2 : (∀ j, j < n → ¬ P j) → step (s n) = some (.stop b)) :
    (∃ i, i < n ∧ P i ∧ loop step (s 0) = some (c i)) ∨ ((∀ j, j < n → ¬ P j) ∧ loop step (s 0) = some b) := by
  have key : ∀ k i, n - i = k → i ≤ n → (∀ j, j < i → ¬ P j) → (∃ i', i' < n ∧ P i' ∧ loop step (s i) = some (c i')) ∨ ((∀ j, j < n → ¬ P j) ∧ loop step (s i) = some b) := by
    intro k
    induction k with
    | zero =>
      intro i hk hi hj
      have : i = n := by omega
      subst this
      exact .inr ⟨hj, by rw [loop_eq, h2 hj]⟩
    | succ k ih =>
      intro i hk hi hj
      have h3 := h1 i (by omega) hj
      by_cases hp : P i
      · rw [sel_pos hp] at h3
        exact .inl ⟨i, by omega, hp, by rw [loop_eq, h3]⟩
      · rw [sel_neg hp] at h3
        rw [loop_eq, h3]
        exact ih (i + 1) (by omega) (by omega) fun j hj' => by
          by_cases e : j = i
          · subst e; exact hp
          · exact hj j (by omega)
  exact key _ 0 rfl (Nat.zero_le _) fun j h => by omega
/-- An angle out of natural numbers, in lowest terms. -/
def angN (n d : Nat) : Ang := (((n % d / Nat.gcd (n % d) d : Nat) : Int), ((d / Nat.gcd (n % d) d : Nat) : Int), ())
theorem isA_nat {a : Ang} (h : isA a) : ∃ n d : Nat, a = ((n : Int), (d : Int), ()) ∧ 1 ≤ d ∧ d ≤ 8191 ∧ n < d ∧ Nat.gcd n d = 1 := by
  obtain ⟨x, y, ⟨⟩⟩ := a
  obtain ⟨h1, h2, h3, h4, h5⟩ := h
  simp only at h1 h2 h3 h4 h5
  obtain ⟨n, rfl⟩ := Int.eq_ofNat_of_zero_le h3
  obtain ⟨d, rfl⟩ := Int.eq_ofNat_of_zero_le (show 0 ≤ y by omega)
  exact ⟨n, d, rfl, by omega, by omega, by omega, h5⟩
theorem isA_of {n d : Nat} (h1 : 1 ≤ d) (h2 : d ≤ 8191) (h3 : n < d) (h4 : Nat.gcd n d = 1) : isA ((n : Int), (d : Int), ()) := by
  refine ⟨?_, ?_, ?_, ?_, h4⟩ <;> simp only <;> omega
theorem w64_nat {n : Nat} (h : n < 9223372036854775808) : w64 (n : Int) = (n : Int) := w64_id (by omega) (by omega)
theorem e0_false {n : Nat} (h : 0 < n) : (((n : Nat) : Int) == 0) = false := by simp; omega
theorem tmod_nat (n d : Nat) : ((n : Int)).tmod (d : Int) = ((n % d : Nat) : Int) := by
  rw [Int.tmod_eq_emod_of_nonneg (by omega)]; rfl
theorem tdiv_nat (n d : Nat) : ((n : Int)).tdiv (d : Int) = ((n / d : Nat) : Int) := by
  rw [Int.tdiv_eq_ediv_of_nonneg (by omega)]; rfl
theorem add_mod_nat {n d : Nat} : ((n % d : Nat) : Int) + (d : Int) = ((n % d + d : Nat) : Int) := by omega
theorem impl_angN {n d : Nat} (hd : 0 < d) (hd2 : d ≤ 67092481) (hn : n ≤ 67092481) : impl_angle (n : Int) (d : Int) = some (angN n d) := by
  have m := Nat.mod_lt n hd
  unfold impl_angle
  simp only [e0_false hd, Bool.not_false, cond_true]
  rw [tmod_nat, add_mod_nat, w64_nat (by omega), tmod_nat, Nat.add_mod_right, Nat.mod_mod, impl_div (by omega) (by omega)]
  simp only [Option.bind_some]
  have hg : Int.gcd (d : Int) ((n % d : Nat) : Int) = Nat.gcd (n % d) d := Nat.gcd_comm _ _
  rw [hg]
  have g0 : 0 < Nat.gcd (n % d) d := Nat.gcd_pos_of_pos_right _ hd
  simp only [e0_false g0, Bool.not_false, cond_true]
  have q1 : n % d / Nat.gcd (n % d) d ≤ n % d := Nat.div_le_self _ _
  have q2 : d / Nat.gcd (n % d) d ≤ d := Nat.div_le_self _ _
  rw [tdiv_nat, tdiv_nat, w64_nat (Nat.lt_of_le_of_lt q1 (by omega)), w64_nat (Nat.lt_of_le_of_lt q2 (by omega))]
  rfl
theorem spec_angN {n d : Nat} (hd : 0 < d) (hd2 : d ≤ 67092481) (hn : n ≤ 67092481) : spec_l01Of (n : Int) (d : Int) = some (angN n d) := by
  have m := Nat.mod_lt n hd
  unfold spec_l01Of
  simp only [e0_false hd, Bool.not_false, cond_true]
  rw [tmod_nat, add_mod_nat, w64_nat (by omega), tmod_nat, Nat.add_mod_right, Nat.mod_mod, spec_div (by omega) (by omega)]
  simp only [Option.bind_some]
  have hg : Int.gcd ((n % d : Nat) : Int) (d : Int) = Nat.gcd (n % d) d := rfl
  rw [hg]
  have g0 : 0 < Nat.gcd (n % d) d := Nat.gcd_pos_of_pos_right _ hd
  simp only [e0_false g0, Bool.not_false, cond_true]
  have q1 : n % d / Nat.gcd (n % d) d ≤ n % d := Nat.div_le_self _ _
  have q2 : d / Nat.gcd (n % d) d ≤ d := Nat.div_le_self _ _
  rw [tdiv_nat, tdiv_nat, w64_nat (Nat.lt_of_le_of_lt q1 (by omega)), w64_nat (Nat.lt_of_le_of_lt q2 (by omega))]
  rfl
def dbl (a : Ang) : Ang := angN (2 * a.1.toNat) a.2.1.toNat
theorem dbl_nat {n d : Nat} : dbl ((n : Int), (d : Int), ()) = angN (2 * n) d := rfl
theorem impl_dbl {a : Ang} (h : isA a) : impl_Angle_double a = some (dbl a) := by
  obtain ⟨n, d, rfl, h1, h2, h3, h4⟩ := isA_nat h
  unfold impl_Angle_double
  rw [w64_id (n := 2 * (n : Int)) (by omega) (by omega), show 2 * (n : Int) = ((2 * n : Nat) : Int) by omega]
  show (impl_angle _ (d : Int)).bind _ = _
  rw [impl_angN (by omega) (by omega) (by omega)]
  rfl
theorem spec_dbl {a : Ang} (h : isA a) : spec_l01Double a = some (dbl a) := by
  obtain ⟨n, d, rfl, h1, h2, h3, h4⟩ := isA_nat h
  unfold spec_l01Double
  rw [w64_id (n := 2 * (n : Int)) (by omega) (by omega), show 2 * (n : Int) = ((2 * n : Nat) : Int) by omega]
  show (spec_l01Of _ (d : Int)).bind _ = _
  rw [spec_angN (by omega) (by omega) (by omega)]
  rfl
theorem dbl_odd {n d : Nat} (h1 : 1 ≤ d) (h4 : Nat.gcd n d = 1) (ho : d % 2 = 1) : dbl ((n : Int), (d : Int), ()) = (((2 * n % d : Nat) : Int), (d : Int), ()) ∧ Nat.gcd (2 * n % d) d = 1 := by
  have g : Nat.gcd (2 * n % d) d = 1 := by
    rw [← Nat.gcd_rec, Nat.gcd_comm]
    have c2 : Nat.Coprime 2 d := by
      have : Nat.gcd 2 d = 1 := by rw [Nat.gcd_rec, ho]; rfl
      exact this
    exact Nat.Coprime.mul_left c2 h4
  rw [dbl_nat, angN, g, Nat.div_one, Nat.div_one]
  exact ⟨rfl, rfl⟩
theorem dbl_even {n e : Nat} (h1 : 1 ≤ e) (h4 : Nat.gcd n (2 * e) = 1) : dbl ((n : Int), ((2 * e : Nat) : Int), ()) = (((n % e : Nat) : Int), (e : Int), ()) ∧ Nat.gcd (n % e) e = 1 := by
  have g : Nat.gcd (n % e) e = 1 := by
    rw [← Nat.gcd_rec, Nat.gcd_comm]
    exact Nat.Coprime.coprime_dvd_right (Nat.dvd_mul_left e 2) h4
  have m : 2 * n % (2 * e) = 2 * (n % e) := Nat.mul_mod_mul_left 2 n e
  rw [dbl_nat, angN, m, Nat.gcd_mul_left, g, Nat.mul_one, Nat.mul_div_cancel_left _ (by omega), Nat.mul_div_cancel_left _ (by omega)]
  exact ⟨rfl, rfl⟩
theorem dbl_isA {a : Ang} (h : isA a) : isA (dbl a) := by
  obtain ⟨n, d, rfl, h1, h2, h3, h4⟩ := isA_nat h
  rcases Nat.mod_two_eq_zero_or_one d with he | ho
  · obtain ⟨e, rfl⟩ : ∃ e, d = 2 * e := ⟨d / 2, by omega⟩
    obtain ⟨e1, e2⟩ := dbl_even (n := n) (e := e) (by omega) h4
    rw [e1]
    exact isA_of (by omega) (by omega) (Nat.mod_lt _ (by omega)) e2
  · obtain ⟨e1, e2⟩ := dbl_odd h1 h4 ho
    rw [e1]
    exact isA_of h1 h2 (Nat.mod_lt _ (by omega)) e2
/-- Times doubled. -/
theorem w64_add1 {n : Int} (h1 : 0 ≤ n) (h2 : n ≤ 1000000000000) : w64 (n + 1) = n + 1 := w64_id (by omega) (by omega)
end Go.K.Pure

/- Plain laws of laminations, part B: leaves and fractions (leaves: turned from the parts of EndClasses). -/
set_option linter.unusedVariables false
set_option linter.unusedSimpArgs false
namespace Go.K.Pure

abbrev InL (l : Lf) : Prop := InA l.1 ∧ InA l.2.1
abbrev isL (l : Lf) : Prop := isA l.1 ∧ isA l.2.1 ∧ lt l.1 l.2.1
theorem spec_isL {l : Lf} (h : InL l) : spec_l03Is l = some (decide (isL l)) := by
  unfold spec_l03Is isL
  rw [spec_isA h.1]
  simp only [Option.bind_some]
  by_cases h1 : isA l.1
  · rw [decide_eq_true h1, cond_true, spec_isA h.2]
    simp only [Option.bind_some]
    by_cases h2 : isA l.2.1
    · rw [decide_eq_true h2, cond_true, spec_less h1 h2]
      simp [h1, h2]
    · rw [decide_eq_false h2, cond_false]
      simp [h2]
  · rw [decide_eq_false h1, cond_false]
    simp [h1]
theorem impl_isL {l : Lf} (h : InL l) : impl_IsLeaf l = some (decide (isL l)) := by
  unfold impl_IsLeaf isL
  rw [impl_isA h.1]
  simp only [Option.bind_some]
  by_cases h1 : isA l.1
  · rw [decide_eq_true h1, cond_true, impl_isA h.2]
    simp only [Option.bind_some]
    by_cases h2 : isA l.2.1
    · rw [decide_eq_true h2, cond_true, impl_compare h1 h2]
      unfold cmpA
      by_cases h3 : lt l.1 l.2.1
      · simp [h1, h2, h3]
      · by_cases h4 : lt l.2.1 l.1 <;> simp [h1, h2, h3, h4]
    · rw [decide_eq_false h2, cond_false]
      simp [h2]
  · rw [decide_eq_false h1, cond_false]
    simp [h1]
/-- The order of leaves. -/
def ltL (l m : Lf) : Prop := lt l.1 m.1 ∨ l.1 = m.1 ∧ lt l.2.1 m.2.1
instance (l m : Lf) : Decidable (ltL l m) := by unfold ltL; infer_instance
theorem spec_lessL {l m : Lf} (hl : isL l) (hm : isL m) : spec_l03Less l m = some (decide (ltL l m)) := by
  unfold spec_l03Less ltL
  rw [beqA]
  by_cases h : l.1 = m.1
  · have h0 : ¬ lt m.1 m.1 := by unfold lt; omega
    rw [decide_eq_true h, Bool.not_true, cond_false, spec_less hl.2.1 hm.2.1]
    simp [h, h0]
  · rw [decide_eq_false h, Bool.not_false, cond_true, spec_less hl.1 hm.1]
    simp [h]
theorem or2 (x y : Int) : cmp_Or_int [x, y] = some (if x ≠ 0 then x else y) := by
  unfold cmp_Or_int
  rw [loop_eq]
  by_cases h : x = 0
  · subst h
    simp only [cmp_Or_int_l0, List.length_cons, List.length_nil]
    have w1 : w64 1 = 1 := w64_id (by omega) (by omega)
    simp [w1]
    rw [loop_eq]
    by_cases h2 : y = 0
    · subst h2
      simp only [cmp_Or_int_l0]
      have w2 : w64 2 = 2 := w64_id (by omega) (by omega)
      simp [w2]
      rw [loop_eq]
      simp [cmp_Or_int_l0, alt]
    · have e : (y != 0) = true := by simpa using h2
      simp [cmp_Or_int_l0, e, alt]
  · have e : (x != 0) = true := by simpa using h
    simp [cmp_Or_int_l0, e, alt, h]
theorem eqv {a b : Ang} (ha : isA a) (hb : isA b) : a = b ↔ val a = val b := ⟨fun h => by rw [h], val_inj ha hb⟩
theorem ltL_asymm {l m : Lf} (hl : isL l) (hm : isL m) : ltL l m → ¬ ltL m l := by
  unfold ltL
  simp only [lt_val hl.1 hm.1, lt_val hm.1 hl.1, lt_val hl.2.1 hm.2.1, lt_val hm.2.1 hl.2.1, eqv hl.1 hm.1, eqv hm.1 hl.1]
  omega
theorem ltL_trans {l m n : Lf} (hl : isL l) (hm : isL m) (hn : isL n) : ltL l m → ltL m n → ltL l n := by
  unfold ltL
  simp only [lt_val hl.1 hm.1, lt_val hm.1 hn.1, lt_val hl.1 hn.1, lt_val hl.2.1 hm.2.1, lt_val hm.2.1 hn.2.1, lt_val hl.2.1 hn.2.1, eqv hl.1 hm.1, eqv hm.1 hn.1, eqv hl.1 hn.1]
  omega
theorem leaf_ext {l m : Lf} (h1 : l.1 = m.1) (h2 : l.2.1 = m.2.1) : l = m := by
  obtain ⟨a, b, ⟨⟩⟩ := l
  obtain ⟨c, d, ⟨⟩⟩ := m
  simp only at h1 h2
  rw [h1, h2]
theorem ltL_total {l m : Lf} (hl : isL l) (hm : isL m) : ltL l m ∨ l = m ∨ ltL m l := by
  have e : l = m ↔ val l.1 = val m.1 ∧ val l.2.1 = val m.2.1 := ⟨fun h => by rw [h]; exact ⟨rfl, rfl⟩, fun h => leaf_ext (val_inj hl.1 hm.1 h.1) (val_inj hl.2.1 hm.2.1 h.2)⟩
  unfold ltL
  rw [e]
  simp only [lt_val hl.1 hm.1, lt_val hm.1 hl.1, lt_val hl.2.1 hm.2.1, lt_val hm.2.1 hl.2.1, eqv hl.1 hm.1, eqv hm.1 hl.1]
  omega
theorem ltL_irrefl {l : Lf} : ¬ ltL l l := by unfold ltL lt; omega
theorem impl_compareL {l m : Lf} (hl : isL l) (hm : isL m) : ∃ r, impl_Leaf_compare l m = some r ∧ (r < 0 ↔ ltL l m) ∧ (0 < r ↔ ltL m l) := by
  unfold impl_Leaf_compare
  rw [impl_compare hl.1 hm.1, impl_compare hl.2.1 hm.2.1]
  simp only [Option.bind_some, or2]
  refine ⟨_, rfl, ?_⟩
  unfold ltL cmpA
  have t1 := lt_val hl.1 hm.1
  have t2 := lt_val hm.1 hl.1
  have t3 := lt_val hl.2.1 hm.2.1
  have t4 := lt_val hm.2.1 hl.2.1
  simp only [t1, t2, t3, t4, eqv hl.1 hm.1, eqv hm.1 hl.1]
  repeat' split
  all_goals omega
/-- Leaves cross. -/
def X (l m : Lf) : Prop := val l.1 < val m.1 ∧ val m.1 < val l.2.1 ∧ val l.2.1 < val m.2.1 ∨ val m.1 < val l.1 ∧ val l.1 < val m.2.1 ∧ val m.2.1 < val l.2.1
open Classical in
theorem spec_cross {l m : Lf} (hl : isL l) (hm : isL m) : spec_l03Cross l m = some (decide (X l m)) := by
  have t1 := (lt_val hl.1 hl.2.1).1 hl.2.2
  have t2 := (lt_val hm.1 hm.2.1).1 hm.2.2
  have e1 : l.1 = m.1 ↔ val l.1 = val m.1 := ⟨fun h => by rw [h], val_inj hl.1 hm.1⟩
  have e2 : l.1 = m.2.1 ↔ val l.1 = val m.2.1 := ⟨fun h => by rw [h], val_inj hl.1 hm.2.1⟩
  have e3 : l.2.1 = m.1 ↔ val l.2.1 = val m.1 := ⟨fun h => by rw [h], val_inj hl.2.1 hm.1⟩
  have e4 : l.2.1 = m.2.1 ↔ val l.2.1 = val m.2.1 := ⟨fun h => by rw [h], val_inj hl.2.1 hm.2.1⟩
  have nX : (val l.1 = val m.1 ∨ val l.1 = val m.2.1 ∨ val l.2.1 = val m.1 ∨ val l.2.1 = val m.2.1) → ¬ X l m := by unfold X; omega
  unfold spec_l03Cross
  rw [beqA, beqA, beqA, beqA]
  by_cases h1 : l.1 = m.1
  · rw [decide_eq_true h1, cond_true, decide_eq_false (nX (.inl (e1.1 h1)))]
  rw [decide_eq_false h1, cond_false]
  by_cases h2 : l.1 = m.2.1
  · rw [decide_eq_true h2, cond_true, decide_eq_false (nX (.inr (.inl (e2.1 h2))))]
  rw [decide_eq_false h2, cond_false]
  by_cases h3 : l.2.1 = m.1
  · rw [decide_eq_true h3, cond_true, decide_eq_false (nX (.inr (.inr (.inl (e3.1 h3)))))]
  rw [decide_eq_false h3, cond_false]
  by_cases h4 : l.2.1 = m.2.1
  · rw [decide_eq_true h4, cond_true, decide_eq_false (nX (.inr (.inr (.inr (e4.1 h4)))))]
  rw [decide_eq_false h4, cond_false]
  rw [spec_within hl.1 hm.1 hm.2.1 hm.2.2, spec_within hl.2.1 hm.1 hm.2.1 hm.2.2]
  simp only [Option.bind_some]
  rw [e1] at h1; rw [e2] at h2; rw [e3] at h3; rw [e4] at h4
  have u1 := lt_val hm.1 hl.1
  have u2 := lt_val hl.1 hm.2.1
  have u3 := lt_val hm.1 hl.2.1
  have u4 := lt_val hl.2.1 hm.2.1
  congr 1
  have hh : X l m ↔ ¬ ((lt m.1 l.1 ∧ lt l.1 m.2.1) ↔ (lt m.1 l.2.1 ∧ lt l.2.1 m.2.1)) := by
    rw [u1, u2, u3, u4]; unfold X; omega
  by_cases p : (lt m.1 l.1 ∧ lt l.1 m.2.1) <;> by_cases q : (lt m.1 l.2.1 ∧ lt l.2.1 m.2.1) <;> simp [p, q] at hh ⊢ <;> exact hh
open Classical in
theorem impl_cross {l m : Lf} (hl : isL l) (hm : isL m) : impl_Leaf_cross l m = some (decide (X l m)) := by
  have t1 := (lt_val hl.1 hl.2.1).1 hl.2.2
  have t2 := (lt_val hm.1 hm.2.1).1 hm.2.2
  have v1 := val_nonneg hl.1
  have v2 := val_lt_KK hl.2.1
  have v3 := val_nonneg hm.1
  have v4 := val_lt_KK hm.2.1
  have key : ∀ x : Ang, isA x → 0 ≤ val x → val x < KK → ∃ o : Int, impl_order l.1 x l.2.1 = some o ∧ (o = 0 ∧ (val x = val l.1 ∨ val x = val l.2.1) ∨ o = 1 ∧ val l.1 < val x ∧ val x < val l.2.1 ∨ o = -1 ∧ (val x < val l.1 ∨ val l.2.1 < val x)) := by
    intro x hx x1 x2
    refine ⟨_, impl_order_ok hl.1 hx hl.2.1, ?_⟩
    have e1 : l.1 = x ↔ val l.1 = val x := ⟨fun h => by rw [h], val_inj hl.1 hx⟩
    have e2 : x = l.2.1 ↔ val x = val l.2.1 := ⟨fun h => by rw [h], val_inj hx hl.2.1⟩
    have e3 : l.1 = l.2.1 ↔ val l.1 = val l.2.1 := ⟨fun h => by rw [h], val_inj hl.1 hl.2.1⟩
    simp only [e1, e2, e3]
    split
    · left; exact ⟨rfl, by omega⟩
    · right
      by_cases hd : dv x l.1 < dv l.2.1 l.1
      · left
        refine ⟨by rw [if_pos hd], ?_⟩
        unfold dv at hd
        split at hd <;> split at hd <;> omega
      · right
        refine ⟨by rw [if_neg hd], ?_⟩
        unfold dv at hd
        split at hd <;> split at hd <;> omega
  unfold impl_Leaf_cross
  obtain ⟨o1, h1, h2⟩ := key m.1 hm.1 v3 (by omega)
  obtain ⟨o2, h3, h4⟩ := key m.2.1 hm.2.1 (by omega) v4
  rw [h1, h3]
  simp only [Option.bind_some]
  congr 1
  have hw : w64 (o1 * o2) = o1 * o2 := by
    rcases h2 with ⟨rfl, _⟩ | ⟨rfl, _⟩ | ⟨rfl, _⟩ <;> rcases h4 with ⟨rfl, _⟩ | ⟨rfl, _⟩ | ⟨rfl, _⟩ <;> exact w64_id (by omega) (by omega)
  rw [hw]
  have hh : o1 * o2 = -1 ↔ X l m := by
    unfold X
    rcases h2 with ⟨rfl, _⟩ | ⟨rfl, _⟩ | ⟨rfl, _⟩ <;> rcases h4 with ⟨rfl, _⟩ | ⟨rfl, _⟩ | ⟨rfl, _⟩ <;> omega
  by_cases hx : X l m
  · rw [decide_eq_true hx, hh.2 hx]; rfl
  · rw [decide_eq_false hx]
    have : ¬ o1 * o2 = -1 := fun h => hx (hh.1 h)
    simpa using this
abbrev dLf : Lf := (((0 : Int), (0 : Int), ()), ((0 : Int), (0 : Int), ()), ())
abbrev at' (L : List Lf) (i : Nat) : Lf := L.getD i dLf
theorem at_mem {L : List Lf} {i : Nat} (h : i < L.length) : at' L i ∈ L := by rw [at', getD_at h]; exact List.getElem_mem h
theorem mem_at {L : List Lf} {l : Lf} (h : l ∈ L) : ∃ i, i < L.length ∧ at' L i = l := by
  obtain ⟨i, hi, rfl⟩ := List.getElem_of_mem h
  exact ⟨i, hi, getD_at hi⟩

/-- A fraction in lowest terms, of the value D / KK. -/
def Fr (r : Ang) (D : Int) : Prop := 0 ≤ r.1 ∧ r.1 < r.2.1 ∧ r.2.1 ≤ 67092481 ∧ Int.gcd r.1 r.2.1 = 1 ∧ r.1 * KK = D * r.2.1
theorem fr_range {r : Ang} {D : Int} (h : Fr r D) : 0 ≤ D ∧ D < KK := by
  obtain ⟨h1, h2, h3, h4, h5⟩ := h
  have hd : 0 < r.2.1 := by omega
  have hk := KK_pos
  constructor
  · by_cases h : 0 ≤ D
    · exact h
    · have : D * r.2.1 < 0 := Int.mul_neg_of_neg_of_pos (by omega) hd
      have : 0 ≤ r.1 * KK := Int.mul_nonneg h1 (Int.le_of_lt hk)
      omega
  · by_cases h : D < KK
    · exact h
    · have e1 : KK * r.2.1 ≤ D * r.2.1 := Int.mul_le_mul_of_nonneg_right (by omega) (by omega)
      have e2 : r.1 * KK < r.2.1 * KK := Int.mul_lt_mul_of_pos_right h2 hk
      rw [Int.mul_comm r.2.1 KK] at e2
      omega
theorem fr_lt {r s : Ang} {D E : Int} (h : Fr r D) (g : Fr s E) : r.1 * s.2.1 < s.1 * r.2.1 ↔ D < E := by
  obtain ⟨h1, h2, h3, h4, h5⟩ := h
  obtain ⟨g1, g2, g3, g4, g5⟩ := g
  have hk := KK_pos
  have hp : 0 < r.2.1 * s.2.1 := Int.mul_pos (by omega) (by omega)
  rw [← mul_lt_iff hk, ← mul_lt_iff hp (x := D)]
  have e1 : r.1 * s.2.1 * KK = D * (r.2.1 * s.2.1) := by
    rw [show r.1 * s.2.1 * KK = (r.1 * KK) * s.2.1 by rw [Int.mul_assoc, Int.mul_assoc, Int.mul_comm s.2.1 KK], h5, Int.mul_assoc]
  have e2 : s.1 * r.2.1 * KK = E * (r.2.1 * s.2.1) := by
    rw [show s.1 * r.2.1 * KK = (s.1 * KK) * r.2.1 by rw [Int.mul_assoc, Int.mul_assoc, Int.mul_comm r.2.1 KK], g5, Int.mul_assoc, Int.mul_comm s.2.1 r.2.1]
  rw [e1, e2]
theorem fr_uniq {r s : Ang} {D : Int} (h : Fr r D) (g : Fr s D) : r = s := by
  have t1 := (fr_lt h g)
  have t2 := (fr_lt g h)
  have e : r.1 * s.2.1 = s.1 * r.2.1 := by
    have a1 : ¬ r.1 * s.2.1 < s.1 * r.2.1 := fun hh => by have := t1.1 hh; omega
    have a2 : ¬ s.1 * r.2.1 < r.1 * s.2.1 := fun hh => by have := t2.1 hh; omega
    omega
  obtain ⟨h1, h2, h3, h4, h5⟩ := h
  obtain ⟨g1, g2, g3, g4, g5⟩ := g
  obtain ⟨x, d, ⟨⟩⟩ := r
  obtain ⟨y, c, ⟨⟩⟩ := s
  simp only at *
  have d1 : d ∣ c := dvd_of_gcd (a := d) (b := x) (c := c) ⟨y, by rw [e, Int.mul_comm]⟩ (by rw [Int.gcd_comm]; exact h4)
  have d2 : c ∣ d := dvd_of_gcd (a := c) (b := y) (c := d) ⟨x, by rw [← e, Int.mul_comm]⟩ (by rw [Int.gcd_comm]; exact g4)
  have hdc : d = c := Int.dvd_antisymm (by omega) (by omega) d1 d2
  subst hdc
  have : x = y := Int.eq_of_mul_eq_mul_right (by omega : d ≠ 0) e
  rw [this]
theorem tmod_fix {num den : Int} (h1 : 0 < den) (h2 : den ≤ 67092481) : (w64 (num.tmod den + den)).tmod den = num % den := by
  have m1 : -den < num.tmod den := Int.lt_tmod_of_pos num h1
  have m2 : num.tmod den < den := Int.tmod_lt_of_pos num h1
  rw [w64_id (by omega) (by omega), Int.tmod_eq_emod_of_nonneg (by omega), Int.add_emod_right, Int.emod_eq_emod_iff_emod_sub_eq_zero]
  have : num.tmod den - num = den * (-(num.tdiv den)) := by
    have := Int.mul_tdiv_add_tmod num den
    rw [Int.mul_neg]; omega
  rw [this]
  exact Int.mul_emod_right _ _
/-- The fraction num / den without whole turns, by both. -/
theorem of_fr {num den D : Int} (h1 : 0 < den) (h2 : den ≤ 67092481) (h : (num % den) * KK = D * den) : ∃ r, impl_angle num den = some r ∧ spec_l01Of num den = some r ∧ Fr r D := by
  have m0 := Int.emod_nonneg num (show den ≠ 0 by omega)
  have m1 := Int.emod_lt_of_pos num h1
  obtain ⟨x, hx⟩ := Int.eq_ofNat_of_zero_le m0
  obtain ⟨d, rfl⟩ := Int.eq_ofNat_of_zero_le (show 0 ≤ den by omega)
  have e1 : impl_angle num d = impl_angle (x : Int) d := by
    unfold impl_angle
    rw [tmod_fix h1 h2, tmod_fix h1 h2, hx, Int.emod_eq_of_lt (by omega) (by omega)]
  have e2 : spec_l01Of num d = spec_l01Of (x : Int) d := by
    unfold spec_l01Of
    rw [tmod_fix h1 h2, tmod_fix h1 h2, hx, Int.emod_eq_of_lt (by omega) (by omega)]
  refine ⟨angN x d, by rw [e1, impl_angN (by omega) (by omega) (by omega)], by rw [e2, spec_angN (by omega) (by omega) (by omega)], ?_⟩
  have hxd : x % d = x := Nat.mod_eq_of_lt (by omega)
  unfold angN
  rw [hxd]
  have g0 : 0 < Nat.gcd x d := Nat.gcd_pos_of_pos_right _ (by omega)
  obtain ⟨n, hn⟩ := Nat.gcd_dvd_left x d
  obtain ⟨c, hc⟩ := Nat.gcd_dvd_right x d
  generalize hg : Nat.gcd x d = g at *
  have q1 : x / g = n := by rw [hn]; exact Nat.mul_div_cancel_left _ g0
  have q2 : d / g = c := by rw [hc]; exact Nat.mul_div_cancel_left _ g0
  rw [q1, q2]
  have hco : Nat.gcd n c = 1 := by
    rw [← q1, ← q2, ← hg]
    exact Nat.gcd_div_gcd_div_gcd_of_pos_right (by omega)
  have hcd : c ≤ d := by rw [hc]; exact Nat.le_mul_of_pos_left _ g0
  have hnc : n < c := by
    have : g * n < g * c := by rw [← hn, ← hc]; omega
    exact Nat.lt_of_mul_lt_mul_left this
  refine ⟨by simp, by simp only; omega, by simp only; omega, hco, ?_⟩
  simp only
  rw [hx] at h
  have h' : (g : Int) * ((n : Int) * KK) = (g : Int) * (D * (c : Int)) := by
    have a1 : (x : Int) = (g : Int) * n := by rw [hn]; push_cast; rfl
    have a2 : (d : Int) = (g : Int) * c := by rw [hc]; push_cast; rfl
    rw [a1, a2] at h
    rw [← Int.mul_assoc, h, ← Int.mul_assoc, ← Int.mul_assoc, Int.mul_comm D (g : Int)]
  exact Int.eq_of_mul_eq_mul_left (by omega : (g : Int) ≠ 0) h'
end Go.K.Pure

/- Plain laws of laminations, part C: lengths, halves, joining. -/
set_option linter.unusedVariables false
set_option linter.unusedSimpArgs false
namespace Go.K.Pure

theorem minus_num {a b : Ang} (ha : isA a) (hb : isA b) : (b.1 * a.2.1 - a.1 * b.2.1) % (b.2.1 * a.2.1) * KK = dv b a * (b.2.1 * a.2.1) := by
  have c1 := cross_bnd hb ha
  have c2 := cross_bnd ha hb
  have hv := val_cross ha hb
  have v1 := val_nonneg ha
  have v2 := val_lt_KK ha
  have v3 := val_nonneg hb
  have v4 := val_lt_KK hb
  have hK := KK_pos
  have hlt := lt_val hb ha
  have hn1 := hb.2.2.2.1
  have hn2 := ha.2.2.2.1
  have p1 : b.1 * a.2.1 < b.2.1 * a.2.1 := Int.mul_lt_mul_of_pos_right hn1 (by have := ha.1; omega)
  have p2 : a.1 * b.2.1 < a.2.1 * b.2.1 := Int.mul_lt_mul_of_pos_right hn2 (by have := hb.1; omega)
  rw [Int.mul_comm a.2.1 b.2.1] at hv p2
  unfold lt at hlt
  unfold dv
  generalize b.2.1 * a.2.1 = D at *
  by_cases hc : val a ≤ val b
  · rw [if_pos hc, hv]
    have : ¬ (b.1 * a.2.1 < a.1 * b.2.1) := fun h => by have := hlt.1 h; omega
    rw [Int.emod_eq_of_lt (by omega) (by omega)]
  · rw [if_neg hc, Int.add_mul, hv]
    have : b.1 * a.2.1 < a.1 * b.2.1 := hlt.2 (by omega)
    rw [← Int.add_emod_right, Int.emod_eq_of_lt (by omega) (by omega), Int.add_mul, Int.mul_comm KK]
theorem minus_fr {a b : Ang} (ha : isA a) (hb : isA b) : ∃ r, impl_Angle_minus b a = some r ∧ spec_l03Forward a b = some r ∧ Fr r (dv b a) := by
  have c1 := cross_bnd hb ha
  have c2 := cross_bnd ha hb
  have c3 := mul_bnd (show 0 ≤ b.2.1 by have := hb.1; omega) hb.2.1 (show 0 ≤ a.2.1 by have := ha.1; omega) ha.2.1
  have c4 := den_pos hb ha
  obtain ⟨r, h1, h2, h3⟩ := of_fr c4 c3.2 (minus_num ha hb)
  refine ⟨r, ?_, ?_, h3⟩
  · unfold impl_Angle_minus
    rw [w64_id (n := b.1 * a.2.1) (by omega) (by omega), w64_id (n := a.1 * b.2.1) (by omega) (by omega), w64_id (n := b.1 * a.2.1 - a.1 * b.2.1) (by omega) (by omega), w64_id (n := b.2.1 * a.2.1) (by omega) (by omega), h1]
    rfl
  · unfold spec_l03Forward
    rw [Int.mul_comm a.2.1 b.2.1, w64_id (n := b.1 * a.2.1) (by omega) (by omega), w64_id (n := a.1 * b.2.1) (by omega) (by omega), w64_id (n := b.1 * a.2.1 - a.1 * b.2.1) (by omega) (by omega), w64_id (n := b.2.1 * a.2.1) (by omega) (by omega), h2]
    rfl
theorem fr_bnd {r s : Ang} {D E : Int} (h : Fr r D) (g : Fr s E) : 0 ≤ r.1 * s.2.1 ∧ r.1 * s.2.1 ≤ 4501401006735361 := by
  obtain ⟨h1, h2, h3, h4, h5⟩ := h
  obtain ⟨g1, g2, g3, g4, g5⟩ := g
  refine ⟨Int.mul_nonneg h1 (by omega), ?_⟩
  have := Int.mul_le_mul (show r.1 ≤ 67092481 by omega) g3 (by omega) (by omega)
  omega
theorem fr_compare {r s : Ang} {D E : Int} (h : Fr r D) (g : Fr s E) : impl_Angle_compare r s = some (if D < E then -1 else if E < D then 1 else 0) := by
  have b1 := fr_bnd h g
  have b2 := fr_bnd g h
  have t1 := fr_lt h g
  have t2 := fr_lt g h
  unfold impl_Angle_compare
  rw [w64_id (by omega) (by omega), w64_id (by omega) (by omega), impl_cmp]
  simp only [Option.bind_some, t1, t2]
theorem fr_less {r s : Ang} {D E : Int} (h : Fr r D) (g : Fr s E) : spec_l01Less r s = some (decide (D < E)) := by
  have b1 := fr_bnd h g
  have b2 := fr_bnd g h
  have t1 := fr_lt h g
  unfold spec_l01Less
  rw [w64_id (by omega) (by omega), w64_id (by omega) (by omega)]
  simp only [t1]
noncomputable def gap (l : Lf) : Int := val l.2.1 - val l.1
/-- The length of a leaf. -/
noncomputable def dl (l : Lf) : Int := if KK - gap l < gap l then KK - gap l else gap l
theorem gap_pos {l : Lf} (h : isL l) : 0 < gap l ∧ gap l < KK := by
  have t := (lt_val h.1 h.2.1).1 h.2.2
  have v1 := val_nonneg h.1
  have v2 := val_lt_KK h.2.1
  unfold gap
  omega
theorem dl_pos {l : Lf} (h : isL l) : 0 < dl l ∧ 2 * dl l ≤ KK := by
  have := gap_pos h
  unfold dl
  split <;> omega
theorem dist_ok {l : Lf} (h : isL l) : ∃ r, impl_Leaf_size l = some r ∧ spec_l01Distance l.1 l.2.1 = some r ∧ Fr r (dl l) := by
  have t := (lt_val h.1 h.2.1).1 h.2.2
  have hg := gap_pos h
  have hK := KK_pos
  obtain ⟨x, x1, _, x3⟩ := minus_fr h.2.1 h.1
  obtain ⟨y, y1, y2, y3⟩ := minus_fr h.1 h.2.1
  have dx : dv l.1 l.2.1 = KK - gap l := by unfold dv gap; rw [if_neg (by omega)]; omega
  have dy : dv l.2.1 l.1 = gap l := by unfold dv gap; rw [if_pos (by omega)]
  rw [dx] at x3
  rw [dy] at y3
  have hz : ∃ z, spec_l01Of (w64 ((0 : Int) - y.1)) y.2.1 = some z ∧ Fr z (KK - gap l) := by
    obtain ⟨h1, h2, h3, h4, h5⟩ := y3
    have hy0 : 0 < y.1 := by
      by_cases h0 : 0 < y.1
      · exact h0
      · have : y.1 = 0 := by omega
        rw [this, Int.zero_mul] at h5
        have := Int.mul_pos hg.1 (show 0 < y.2.1 by omega)
        omega
    obtain ⟨z, _, z2, z3⟩ := of_fr (num := -y.1) (den := y.2.1) (D := KK - gap l) (by omega) h3 (by
      rw [← Int.add_emod_right, Int.emod_eq_of_lt (by omega) (by omega), Int.add_mul, Int.sub_mul, Int.neg_mul, h5, Int.mul_comm KK]; omega)
    exact ⟨z, by rw [w64_id (by omega) (by omega), Int.zero_sub]; exact z2, z3⟩
  obtain ⟨z, z1, z2⟩ := hz
  have hzx : z = x := fr_uniq z2 x3
  subst hzx
  have hs : spec_l01Of (w64 ((w64 (l.2.1.1 * l.1.2.1)) - (w64 (l.1.1 * l.2.1.2.1)))) (w64 (l.1.2.1 * l.2.1.2.1)) = some y := by
    have := y2
    unfold spec_l03Forward at this
    cases hh : spec_l01Of (w64 ((w64 (l.2.1.1 * l.1.2.1)) - (w64 (l.1.1 * l.2.1.2.1)))) (w64 (l.1.2.1 * l.2.1.2.1)) with
    | none => rw [hh] at this; cases this
    | some v => rw [hh] at this; exact this
  unfold impl_Leaf_size impl_Angle_distance spec_l01Distance
  rw [x1, y1, hs]
  simp only [Option.bind_some]
  rw [z1]
  simp only [Option.bind_some]
  rw [fr_compare x3 y3, fr_less x3 y3]
  simp only [Option.bind_some]
  unfold dl
  by_cases hc : KK - gap l < gap l
  · rw [if_pos hc, if_pos hc, decide_eq_true hc]
    exact ⟨z, by simp, by simp, x3⟩
  · rw [if_neg hc, if_neg hc, decide_eq_false hc]
    refine ⟨y, ?_, by simp, y3⟩
    split <;> simp
theorem KK_even : ∃ H : Int, KK = 2 * H := KK_dvd (d := 2) (by omega) (by omega)
theorem KK_three : ∃ H : Int, KK = 3 * H := KK_dvd (d := 3) (by omega) (by omega)
theorem short_ok {l : Lf} (h : isL l) : impl_Leaf_isShort l = some (!decide (3 * dl l > KK)) ∧ spec_l05Long l = some (decide (3 * dl l > KK)) := by
  obtain ⟨r, r1, r2, r3⟩ := dist_ok h
  have hK := KK_pos
  obtain ⟨H, hH⟩ := KK_three
  have f3 : Fr ((1 : Int), (3 : Int), ()) H := ⟨by simp, by simp, by simp, by decide, by simp only; omega⟩
  constructor
  · unfold impl_Leaf_isShort
    rw [r1]
    simp only [Option.bind_some]
    rw [fr_compare r3 f3]
    simp only [Option.bind_some]
    congr 1
    by_cases h1 : dl l < H
    · rw [if_pos h1, decide_eq_false (by omega : ¬ 3 * dl l > KK)]; rfl
    · rw [if_neg h1]
      by_cases h2 : H < dl l
      · rw [if_pos h2, decide_eq_true (by omega : 3 * dl l > KK)]; rfl
      · rw [if_neg h2, decide_eq_false (by omega : ¬ 3 * dl l > KK)]; rfl
  · unfold spec_l05Long
    rw [r2]
    simp only [Option.bind_some]
    obtain ⟨h1, h2, h3, h4, h5⟩ := r3
    rw [w64_id (by omega) (by omega)]
    congr 1
    have hd : 0 < r.2.1 := by omega
    have key : 3 * r.1 > r.2.1 ↔ 3 * dl l > KK := by
      have e1 : r.2.1 * KK < 3 * r.1 * KK ↔ r.2.1 < 3 * r.1 := mul_lt_iff hK
      have e2 : KK * r.2.1 < 3 * dl l * r.2.1 ↔ KK < 3 * dl l := mul_lt_iff hd
      rw [Int.mul_assoc, h5, ← Int.mul_assoc, Int.mul_comm r.2.1 KK, e2] at e1
      exact e1.symm
    simp only [key]
theorem angN_val {x D : Nat} (h : x < D) (hA : isA (angN x D)) : val (angN x D) * (D : Int) = (x : Int) * KK := by
  have hd := KK_div hA
  unfold val
  unfold angN at *
  rw [Nat.mod_eq_of_lt h] at *
  have g0 : 0 < Nat.gcd x D := Nat.gcd_pos_of_pos_right _ (by omega)
  obtain ⟨n, hn⟩ := Nat.gcd_dvd_left x D
  obtain ⟨c, hc⟩ := Nat.gcd_dvd_right x D
  have q1 : x / Nat.gcd x D = n := by conv => lhs; lhs; rw [hn]
                                      exact Nat.mul_div_cancel_left _ g0
  have q2 : D / Nat.gcd x D = c := by conv => lhs; lhs; rw [hc]
                                      exact Nat.mul_div_cancel_left _ g0
  rw [q2] at hd
  rw [q1, q2]
  simp only at hd ⊢
  have a1 : (x : Int) = (Nat.gcd x D : Int) * n := by conv => lhs; rw [hn]
                                                      push_cast; rfl
  have a2 : (D : Int) = (Nat.gcd x D : Int) * c := by conv => lhs; rw [hc]
                                                      push_cast; rfl
  rw [a2, a1]
  have : (n : Int) * (KK / (c : Int)) * (((x.gcd D : Nat) : Int) * (c : Int)) = ((x.gcd D : Nat) : Int) * (n : Int) * ((c : Int) * (KK / (c : Int))) := by ac_rfl
  rw [this, hd]
theorem angN_isA {x D : Nat} (hD : 0 < D) (h : x < D) (hd : (angN x D).2.1 ≤ 8191) : isA (angN x D) := by
  unfold angN at *
  rw [Nat.mod_eq_of_lt h] at *
  have g0 : 0 < Nat.gcd x D := Nat.gcd_pos_of_pos_right _ (by omega)
  simp only at hd
  have hc : 0 < D / Nat.gcd x D := Nat.div_pos (Nat.le_of_dvd hD (Nat.gcd_dvd_right _ _)) g0
  refine isA_of (by omega) (by omega) ?_ (Nat.gcd_div_gcd_div_gcd_of_pos_right hD)
  exact Nat.div_lt_div_of_lt_of_dvd (Nat.gcd_dvd_right _ _) h
theorem dbl_val {a : Ang} (h : isA a) : val (dbl a) = if 2 * val a < KK then 2 * val a else 2 * val a - KK := by
  have hA := dbl_isA h
  have hK := KK_pos
  obtain ⟨n, d, rfl, h1, h2, h3, h4⟩ := isA_nat h
  rw [dbl_nat] at *
  have ha : val ((n : Int), (d : Int), ()) * (d : Int) = (n : Int) * KK := by
    have := KK_div h
    simp only at this
    unfold val
    simp only
    rw [Int.mul_assoc, Int.mul_comm _ (d : Int), this]
  have hm : angN (2 * n) d = angN (2 * n % d) d := by unfold angN; rw [Nat.mod_mod]
  have hv := angN_val (x := 2 * n % d) (D := d) (Nat.mod_lt _ (by omega)) (hm ▸ hA)
  rw [hm]
  generalize val (angN (2 * n % d) d) = u at *
  generalize val ((n : Int), (d : Int), ()) = v at *
  have hd0 : (0 : Int) < d := by omega
  by_cases hc : 2 * n < d
  · rw [Nat.mod_eq_of_lt hc] at hv
    have e : u = 2 * v := by
      have : u * (d : Int) = 2 * v * (d : Int) := by rw [hv, Int.mul_assoc, ha]; push_cast; rw [Int.mul_assoc]
      exact Int.eq_of_mul_eq_mul_right (by omega) this
    have l1 : 2 * v < KK := by
      have : 2 * v * (d : Int) < KK * (d : Int) := by
        rw [Int.mul_assoc, ha, ← Int.mul_assoc, Int.mul_comm KK]
        exact Int.mul_lt_mul_of_pos_right (by omega) hK
      exact (mul_lt_iff hd0).1 this
    rw [if_pos l1, e]
  · rw [Nat.mod_eq_sub_mod (by omega), Nat.mod_eq_of_lt (by omega)] at hv
    have e : u = 2 * v - KK := by
      have : u * (d : Int) = (2 * v - KK) * (d : Int) := by
        rw [hv, Int.sub_mul, Int.mul_assoc, ha, Int.ofNat_sub (by omega), Int.sub_mul]; push_cast
        rw [Int.mul_assoc, Int.mul_comm KK]
      exact Int.eq_of_mul_eq_mul_right (by omega) this
    have l1 : ¬ 2 * v < KK := by
      intro hh
      have : 2 * v * (d : Int) < KK * (d : Int) := Int.mul_lt_mul_of_pos_right hh hd0
      rw [Int.mul_assoc, ha, ← Int.mul_assoc, Int.mul_comm KK] at this
      have := (mul_lt_iff hK).1 this
      omega
    rw [if_neg l1, e]
/-- A diameter. -/
def Dia (l : Lf) : Prop := dbl l.1 = dbl l.2.1
theorem dia_gap {l : Lf} (h : isL l) : Dia l ↔ 2 * gap l = KK := by
  unfold Dia
  rw [eqv (dbl_isA h.1) (dbl_isA h.2.1), dbl_val h.1, dbl_val h.2.1]
  have t := (lt_val h.1 h.2.1).1 h.2.2
  have v1 := val_nonneg h.1
  have v2 := val_lt_KK h.2.1
  unfold gap
  split <;> split <;> omega
theorem fr_det {r : Ang} {D E : Int} (h : Fr r D) (g : Fr r E) : D = E := by
  obtain ⟨h1, h2, h3, h4, h5⟩ := h
  obtain ⟨_, _, _, _, g5⟩ := g
  exact Int.eq_of_mul_eq_mul_right (by omega : r.2.1 ≠ 0) (h5.symm.trans g5)
open Classical in
theorem dia_ok {l : Lf} (h : isL l) : impl_Leaf_isDiameter l = some (decide (Dia l)) ∧ spec_l03Diameter l = some (decide (Dia l)) := by
  constructor
  · obtain ⟨r, r1, r2, r3⟩ := dist_ok h
    unfold impl_Leaf_isDiameter impl_half
    rw [r1]
    simp only [Option.bind_some]
    rw [beqA r ((1 : Int), (2 : Int), ())]
    obtain ⟨H, hH⟩ := KK_even
    have f2 : Fr ((1 : Int), (2 : Int), ()) H := ⟨by simp, by simp, by simp, by decide, by simp only; omega⟩
    have hg := gap_pos h
    have key : r = ((1 : Int), (2 : Int), ()) ↔ Dia l := by
      rw [dia_gap h]
      constructor
      · intro e
        rw [e] at r3
        have := fr_det r3 f2
        unfold dl at this
        split at this <;> omega
      · intro e
        have : dl l = H := by unfold dl; split <;> omega
        rw [this] at r3
        exact fr_uniq r3 f2
    congr 1
    simp only [key]
  · unfold spec_l03Diameter
    rw [spec_dbl h.1, spec_dbl h.2.1]
    simp only [Option.bind_some]
    rw [beqA]
    congr 1
    exact decide_eq_decide.2 Iff.rfl
/-- The leaf that joins two angles. -/
def lfo (a b : Ang) : Lf := if lt b a then (b, a, ()) else (a, b, ())
theorem leaf_ok {a b : Ang} (ha : isA a) (hb : isA b) : impl_leaf a b = some (lfo a b) ∧ spec_l03Of a b = some (lfo a b) := by
  constructor
  · unfold impl_leaf lfo
    rw [impl_compare ha hb]
    simp only [Option.bind_some]
    unfold cmpA
    have t1 := lt_val ha hb
    have t2 := lt_val hb ha
    by_cases h1 : lt a b
    · have h2 : ¬ lt b a := by rw [t2]; rw [t1] at h1; omega
      simp [h1, h2]
    · by_cases h2 : lt b a <;> simp [h1, h2]
  · unfold spec_l03Of lfo
    rw [spec_less hb ha]
    simp only [Option.bind_some]
    by_cases h2 : lt b a <;> simp [h2]
theorem lfo_isL {a b : Ang} (ha : isA a) (hb : isA b) (hne : a ≠ b) : isL (lfo a b) := by
  unfold lfo
  have t1 := lt_val ha hb
  have t2 := lt_val hb ha
  have e := eqv ha hb
  split
  · rename_i h; exact ⟨hb, ha, h⟩
  · rename_i h
    refine ⟨ha, hb, ?_⟩
    show lt a b
    rw [t1]
    rw [t2] at h
    have : ¬ val a = val b := fun h' => hne (e.2 h')
    omega
def imgL (l : Lf) : Lf := lfo (dbl l.1) (dbl l.2.1)
theorem img_ok {l : Lf} (h : isL l) : impl_Leaf_image l = some (imgL l) ∧ spec_l03Image l = some (imgL l) := by
  obtain ⟨h1, h2⟩ := leaf_ok (dbl_isA h.1) (dbl_isA h.2.1)
  constructor
  · unfold impl_Leaf_image
    rw [impl_dbl h.1, impl_dbl h.2.1]
    simp only [Option.bind_some]
    rw [h1]; rfl
  · unfold spec_l03Image
    rw [spec_dbl h.1, spec_dbl h.2.1]
    simp only [Option.bind_some]
    rw [h2]; rfl
theorem img_isL {l : Lf} (h : isL l) (hd : ¬ Dia l) : isL (imgL l) := lfo_isL (dbl_isA h.1) (dbl_isA h.2.1) hd
def h0 (a : Ang) : Ang := angN a.1.toNat (2 * a.2.1.toNat)
def h1 (a : Ang) : Ang := angN (a.1.toNat + a.2.1.toNat) (2 * a.2.1.toNat)
/-- Both halves are within the limit. -/
def lim (a : Ang) : Prop := (h0 a).2.1 ≤ 8191 ∧ (h1 a).2.1 ≤ 8191
instance (a : Ang) : Decidable (lim a) := by unfold lim; infer_instance
theorem halves_ok {a : Ang} (h : isA a) : impl_Angle_halves a = some (h0 a, h1 a) ∧ spec_l01Halves a = some (h0 a, h1 a, decide (lim a)) := by
  obtain ⟨n, d, rfl, p1, p2, p3, p4⟩ := isA_nat h
  have e1 : (2 : Int) * (d : Int) = ((2 * d : Nat) : Int) := by omega
  have e2 : (n : Int) + (d : Int) = ((n + d : Nat) : Int) := by omega
  constructor
  · unfold impl_Angle_halves
    simp only
    rw [e1, e2, w64_nat (by omega), w64_nat (by omega), impl_angN (by omega) (by omega) (by omega), impl_angN (by omega) (by omega) (by omega)]
    rfl
  · unfold spec_l01Halves
    simp only
    rw [e1, e2, w64_nat (by omega), w64_nat (by omega), spec_angN (by omega) (by omega) (by omega), spec_angN (by omega) (by omega) (by omega)]
    simp only [Option.bind_some]
    show (bif decide ((h0 ((n : Int), (d : Int), ())).2.1 ≤ 8191) then some (h0 ((n : Int), (d : Int), ()), h1 ((n : Int), (d : Int), ()), decide ((h1 ((n : Int), (d : Int), ())).2.1 ≤ 8191)) else _) = _
    unfold lim
    by_cases q : (h0 ((n : Int), (d : Int), ())).2.1 ≤ 8191
    · simp [q]
    · simp [q]; exact ⟨rfl, rfl⟩
theorem halves_val {a : Ang} (h : isA a) (hl : lim a) : isA (h0 a) ∧ isA (h1 a) ∧ 2 * val (h0 a) = val a ∧ 2 * val (h1 a) = val a + KK := by
  have hK := KK_pos
  have ha : val a * a.2.1 = a.1 * KK := by
    unfold val
    rw [Int.mul_assoc, Int.mul_comm _ a.2.1, KK_div h]
  obtain ⟨n, d, rfl, p1, p2, p3, p4⟩ := isA_nat h
  have i0 : isA (h0 ((n : Int), (d : Int), ())) := angN_isA (by simp; omega) (by simp; omega) hl.1
  have i1 : isA (h1 ((n : Int), (d : Int), ())) := angN_isA (by simp; omega) (by simp; omega) hl.2
  refine ⟨i0, i1, ?_, ?_⟩
  · have := angN_val (x := n) (D := 2 * d) (by omega) i0
    have e : val (h0 ((n : Int), (d : Int), ())) * ((2 * d : Nat) : Int) = (n : Int) * KK := this
    simp only at ha
    rw [← ha] at e
    have hd : (d : Int) ≠ 0 := by omega
    refine Int.eq_of_mul_eq_mul_right hd ?_
    rw [← e]; push_cast; ac_rfl
  · have := angN_val (x := n + d) (D := 2 * d) (by omega) i1
    have e : val (h1 ((n : Int), (d : Int), ())) * ((2 * d : Nat) : Int) = ((n + d : Nat) : Int) * KK := this
    simp only at ha
    have hd : (d : Int) ≠ 0 := by omega
    refine Int.eq_of_mul_eq_mul_right hd ?_
    rw [Int.add_mul, ha, Int.mul_comm KK, ← Int.add_mul]
    push_cast at e
    rw [← e]; ac_rfl
end Go.K.Pure

/- Plain laws of laminations, part D: looking through lists; images; majors. -/
set_option linter.unusedVariables false
set_option linter.unusedSimpArgs false
namespace Go.K.Pure
open Classical

noncomputable def dec (p : Prop) : Bool := @decide p (Classical.propDecidable p)
theorem dec_pos {p : Prop} (h : p) : dec p = true := decide_eq_true h
theorem dec_neg {p : Prop} (h : ¬ p) : dec p = false := decide_eq_false h
theorem dec_of (p : Prop) [Decidable p] : decide p = dec p := by
  by_cases h : p
  · rw [dec_pos h, decide_eq_true h]
  · rw [dec_neg h, decide_eq_false h]
theorem dec_congr {p q : Prop} (h : p ↔ q) : dec p = dec q := by rw [propext h]
theorem idx_gen {α : Type} {step : α → Option (Ctl α ((Int × Unit) ⊕ Unit))} (st : Nat → α) (n : Nat) (P : Nat → Prop)
    (h1 : ∀ i, i < n → step (st i) = some (if P i then .stop (.inl ((i : Int), ())) else .next (st (i + 1)))) (h2 : step (st n) = some (.stop (.inr ()))) :
    ∃ r : Int, ((loop step (st 0)).bind fun r0 => alt r0 (fun r1 => some (r1.1)) (fun r2 => some ((-1 : Int)))) = some r ∧ (r ≥ 0 ↔ ∃ i, i < n ∧ P i) := by
  rcases loop_first (step := step) st n (.inr ()) (fun i => .inl ((i : Int), ())) P (fun i hi _ => by rw [h1 i hi]; by_cases hp : P i <;> simp [hp, sel_pos, sel_neg]) (fun _ => h2) with ⟨i, h3, h4, h5⟩ | ⟨h3, h4⟩
  · exact ⟨i, by rw [h5]; rfl, ⟨fun _ => ⟨i, h3, h4⟩, fun _ => by omega⟩⟩
  · exact ⟨-1, by rw [h4]; rfl, ⟨fun h => by omega, fun ⟨i, h5, h6⟩ => absurd h6 (h3 i h5)⟩⟩
theorem ex_at {L : List Lf} {P : Lf → Prop} : (∃ i, i < L.length ∧ P (at' L i)) ↔ ∃ l ∈ L, P l :=
  ⟨fun ⟨i, h, p⟩ => ⟨_, at_mem h, p⟩, fun ⟨l, h, p⟩ => by obtain ⟨i, hi, rfl⟩ := mem_at h; exact ⟨i, hi, p⟩⟩
theorem w64_len {n : Nat} (h : n < 4611686018427387904) : w64 ((n : Int) + (1 : Int)) = ((n + 1 : Nat) : Int) := w64_succ h
theorem cf {s : List Lf} {P : Lf → Prop} (hp : ∀ l ∈ s, impl_areAll_impl_Leaf_f1 l = some (dec (P l))) (hl : s.length < 4611686018427387904) : slices_ContainsFunc__impl_Leaf_impl_Leaf s = some (dec (∃ l ∈ s, P l)) := by
  unfold slices_ContainsFunc__impl_Leaf_impl_Leaf slices_IndexFunc__impl_Leaf_impl_Leaf
  obtain ⟨r, r1, r2⟩ := idx_gen (step := slices_IndexFunc__impl_Leaf_impl_Leaf_l0) (fun n => (s, (), (((), ()), ()), ((s.length : Nat) : Int), (n : Int), ())) s.length (fun i => P (at' s i)) (fun i hi => by
    simp only [slices_IndexFunc__impl_Leaf_impl_Leaf_l0, ltb hi, nn, Bool.and_self, cond_true, Int.toNat_natCast]
    have h := hp _ (at_mem hi)
    rw [h]
    simp only [Option.bind_some]
    by_cases hq : P (at' s i)
    · rw [dec_pos hq, cond_true, if_pos hq]
    · rw [dec_neg hq, cond_false, if_neg hq, w64_succ (by omega)]) (by simp only [slices_IndexFunc__impl_Leaf_impl_Leaf_l0, nltb (Nat.lt_irrefl s.length), cond_false])
  have r1' : ((loop slices_IndexFunc__impl_Leaf_impl_Leaf_l0 (s, (), (((), ()), ()), ((s.length : Nat) : Int), (0 : Int), ())).bind fun r0 => alt r0 (fun r1 => some (r1.1)) (fun r2 => some ((-1 : Int)))) = some r := r1
  rw [r1']
  simp only [Option.bind_some]
  rw [dec_of]
  exact congrArg some (dec_congr (r2.trans ex_at))
theorem cf_v2 {s : List Lf} {P : Lf → Prop} (hp : ∀ l ∈ s, impl_areAll_impl_Leaf_f1_v2 l = some (dec (P l))) (hl : s.length < 4611686018427387904) : slices_ContainsFunc__impl_Leaf_impl_Leaf_v2 s = some (dec (∃ l ∈ s, P l)) := by
  unfold slices_ContainsFunc__impl_Leaf_impl_Leaf_v2 slices_IndexFunc__impl_Leaf_impl_Leaf_v2
  obtain ⟨r, r1, r2⟩ := idx_gen (step := slices_IndexFunc__impl_Leaf_impl_Leaf_v2_l0) (fun n => (s, (), (((), ()), ()), ((s.length : Nat) : Int), (n : Int), ())) s.length (fun i => P (at' s i)) (fun i hi => by
    simp only [slices_IndexFunc__impl_Leaf_impl_Leaf_v2_l0, ltb hi, nn, Bool.and_self, cond_true, Int.toNat_natCast]
    have h := hp _ (at_mem hi)
    rw [h]
    simp only [Option.bind_some]
    by_cases hq : P (at' s i)
    · rw [dec_pos hq, cond_true, if_pos hq]
    · rw [dec_neg hq, cond_false, if_neg hq, w64_succ (by omega)]) (by simp only [slices_IndexFunc__impl_Leaf_impl_Leaf_v2_l0, nltb (Nat.lt_irrefl s.length), cond_false])
  have r1' : ((loop slices_IndexFunc__impl_Leaf_impl_Leaf_v2_l0 (s, (), (((), ()), ()), ((s.length : Nat) : Int), (0 : Int), ())).bind fun r0 => alt r0 (fun r1 => some (r1.1)) (fun r2 => some ((-1 : Int)))) = some r := r1
  rw [r1']
  simp only [Option.bind_some]
  rw [dec_of]
  exact congrArg some (dec_congr (r2.trans ex_at))
theorem cf_v4 {s : List Lf} {f : Lf} {P : Lf → Prop} (hp : ∀ l ∈ s, impl_Leaf_cross f l = some (dec (P l))) (hl : s.length < 4611686018427387904) : slices_ContainsFunc__impl_Leaf_impl_Leaf_v4 s f = some (dec (∃ l ∈ s, P l)) := by
  unfold slices_ContainsFunc__impl_Leaf_impl_Leaf_v4 slices_IndexFunc__impl_Leaf_impl_Leaf_v4
  obtain ⟨r, r1, r2⟩ := idx_gen (step := slices_IndexFunc__impl_Leaf_impl_Leaf_v4_l0) (fun n => (s, (f, ()), (), ((s.length : Nat) : Int), (n : Int), ())) s.length (fun i => P (at' s i)) (fun i hi => by
    simp only [slices_IndexFunc__impl_Leaf_impl_Leaf_v4_l0, ltb hi, nn, Bool.and_self, cond_true, Int.toNat_natCast]
    have h := hp _ (at_mem hi)
    rw [h]
    simp only [Option.bind_some]
    by_cases hq : P (at' s i)
    · rw [dec_pos hq, cond_true, if_pos hq]
    · rw [dec_neg hq, cond_false, if_neg hq, w64_succ (by omega)]) (by simp only [slices_IndexFunc__impl_Leaf_impl_Leaf_v4_l0, nltb (Nat.lt_irrefl s.length), cond_false])
  have r1' : ((loop slices_IndexFunc__impl_Leaf_impl_Leaf_v4_l0 (s, (f, ()), (), ((s.length : Nat) : Int), (0 : Int), ())).bind fun r0 => alt r0 (fun r1 => some (r1.1)) (fun r2 => some ((-1 : Int)))) = some r := r1
  rw [r1']
  simp only [Option.bind_some]
  rw [dec_of]
  exact congrArg some (dec_congr (r2.trans ex_at))
theorem cf_v3 {s : List Lf} {f : List Lf} {P : Lf → Prop} (hp : ∀ l ∈ s, impl_haveCross_f1 l f = some (dec (P l))) (hl : s.length < 4611686018427387904) : slices_ContainsFunc__impl_Leaf_impl_Leaf_v3 s f = some (dec (∃ l ∈ s, P l)) := by
  unfold slices_ContainsFunc__impl_Leaf_impl_Leaf_v3 slices_IndexFunc__impl_Leaf_impl_Leaf_v3
  obtain ⟨r, r1, r2⟩ := idx_gen (step := slices_IndexFunc__impl_Leaf_impl_Leaf_v3_l0) (fun n => (s, (), (f, ()), ((s.length : Nat) : Int), (n : Int), ())) s.length (fun i => P (at' s i)) (fun i hi => by
    simp only [slices_IndexFunc__impl_Leaf_impl_Leaf_v3_l0, ltb hi, nn, Bool.and_self, cond_true, Int.toNat_natCast]
    have h := hp _ (at_mem hi)
    rw [h]
    simp only [Option.bind_some]
    by_cases hq : P (at' s i)
    · rw [dec_pos hq, cond_true, if_pos hq]
    · rw [dec_neg hq, cond_false, if_neg hq, w64_succ (by omega)]) (by simp only [slices_IndexFunc__impl_Leaf_impl_Leaf_v3_l0, nltb (Nat.lt_irrefl s.length), cond_false])
  have r1' : ((loop slices_IndexFunc__impl_Leaf_impl_Leaf_v3_l0 (s, (), (f, ()), ((s.length : Nat) : Int), (0 : Int), ())).bind fun r0 => alt r0 (fun r1 => some (r1.1)) (fun r2 => some ((-1 : Int)))) = some r := r1
  rw [r1']
  simp only [Option.bind_some]
  rw [dec_of]
  exact congrArg some (dec_congr (r2.trans ex_at))
theorem cf_v5 {s : List Lf} {f : Lf} {P : Lf → Prop} (hp : ∀ l ∈ s, impl_minorOf_f1 l f = some (dec (P l))) (hl : s.length < 4611686018427387904) : slices_ContainsFunc__impl_Leaf_impl_Leaf_v5 s f = some (dec (∃ l ∈ s, P l)) := by
  unfold slices_ContainsFunc__impl_Leaf_impl_Leaf_v5 slices_IndexFunc__impl_Leaf_impl_Leaf_v5
  obtain ⟨r, r1, r2⟩ := idx_gen (step := slices_IndexFunc__impl_Leaf_impl_Leaf_v5_l0) (fun n => (s, (), (f, ()), ((s.length : Nat) : Int), (n : Int), ())) s.length (fun i => P (at' s i)) (fun i hi => by
    simp only [slices_IndexFunc__impl_Leaf_impl_Leaf_v5_l0, ltb hi, nn, Bool.and_self, cond_true, Int.toNat_natCast]
    have h := hp _ (at_mem hi)
    rw [h]
    simp only [Option.bind_some]
    by_cases hq : P (at' s i)
    · rw [dec_pos hq, cond_true, if_pos hq]
    · rw [dec_neg hq, cond_false, if_neg hq, w64_succ (by omega)]) (by simp only [slices_IndexFunc__impl_Leaf_impl_Leaf_v5_l0, nltb (Nat.lt_irrefl s.length), cond_false])
  have r1' : ((loop slices_IndexFunc__impl_Leaf_impl_Leaf_v5_l0 (s, (), (f, ()), ((s.length : Nat) : Int), (0 : Int), ())).bind fun r0 => alt r0 (fun r1 => some (r1.1)) (fun r2 => some ((-1 : Int)))) = some r := r1
  rw [r1']
  simp only [Option.bind_some]
  rw [dec_of]
  exact congrArg some (dec_congr (r2.trans ex_at))
theorem beqL (l m : Lf) : (((l.1.1 == m.1.1) && ((l.1.2.1 == m.1.2.1) && true)) && (((l.2.1.1 == m.2.1.1) && ((l.2.1.2.1 == m.2.1.2.1) && true)) && true)) = decide (l = m) := by
  rw [beqA l.1 m.1, beqA l.2.1 m.2.1]
  by_cases h : l = m
  · subst h; simp
  · have : ¬ (l.1 = m.1 ∧ l.2.1 = m.2.1) := fun ⟨a, b⟩ => h (leaf_ext a b)
    by_cases h1 : l.1 = m.1
    · have h2 : ¬ l.2.1 = m.2.1 := fun h2 => this ⟨h1, h2⟩
      simp [h, h2]
    · simp [h, h1]
theorem contains_ok {s : List Lf} {v : Lf} (hl : s.length < 4611686018427387904) : slices_Contains__impl_Leaf_impl_Leaf s v = some (dec (v ∈ s)) := by
  unfold slices_Contains__impl_Leaf_impl_Leaf slices_Index__impl_Leaf_impl_Leaf
  obtain ⟨r, r1, r2⟩ := idx_gen (step := slices_Index__impl_Leaf_impl_Leaf_l0) (fun n => (s, v, ((s.length : Nat) : Int), (n : Int), ())) s.length (fun i => v = at' s i) (fun i hi => by
    simp only [slices_Index__impl_Leaf_impl_Leaf_l0, ltb hi, nn, Bool.and_self, cond_true, Int.toNat_natCast]
    rw [beqL v (s.getD i dLf)]
    by_cases hq : v = at' s i
    · have : v = s.getD i dLf := hq
      rw [decide_eq_true this, cond_true, if_pos hq]
    · have : ¬ v = s.getD i dLf := hq
      rw [decide_eq_false this, cond_false, if_neg hq, w64_succ (by omega)]) (by simp only [slices_Index__impl_Leaf_impl_Leaf_l0, nltb (Nat.lt_irrefl s.length), cond_false])
  have r1' : ((loop slices_Index__impl_Leaf_impl_Leaf_l0 (s, v, ((s.length : Nat) : Int), (0 : Int), ())).bind fun r0 => alt r0 (fun r1 => some (r1.1)) (fun r2 => some ((-1 : Int)))) = some r := r1
  rw [r1']
  simp only [Option.bind_some]
  rw [dec_of]
  refine congrArg some (dec_congr (r2.trans ((ex_at (P := fun l => v = l)).trans ⟨?_, fun h => ⟨v, h, rfl⟩⟩)))
  rintro ⟨l, h, rfl⟩
  exact h
/-- The images of a leaf: n more at most. -/
noncomputable def imgF : Nat → Lf → List Lf → List Lf × Bool
  | 0, l, out => if l ∈ out then (out, true) else ([], false)
  | n + 1, l, out => if l ∈ out then (out, true) else if Dia l then (out ++ [l], true) else imgF n (imgL l) (out ++ [l])
theorem imgF_ok : ∀ (n : Nat) {l : Lf} {out : List Lf}, isL l → (∀ x ∈ out, isL x) → out.length + n ≤ 64 → (∀ x ∈ (imgF n l out).1, isL x) ∧ (imgF n l out).1.length ≤ 64 ∧ ((imgF n l out).2 = true → out.length + n = 64 → 0 < n → (imgF n l out).1 ≠ [])
  | 0, l, out, h, ho, hn => by
    unfold imgF
    split
    · exact ⟨ho, by simpa using hn, fun _ _ h => absurd h (Nat.lt_irrefl 0)⟩
    · exact ⟨by simp, by simp, fun _ _ h => absurd h (Nat.lt_irrefl 0)⟩
  | n + 1, l, out, h, ho, hn => by
    have hc : ∀ x ∈ out ++ [l], isL x := fun x hx => by
      rcases List.mem_append.1 hx with hx | hx
      · exact ho x hx
      · rw [List.mem_singleton.1 hx]; exact h
    unfold imgF
    split
    · rename_i hm
      exact ⟨ho, by simp only; omega, fun _ _ _ e => by
        have e' : out = [] := e
        rw [e'] at hm; cases hm⟩
    · split
      · exact ⟨hc, by simp only [List.length_append, List.length_singleton]; omega, fun _ _ _ => by simp⟩
      · rename_i hd
        obtain ⟨i1, i2, i3⟩ := imgF_ok n (img_isL h hd) hc (by simp only [List.length_append, List.length_singleton]; omega)
        refine ⟨i1, i2, fun ht he _ => ?_⟩
        by_cases hn0 : 0 < n
        · exact i3 ht (by simp only [List.length_append, List.length_singleton]; omega) hn0
        · have : n = 0 := by omega
          subst this
          unfold imgF at ht ⊢
          split
          · simp
          · rename_i hq; rw [if_neg hq] at ht; cases ht
theorem impl_imgs : ∀ (n : Nat) {l : Lf} {out : List Lf}, isL l → (∀ x ∈ out, isL x) → out.length + n = 64 →
    ((loop impl_Leaf_images_l0 (l, out, ())).bind fun r0 => alt r0 (fun r1 => some (r1.1, r1.2.1)) (fun r2 => some (r2.1, true))) = some (imgF n l out)
  | n, l, out, h, ho, hn => by
    rw [loop_eq]
    simp only [impl_Leaf_images_l0]
    rw [contains_ok (by omega)]
    simp only [Option.bind_some]
    by_cases hm : l ∈ out
    · rw [dec_pos hm]
      simp only [Bool.not_true, cond_false]
      cases n <;> simp [imgF, hm, alt]
    · rw [dec_neg hm]
      simp only [Bool.not_false, cond_true]
      cases n with
      | zero =>
        have : ((out.length : Nat) : Int) = 64 := by omega
        simp [this, imgF, hm, alt]
      | succ n =>
        have e1 : ((((out.length : Nat) : Int) == (64 : Int))) = false := by simp; omega
        have e2 : decide (((out.length + [l].length) * 32) ≤ 140737488355328) = true := by simp; omega
        rw [e1, e2]
        simp only [cond_false, cond_true]
        rw [(dia_ok h).1]
        simp only [Option.bind_some]
        have hc : ∀ x ∈ out ++ [l], isL x := fun x hx => by
          rcases List.mem_append.1 hx with hx | hx
          · exact ho x hx
          · rw [List.mem_singleton.1 hx]; exact h
        by_cases hd : Dia l
        · simp [hd, imgF, hm, alt]
        · simp only [hd, decide_false, cond_false]
          rw [(img_ok h).1]
          simp only [Option.bind_some]
          rw [impl_imgs n (img_isL h hd) hc (by simp only [List.length_append, List.length_singleton]; omega)]
          simp [imgF, hm, hd]
theorem spec_in_out {l : Lf} {out : List Lf} (hl : out.length < 4611686018427387904) : loop spec_l03Images_l1 (l, out, (0 : Int), ()) = some (if l ∈ out then .inl (true, (out, ())) else .inr (l, out, ())) := by
  have := loop_any (step := spec_l03Images_l1) (fun n => (l, out, (n : Int), ())) out.length (.inr (l, out, ())) (.inl (true, (out, ()))) (fun i => at' out i = l) (fun i hi _ => by
    simp only [spec_l03Images_l1, ltb hi, nn, Bool.and_self, cond_true, Int.toNat_natCast]
    rw [beqL (out.getD i dLf) l]
    by_cases hq : at' out i = l
    · have : out.getD i dLf = l := hq
      rw [sel_pos hq, decide_eq_true this, cond_true]
    · have : ¬ out.getD i dLf = l := hq
      rw [sel_neg hq]
      simp only [this, decide_false, cond_false]
      rw [w64_succ (by omega)]) (fun _ => by simp only [spec_l03Images_l1, nltb (Nat.lt_irrefl out.length), cond_false])
  have t : loop spec_l03Images_l1 (l, out, (0 : Int), ()) = _ := this
  rw [t]
  congr 1
  have e : (∃ i, i < out.length ∧ at' out i = l) ↔ l ∈ out := (ex_at (P := fun x => x = l)).trans ⟨fun ⟨x, h, e⟩ => e ▸ h, fun h => ⟨l, h, rfl⟩⟩
  by_cases hm : l ∈ out
  · rw [sel_pos (e.2 hm), if_pos hm]
  · rw [sel_neg (fun h => hm (e.1 h)), if_neg hm]
theorem spec_imgs : ∀ (n : Nat) {l : Lf} {out : List Lf}, isL l → (∀ x ∈ out, isL x) → out.length + n = 64 →
    ((loop spec_l03Images_l0 (l, out, ())).bind fun r0 => alt r0 (fun r1 => some (r1.2.1, r1.1)) (fun r2 => alt r2 (fun r3 => some (r3.1, r3.2.1)) (fun r4 => some (r4.2.1, r4.1)))) = some (imgF n l out)
  | n, l, out, h, ho, hn => by
    rw [loop_eq]
    simp only [spec_l03Images_l0]
    rw [spec_in_out (by omega)]
    simp only [Option.bind_some]
    by_cases hm : l ∈ out
    · simp only [hm, if_true, alt, Option.bind_some]
      cases n <;> simp [imgF, hm, alt]
    · simp only [hm, if_false, alt]
      cases n with
      | zero =>
        have : ((out.length : Nat) : Int) = 64 := by omega
        simp [this, imgF, hm, alt]
      | succ n =>
        have e1 : ((((out.length : Nat) : Int) == (64 : Int))) = false := by simp; omega
        have e2 : decide (((out.length + [l].length) * 32) ≤ 140737488355328) = true := by simp; omega
        rw [e1, e2]
        simp only [cond_false, cond_true]
        rw [(dia_ok h).2]
        simp only [Option.bind_some]
        have hc : ∀ x ∈ out ++ [l], isL x := fun x hx => by
          rcases List.mem_append.1 hx with hx | hx
          · exact ho x hx
          · rw [List.mem_singleton.1 hx]; exact h
        by_cases hd : Dia l
        · simp [hd, imgF, hm, alt]
        · simp only [hd, decide_false, cond_false]
          rw [(img_ok h).2]
          simp only [Option.bind_some]
          have := spec_imgs n (img_isL h hd) hc (by simp only [List.length_append, List.length_singleton]; omega)
          refine this.trans ?_
          simp [imgF, hm, hd]
noncomputable def imgs (l : Lf) : List Lf × Bool := imgF 64 l []
theorem images_ok {l : Lf} (h : isL l) : impl_Leaf_images l = some (imgs l) ∧ spec_l03Images l = some (imgs l) := by
  constructor
  · unfold impl_Leaf_images
    rw [impl_imgs 64 h (by simp) rfl]; rfl
  · unfold spec_l03Images
    rw [spec_imgs 64 h (by simp) rfl]; rfl
theorem imgs_isL {l : Lf} (h : isL l) : (∀ x ∈ (imgs l).1, isL x) ∧ (imgs l).1.length ≤ 64 ∧ ((imgs l).2 = true → (imgs l).1 ≠ []) := by
  obtain ⟨h1, h2, h3⟩ := imgF_ok 64 h (out := []) (by simp) (by simp)
  exact ⟨h1, h2, fun h => h3 h rfl (by omega)⟩
end Go.K.Pure

/- Plain laws of laminations, part E: pairs of leaves, limits, majors, what is joined. -/
set_option linter.unusedVariables false
set_option linter.unusedSimpArgs false
namespace Go.K.Pure
open Classical

/-- Two leaves in order. -/
noncomputable def pr (l m : Lf) : List Lf := if ltL m l then [m, l] else [l, m]
theorem pr_len {l m : Lf} : (pr l m).length = 2 := by unfold pr; split <;> rfl
theorem pr_mem {l m x : Lf} : x ∈ pr l m ↔ x = l ∨ x = m := by
  unfold pr; split <;> simp [or_comm]
theorem two_ok {l m : Lf} (hl : isL l) (hm : isL m) : impl_two l m = some (pr l m) ∧ spec_l05Pair l m = some (pr l m) := by
  constructor
  · obtain ⟨r, r1, r2, r3⟩ := impl_compareL hl hm
    unfold impl_two pr
    rw [r1]
    simp only [Option.bind_some]
    by_cases h : ltL m l
    · have : decide (r > 0) = true := decide_eq_true (r3.2 h)
      rw [this, cond_true, if_pos h]
    · have : decide (r > 0) = false := decide_eq_false (fun h' => h (r3.1 h'))
      rw [this, cond_false, if_neg h]
  · unfold spec_l05Pair pr
    rw [spec_lessL hm hl]
    simp only [Option.bind_some]
    by_cases h : ltL m l <;> simp [h]
theorem cmp_tot (a b : Ang) : ∃ r, impl_Angle_compare a b = some r := by
  unfold impl_Angle_compare
  rw [impl_cmp]
  exact ⟨_, rfl⟩
theorem leaf_tot (a b : Ang) : ∃ l, impl_leaf a b = some l ∧ (l = (a, b, ()) ∨ l = (b, a, ())) := by
  obtain ⟨r, h⟩ := cmp_tot a b
  unfold impl_leaf
  rw [h]
  simp only [Option.bind_some]
  cases decide (r > 0)
  · exact ⟨_, rfl, .inl rfl⟩
  · exact ⟨_, rfl, .inr rfl⟩
theorem two_tot (l m : Lf) : ∃ L, impl_two l m = some L ∧ (L = [l, m] ∨ L = [m, l]) := by
  obtain ⟨r, h1⟩ := cmp_tot l.1 m.1
  obtain ⟨s, h2⟩ := cmp_tot l.2.1 m.2.1
  unfold impl_two impl_Leaf_compare
  rw [h1, h2]
  simp only [Option.bind_some, or2]
  cases decide ((if r ≠ 0 then r else s) > 0)
  · exact ⟨_, rfl, .inl rfl⟩
  · exact ⟨_, rfl, .inr rfl⟩
/-- Within the limit. -/
def lm (l : Lf) : Prop := l.1.2.1 ≤ 8191 ∧ l.2.1.2.1 ≤ 8191
def nlm (l : Lf) : Prop := ¬ lm l
theorem limited_ok {L : List Lf} (hl : L.length < 4611686018427387904) : impl_areLimited_v2 L = some (if ∀ l ∈ L, lm l then (L, 0) else ([], 3)) := by
  unfold impl_areLimited_v2 impl_areAll_impl_Leaf_v2
  rw [cf_v2 (s := L) (P := nlm) (fun l hl => by
    unfold impl_areAll_impl_Leaf_f1_v2 impl_areLimited_f1
    simp only [Option.bind_some]
    congr 1
    have : ((if (l.2.1.2.1 > l.1.2.1) then l.2.1.2.1 else l.1.2.1) ≤ (8191 : Int)) ↔ lm l := by
      unfold lm; split <;> omega
    by_cases hq : lm l
    · rw [decide_eq_true (this.2 hq), dec_neg (show ¬ nlm l from fun h => h hq)]; rfl
    · rw [decide_eq_false (fun h => hq (this.1 h)), dec_pos (show nlm l from hq)]; rfl) hl]
  simp only [Option.bind_some]
  by_cases h : ∀ l ∈ L, lm l
  · have : ¬ ∃ l ∈ L, nlm l := fun ⟨l, h1, h2⟩ => h2 (h l h1)
    rw [dec_neg this, if_pos h]; rfl
  · have : ∃ l ∈ L, nlm l := Classical.byContradiction fun h' => h fun l hl => Classical.byContradiction fun h'' => h' ⟨l, hl, h''⟩
    rw [dec_pos this, if_neg h]; rfl
theorem quad_tot (p q r s : Ang) : ∃ x y L, impl_leaf p q = some x ∧ impl_leaf r s = some y ∧ impl_two x y = some L ∧
    impl_areLimited_v2 L = some (if p.2.1 ≤ 8191 ∧ q.2.1 ≤ 8191 ∧ r.2.1 ≤ 8191 ∧ s.2.1 ≤ 8191 then (L, 0) else ([], 3)) := by
  obtain ⟨x, h1, h2⟩ := leaf_tot p q
  obtain ⟨y, h3, h4⟩ := leaf_tot r s
  obtain ⟨L, h5, h6⟩ := two_tot x y
  refine ⟨x, y, L, h1, h3, h5, ?_⟩
  rw [limited_ok (by rcases h6 with rfl | rfl <;> simp)]
  have hx : lm x ↔ p.2.1 ≤ 8191 ∧ q.2.1 ≤ 8191 := by unfold lm; rcases h2 with rfl | rfl <;> simp [and_comm]
  have hy : lm y ↔ r.2.1 ≤ 8191 ∧ s.2.1 ≤ 8191 := by unfold lm; rcases h4 with rfl | rfl <;> simp [and_comm]
  have : (∀ l ∈ L, lm l) ↔ p.2.1 ≤ 8191 ∧ q.2.1 ≤ 8191 ∧ r.2.1 ≤ 8191 ∧ s.2.1 ≤ 8191 := by
    rw [← and_assoc, ← hx, ← hy]
    rcases h6 with rfl | rfl <;> simp [and_comm]
  simp only [this]
theorem quad_ok {p q r s : Ang} (hp : isA p) (hq : isA q) (hr : isA r) (hs : isA s) (h1 : p ≠ q) (h2 : r ≠ s) : ∃ x y, impl_leaf p q = some x ∧ impl_leaf r s = some y ∧ impl_two x y = some (pr (lfo p q) (lfo r s)) ∧
    impl_areLimited_v2 (pr (lfo p q) (lfo r s)) = some (pr (lfo p q) (lfo r s), 0) := by
  obtain ⟨x, y, L, a1, a2, a3, a4⟩ := quad_tot p q r s
  have b1 := (leaf_ok hp hq).1
  have b2 := (leaf_ok hr hs).1
  rw [a1] at b1
  rw [a2] at b2
  cases b1
  cases b2
  have b3 := (two_ok (lfo_isL hp hq h1) (lfo_isL hr hs h2)).1
  rw [a3] at b3
  cases b3
  rw [if_pos ⟨hp.2.1, hq.2.1, hr.2.1, hs.2.1⟩] at a4
  exact ⟨_, _, a1, a2, a3, a4⟩
theorem half_ne {a b : Ang} (ha : isA a) (hb : isA b) (la : lim a) (lb : lim b) : h0 a ≠ h1 b := by
  obtain ⟨_, _, v1, _⟩ := halves_val ha la
  obtain ⟨_, _, _, v2⟩ := halves_val hb lb
  intro e
  rw [e] at v1
  have := val_nonneg hb
  have := val_lt_KK ha
  omega
theorem h0_ne {a b : Ang} (ha : isA a) (hb : isA b) (la : lim a) (lb : lim b) (h : a ≠ b) : h0 a ≠ h0 b ∧ h1 a ≠ h1 b := by
  obtain ⟨_, _, v1, v3⟩ := halves_val ha la
  obtain ⟨_, _, v2, v4⟩ := halves_val hb lb
  have e := eqv ha hb
  exact ⟨fun e' => h (e.2 (by rw [e'] at v1; omega)), fun e' => h (e.2 (by rw [e'] at v3; omega))⟩
/-- The ends of a leaf, so that one goes forward its length from one to the other. -/
noncomputable def ends (l : Lf) : Ang × Ang := if KK - gap l < gap l then (l.2.1, l.1) else (l.1, l.2.1)
noncomputable def mj (l : Lf) : List Lf := pr (lfo (h0 (ends l).2) (h1 (ends l).1)) (lfo (h0 (ends l).1) (h1 (ends l).2))
theorem ends_isA {l : Lf} (h : isL l) : isA (ends l).1 ∧ isA (ends l).2 := by
  unfold ends; split
  · exact ⟨h.2.1, h.1⟩
  · exact ⟨h.1, h.2.1⟩
def limM (l : Lf) : Prop := lim (ends l).1 ∧ lim (ends l).2
theorem mj_isL {l : Lf} (h : isL l) (hl : limM l) : ∀ x ∈ mj l, isL x := by
  obtain ⟨ha, hb⟩ := ends_isA h
  obtain ⟨a1, a2, _, _⟩ := halves_val ha hl.1
  obtain ⟨b1, b2, _, _⟩ := halves_val hb hl.2
  intro x hx
  rcases pr_mem.1 hx with rfl | rfl
  · exact lfo_isL b1 a2 (half_ne hb ha hl.2 hl.1)
  · exact lfo_isL a1 b2 (half_ne ha hb hl.1 hl.2)
theorem maj_impl {a b : Ang} (ha : isA a) (hb : isA b) : ((impl_leaf (h0 b) (h1 a)).bind fun r4 => (impl_leaf (h0 a) (h1 b)).bind fun r5 => (impl_two r4 r5).bind fun r6 => (impl_areLimited_v2 r6).bind fun r7 => some (r7.1, r7.2)) =
    some (sel (lim a ∧ lim b) (pr (lfo (h0 b) (h1 a)) (lfo (h0 a) (h1 b)), 0) ([], 3)) := by
  by_cases hl : lim a ∧ lim b
  · obtain ⟨a1, a2, _, _⟩ := halves_val ha hl.1
    obtain ⟨b1, b2, _, _⟩ := halves_val hb hl.2
    obtain ⟨x, y, q1, q2, q3, q4⟩ := quad_ok b1 a2 a1 b2 (half_ne hb ha hl.2 hl.1) (half_ne ha hb hl.1 hl.2)
    rw [q1, q2]
    simp only [Option.bind_some]
    rw [q3]
    simp only [Option.bind_some]
    rw [q4, sel_pos hl]; rfl
  · obtain ⟨x, y, L, q1, q2, q3, q4⟩ := quad_tot (h0 b) (h1 a) (h0 a) (h1 b)
    rw [q1, q2]
    simp only [Option.bind_some]
    rw [q3]
    simp only [Option.bind_some]
    rw [q4, sel_neg hl, if_neg (fun ⟨c1, c2, c3, c4⟩ => hl ⟨⟨c3, c2⟩, ⟨c1, c4⟩⟩)]; rfl
theorem majors_ok {l : Lf} (h : isL l) : impl_Leaf_majors l = some (sel (limM l) (mj l, 0) ([], 3)) ∧ spec_l05Majors l = some (sel (limM l) (mj l, true) ([], false)) := by
  obtain ⟨x, x1, x2, x3⟩ := minus_fr h.1 h.2.1
  obtain ⟨r, r1, r2, r3⟩ := dist_ok h
  have hg := gap_pos h
  have t := (lt_val h.1 h.2.1).1 h.2.2
  have dx : dv l.2.1 l.1 = gap l := by unfold dv gap; rw [if_pos (by omega)]
  rw [dx] at x3
  have hxr : x = r ↔ ¬ KK - gap l < gap l := by
    constructor
    · intro e
      rw [e] at x3
      have := fr_det x3 r3
      unfold dl at this
      split at this <;> omega
    · intro e
      have : dl l = gap l := by unfold dl; rw [if_neg e]
      rw [this] at r3
      exact fr_uniq x3 r3
  constructor
  · unfold impl_Leaf_majors
    rw [x1, r1]
    simp only [Option.bind_some]
    rw [beqA x r, (halves_ok h.1).1, (halves_ok h.2.1).1]
    simp only [Option.bind_some]
    unfold limM mj ends
    by_cases hc : KK - gap l < gap l
    · rw [decide_eq_false (fun e => hxr.1 e hc), if_pos hc, Bool.not_false, cond_true]
      exact maj_impl h.2.1 h.1
    · rw [decide_eq_true (hxr.2 hc), if_neg hc, Bool.not_true, cond_false]
      exact maj_impl h.1 h.2.1
  · unfold spec_l05Majors
    have he : spec_l05Ends l = some (ends l) := by
      unfold spec_l05Ends ends
      rw [x2]
      simp only [Option.bind_some]
      have hK := KK_pos
      obtain ⟨y1, y2, y3, y4, y5⟩ := x3
      rw [w64_id (by omega) (by omega)]
      have hd : 0 < x.2.1 := by omega
      have key : 2 * x.1 > x.2.1 ↔ KK - gap l < gap l := by
        have e1 : x.2.1 * KK < 2 * x.1 * KK ↔ x.2.1 < 2 * x.1 := mul_lt_iff hK
        have e2 : KK * x.2.1 < 2 * gap l * x.2.1 ↔ KK < 2 * gap l := mul_lt_iff hd
        rw [Int.mul_assoc, y5, ← Int.mul_assoc, Int.mul_comm x.2.1 KK, e2] at e1
        have : 2 * x.1 > x.2.1 ↔ KK < 2 * gap l := e1.symm
        rw [this]; omega
      by_cases hc : KK - gap l < gap l
      · rw [decide_eq_true (key.2 hc), cond_true, if_pos hc]
      · rw [decide_eq_false (fun h => hc (key.1 h)), cond_false, if_neg hc]
    rw [he]
    simp only [Option.bind_some]
    obtain ⟨ha, hb⟩ := ends_isA h
    rw [(halves_ok ha).2, (halves_ok hb).2]
    simp only [Option.bind_some]
    by_cases l1 : lim (ends l).1
    · by_cases l2 : lim (ends l).2
      · obtain ⟨a1, a2, _, _⟩ := halves_val ha l1
        obtain ⟨b1, b2, _, _⟩ := halves_val hb l2
        rw [decide_eq_true l1, decide_eq_true l2, sel_pos (show limM l from ⟨l1, l2⟩)]
        simp only [Bool.not_true, cond_false]
        rw [(leaf_ok b1 a2).2, (leaf_ok a1 b2).2]
        simp only [Option.bind_some]
        rw [(two_ok (lfo_isL b1 a2 (half_ne hb ha l2 l1)) (lfo_isL a1 b2 (half_ne ha hb l1 l2))).2]
        rfl
      · rw [decide_eq_true l1, decide_eq_false l2, sel_neg (show ¬ limM l from fun h => l2 h.2)]
        rfl
    · rw [decide_eq_false l1, sel_neg (show ¬ limM l from fun h => l1 h.1)]
      rfl
noncomputable def W0 (l : Lf) : List Lf := pr (lfo (h0 l.1) (h0 l.2.1)) (lfo (h1 l.1) (h1 l.2.1))
noncomputable def W1 (l : Lf) : List Lf := pr (lfo (h0 l.1) (h1 l.2.1)) (lfo (h1 l.1) (h0 l.2.1))
def limW (l : Lf) : Prop := lim l.1 ∧ lim l.2.1
theorem leaf_ne {l : Lf} (h : isL l) : l.1 ≠ l.2.1 := fun e => by
  have := (lt_val h.1 h.2.1).1 h.2.2
  rw [e] at this; omega
theorem W_isL {l : Lf} (h : isL l) (hl : limW l) : (∀ x ∈ W0 l, isL x) ∧ ∀ x ∈ W1 l, isL x := by
  obtain ⟨a1, a2, _, _⟩ := halves_val h.1 hl.1
  obtain ⟨b1, b2, _, _⟩ := halves_val h.2.1 hl.2
  have n1 := h0_ne h.1 h.2.1 hl.1 hl.2 (leaf_ne h)
  constructor
  · intro x hx
    rcases pr_mem.1 hx with rfl | rfl
    · exact lfo_isL a1 b1 n1.1
    · exact lfo_isL a2 b2 n1.2
  · intro x hx
    rcases pr_mem.1 hx with rfl | rfl
    · exact lfo_isL a1 b2 (half_ne h.1 h.2.1 hl.1 hl.2)
    · exact lfo_isL a2 b1 (half_ne h.2.1 h.1 hl.2 hl.1).symm
theorem ways_ok {l : Lf} (h : isL l) : (limW l → impl_Leaf_ways l = some (W0 l, W1 l) ∧ impl_areLimited_v2 (W0 l) = some (W0 l, 0)) ∧ (¬ limW l → ∃ p, impl_Leaf_ways l = some p ∧ impl_areLimited_v2 p.1 = some ([], 3)) := by
  unfold impl_Leaf_ways
  rw [(halves_ok h.1).1, (halves_ok h.2.1).1]
  simp only [Option.bind_some]
  constructor
  · intro hl
    obtain ⟨a1, a2, _, _⟩ := halves_val h.1 hl.1
    obtain ⟨b1, b2, _, _⟩ := halves_val h.2.1 hl.2
    have n1 := h0_ne h.1 h.2.1 hl.1 hl.2 (leaf_ne h)
    obtain ⟨x, y, q1, q2, q3, q4⟩ := quad_ok a1 b1 a2 b2 n1.1 n1.2
    obtain ⟨x', y', p1, p2, p3, p4⟩ := quad_ok a1 b2 a2 b1 (half_ne h.1 h.2.1 hl.1 hl.2) (half_ne h.2.1 h.1 hl.2 hl.1).symm
    rw [q1, q2, p1, p2]
    simp only [Option.bind_some]
    rw [q3, p3]
    exact ⟨rfl, q4⟩
  · intro hl
    obtain ⟨x, y, L, q1, q2, q3, q4⟩ := quad_tot (h0 l.1) (h0 l.2.1) (h1 l.1) (h1 l.2.1)
    obtain ⟨x', y', L', p1, p2, p3, p4⟩ := quad_tot (h0 l.1) (h1 l.2.1) (h1 l.1) (h0 l.2.1)
    rw [q1, q2, p1, p2]
    simp only [Option.bind_some]
    rw [q3, p3]
    refine ⟨_, rfl, ?_⟩
    rw [q4, if_neg (fun ⟨c1, c2, c3, c4⟩ => hl ⟨⟨c1, c3⟩, ⟨c2, c4⟩⟩)]
end Go.K.Pure

/- Plain laws of laminations, part F: products of two words; which pair is shorter. -/
set_option linter.unusedVariables false
set_option linter.unusedSimpArgs false
namespace Go.K.Pure
open Classical

theorem wu64_id {n : Int} (h1 : 0 ≤ n) (h2 : n < 18446744073709551616) : wu64 n = n := by
  simp [wu64, IntKind.wrap, IntKind.bits, IntKind.signed]; omega
theorem and32 {x : Int} (h1 : 0 ≤ x) (h2 : x < 18446744073709551616) : (((BitVec.toNat (HAnd.hAnd (BitVec.ofInt 64 x) (BitVec.ofInt 64 (4294967295 : Int)))) : Nat) : Int) = x % 4294967296 := by
  obtain ⟨n, rfl⟩ := Int.eq_ofNat_of_zero_le h1
  have hn : n < 2 ^ 64 := by omega
  have e1 : BitVec.ofInt 64 (n : Int) = BitVec.ofNat 64 n := by simp
  have e2 : BitVec.ofInt 64 (4294967295 : Int) = BitVec.ofNat 64 4294967295 := by decide
  rw [e1, e2]
  have : BitVec.toNat (HAnd.hAnd (BitVec.ofNat 64 n) (BitVec.ofNat 64 4294967295)) = n &&& 4294967295 := by
    rw [BitVec.toNat_and, BitVec.toNat_ofNat, BitVec.toNat_ofNat, Nat.mod_eq_of_lt hn]
  rw [this, show 4294967295 = 2 ^ 32 - 1 from rfl, Nat.and_two_pow_sub_one_eq_mod]
  rfl
theorem sh32 : ((2 : Int) ^ (min (32 : Int).toNat 64)) = 4294967296 := by decide
theorem fd {x : Int} (h : 0 ≤ x) : x.fdiv 4294967296 = x / 4294967296 := Int.fdiv_eq_ediv_of_nonneg _ (by omega)
theorem mul64_ok {x y : Int} (hx : 0 ≤ x) (hx2 : x < 18446744073709551616) (hy : 0 ≤ y) (hy2 : y < 18446744073709551616) :
    ∃ hi lo : Int, math_bits_Mul64 x y = some (hi, lo) ∧ 0 ≤ lo ∧ lo < 18446744073709551616 ∧ hi * 18446744073709551616 + lo = x * y := by
  have t : decide ((0 : Int) ≤ (32 : Int)) = true := by decide
  unfold math_bits_Mul64
  simp only [t, cond_true]
  rw [sh32, and32 hx hx2, and32 hy hy2, fd hx, fd hy]
  generalize hx1 : x / 4294967296 = x1
  generalize hx0 : x % 4294967296 = x0
  generalize hy1 : y / 4294967296 = y1
  generalize hy0 : y % 4294967296 = y0
  have ex : x = x1 * 4294967296 + x0 := by omega
  have ey : y = y1 * 4294967296 + y0 := by omega
  have bx1 : 0 ≤ x1 ∧ x1 ≤ 4294967295 := by omega
  have bx0 : 0 ≤ x0 ∧ x0 ≤ 4294967295 := by omega
  have by1 : 0 ≤ y1 ∧ y1 ≤ 4294967295 := by omega
  have by0 : 0 ≤ y0 ∧ y0 ≤ 4294967295 := by omega
  have mb : ∀ {a b : Int}, 0 ≤ a ∧ a ≤ 4294967295 → 0 ≤ b ∧ b ≤ 4294967295 → 0 ≤ a * b ∧ a * b ≤ 18446744065119617025 := fun ha hb =>
    ⟨Int.mul_nonneg ha.1 hb.1, by have := Int.mul_le_mul ha.2 hb.2 hb.1 (by omega); omega⟩
  have p00 := mb bx0 by0
  have p10 := mb bx1 by0
  have p01 := mb bx0 by1
  have p11 := mb bx1 by1
  have hxy : x * y = (x1 * y1) * 18446744073709551616 + (x1 * y0 + x0 * y1) * 4294967296 + x0 * y0 := by
    rw [ex, ey, Int.add_mul, Int.mul_add, Int.mul_add]
    have e1 : x1 * 4294967296 * (y1 * 4294967296) = x1 * y1 * 18446744073709551616 := by
      rw [show (18446744073709551616 : Int) = 4294967296 * 4294967296 by decide]; ac_rfl
    have e2 : x1 * 4294967296 * y0 = x1 * y0 * 4294967296 := by ac_rfl
    have e3 : x0 * (y1 * 4294967296) = x0 * y1 * 4294967296 := by ac_rfl
    rw [e1, e2, e3, Int.add_mul]; omega
  rw [wu64_id (n := y0) (by omega) (by omega), wu64_id (n := x0) (by omega) (by omega)]
  generalize x1 * y1 = a11 at *
  generalize x1 * y0 = a10 at *
  generalize x0 * y1 = a01 at *
  generalize x0 * y0 = a00 at *
  rw [wu64_id (n := a00) (by omega) (by omega), wu64_id (n := a10) (by omega) (by omega), wu64_id (n := a01) (by omega) (by omega), wu64_id (n := a11) (by omega) (by omega), fd p00.1]
  rw [wu64_id (n := a10 + a00 / 4294967296) (by omega) (by omega)]
  rw [and32 (by omega) (by omega), fd (show 0 ≤ a10 + a00 / 4294967296 by omega), wu64_id (n := (a10 + a00 / 4294967296) % 4294967296) (by omega) (by omega)]
  rw [wu64_id (n := a11 + (a10 + a00 / 4294967296) / 4294967296) (by omega) (by omega), wu64_id (n := (a10 + a00 / 4294967296) % 4294967296 + a01) (by omega) (by omega), fd (by omega)]
  have hz : 0 ≤ x * y := Int.mul_nonneg hx hy
  rw [wu64_id (n := a11 + (a10 + a00 / 4294967296) / 4294967296 + _) (by omega) (by omega)]
  refine ⟨_, _, rfl, ?_, ?_, ?_⟩
  · simp only [wu64, IntKind.wrap, IntKind.bits, IntKind.signed]
    exact Int.emod_nonneg _ (by decide)
  · simp only [wu64, IntKind.wrap, IntKind.bits, IntKind.signed]
    exact Int.emod_lt_of_pos _ (by decide)
  · have : wu64 (x * y) = (x * y) % 18446744073709551616 := by
      simp [wu64, IntKind.wrap, IntKind.bits, IntKind.signed]
    rw [this]
    omega
end Go.K.Pure

/- Plain laws of laminations, part G: which way is shorter. -/
set_option linter.unusedVariables false
set_option linter.unusedSimpArgs false
namespace Go.K.Pure
open Classical

/-- Two leaves of one length. -/
def Two (L : List Lf) (D : Int) : Prop := ∃ x y, L = [x, y] ∧ isL x ∧ isL y ∧ dl x = D ∧ dl y = D
theorem sum_ok {L : List Lf} {D : Int} (h : Two L D) : ∃ r, Fr r D ∧ impl_sum L = some (2 * (r.1 * r.2.1), r.2.1 * r.2.1) := by
  obtain ⟨x, y, rfl, hx, hy, dx, dy⟩ := h
  obtain ⟨r, r1, _, r3⟩ := dist_ok hx
  obtain ⟨s, s1, _, s3⟩ := dist_ok hy
  rw [dx] at r3
  rw [dy] at s3
  have e := fr_uniq s3 r3
  subst e
  refine ⟨s, r3, ?_⟩
  unfold impl_sum
  have t0 : ((decide ((0 : Int) ≤ (0 : Int))) && (decide ((0 : Int) < (([x, y].length : Nat) : Int)))) = true := by simp
  have t1 : ((decide ((0 : Int) ≤ (1 : Int))) && (decide ((1 : Int) < (([x, y].length : Nat) : Int)))) = true := by simp
  rw [t0, t1]
  simp only [cond_true]
  have g0 : [x, y].getD (0 : Int).toNat dLf = x := rfl
  have g1 : [x, y].getD (1 : Int).toNat dLf = y := rfl
  rw [g0, g1, r1, s1]
  simp only [Option.bind_some]
  have b := fr_bnd r3 r3
  obtain ⟨h1, h2, h3, h4, h5⟩ := r3
  have b2 : 0 ≤ s.2.1 * s.2.1 ∧ s.2.1 * s.2.1 ≤ 4501401006735361 := ⟨Int.mul_nonneg (by omega) (by omega), by have := Int.mul_le_mul h3 h3 (by omega) (by omega); omega⟩
  rw [w64_id (n := s.1 * s.2.1) (by omega) (by omega), w64_id (n := s.2.1 * s.2.1) (by omega) (by omega), w64_id (by omega) (by omega)]
  congr 2
  omega
theorem less_ok {L M : List Lf} {D E : Int} (hL : Two L D) (hM : Two M E) : impl_isLess L M = some (decide (D < E)) ∧ spec_l05Less L M = some (decide (D < E)) := by
  constructor
  · obtain ⟨r, r3, h1⟩ := sum_ok hL
    obtain ⟨s, s3, h2⟩ := sum_ok hM
    unfold impl_isLess
    rw [h1, h2]
    simp only [Option.bind_some]
    have br := fr_bnd r3 r3
    have bs := fr_bnd s3 s3
    have lt := fr_lt r3 s3
    obtain ⟨p1, p2, p3, p4, p5⟩ := r3
    obtain ⟨q1, q2, q3, q4, q5⟩ := s3
    have b2 : 0 ≤ r.2.1 * r.2.1 ∧ r.2.1 * r.2.1 ≤ 4501401006735361 := ⟨Int.mul_nonneg (by omega) (by omega), by have := Int.mul_le_mul p3 p3 (by omega) (by omega); omega⟩
    have c2 : 0 ≤ s.2.1 * s.2.1 ∧ s.2.1 * s.2.1 ≤ 4501401006735361 := ⟨Int.mul_nonneg (by omega) (by omega), by have := Int.mul_le_mul q3 q3 (by omega) (by omega); omega⟩
    rw [wu64_id (n := 2 * (r.1 * r.2.1)) (by omega) (by omega), wu64_id (n := s.2.1 * s.2.1) (by omega) (by omega), wu64_id (n := 2 * (s.1 * s.2.1)) (by omega) (by omega), wu64_id (n := r.2.1 * r.2.1) (by omega) (by omega)]
    obtain ⟨hi, lo, m1, m2, m3, m4⟩ := mul64_ok (x := 2 * (r.1 * r.2.1)) (y := s.2.1 * s.2.1) (by omega) (by omega) (by omega) (by omega)
    obtain ⟨hj, lp, n1, n2, n3, n4⟩ := mul64_ok (x := 2 * (s.1 * s.2.1)) (y := r.2.1 * r.2.1) (by omega) (by omega) (by omega) (by omega)
    rw [m1, n1]
    simp only [Option.bind_some]
    have hd : 0 < 2 * (r.2.1 * s.2.1) := Int.mul_pos (by omega) (Int.mul_pos (by omega) (by omega))
    have key : D < E ↔ 2 * (r.1 * r.2.1) * (s.2.1 * s.2.1) < 2 * (s.1 * s.2.1) * (r.2.1 * r.2.1) := by
      rw [← lt, ← mul_lt_iff hd]
      have e1 : r.1 * s.2.1 * (2 * (r.2.1 * s.2.1)) = 2 * (r.1 * r.2.1) * (s.2.1 * s.2.1) := by ac_rfl
      have e2 : s.1 * r.2.1 * (2 * (r.2.1 * s.2.1)) = 2 * (s.1 * s.2.1) * (r.2.1 * r.2.1) := by ac_rfl
      rw [e1, e2]
    rw [← m4, ← n4] at key
    by_cases c1 : hi < hj
    · rw [decide_eq_true c1, cond_true, decide_eq_true (key.2 (by omega))]
    · rw [decide_eq_false c1, cond_false]
      by_cases c2 : hi = hj
      · subst c2
        simp only [beq_self_eq_true, cond_true]
        congr 1
        exact decide_eq_decide.2 (by rw [key]; omega)
      · have : (hi == hj) = false := by simpa using c2
        rw [this, cond_false, decide_eq_false (fun h => by have := key.1 h; omega)]
  · obtain ⟨x, y, rfl, hx, hy, dx, dy⟩ := hL
    obtain ⟨u, v, rfl, hu, hv, du, dv'⟩ := hM
    obtain ⟨r, _, r1, r3⟩ := dist_ok hx
    obtain ⟨s, _, s1, s3⟩ := dist_ok hu
    unfold spec_l05Less
    have t0 : ∀ (a b : Lf), ((decide ((0 : Int) ≤ (0 : Int))) && (decide ((0 : Int) < (([a, b].length : Nat) : Int)))) = true := by intros; simp
    rw [t0, t0]
    simp only [cond_true]
    have g0 : ∀ (a b : Lf), [a, b].getD (0 : Int).toNat dLf = a := fun _ _ => rfl
    rw [g0, g0, r1, s1]
    simp only [Option.bind_some]
    rw [fr_less r3 s3, dx, du]
    rfl
theorem lfo_gap {a b : Ang} (ha : isA a) (hb : isA b) (h : val a < val b) : lfo a b = (a, b, ()) ∧ gap (lfo a b) = val b - val a := by
  unfold lfo
  have t := lt_val hb ha
  rw [if_neg (by rw [t]; omega)]
  exact ⟨rfl, rfl⟩
theorem lfo_gap' {a b : Ang} (ha : isA a) (hb : isA b) (h : val b < val a) : lfo a b = (b, a, ()) ∧ gap (lfo a b) = val a - val b := by
  unfold lfo
  have t := lt_val hb ha
  rw [if_pos (by rw [t]; omega)]
  exact ⟨rfl, rfl⟩
theorem two_pr {l m : Lf} {D : Int} (hl : isL l) (hm : isL m) (h1 : dl l = D) (h2 : dl m = D) : Two (pr l m) D := by
  unfold pr
  split
  · exact ⟨_, _, rfl, hm, hl, h2, h1⟩
  · exact ⟨_, _, rfl, hl, hm, h1, h2⟩
theorem W_two {l : Lf} (h : isL l) (hl : limW l) : ∃ D E, Two (W0 l) D ∧ Two (W1 l) E := by
  obtain ⟨a1, a2, a3, a4⟩ := halves_val h.1 hl.1
  obtain ⟨b1, b2, b3, b4⟩ := halves_val h.2.1 hl.2
  obtain ⟨i0, i1⟩ := W_isL h hl
  have t := (lt_val h.1 h.2.1).1 h.2.2
  have v1 := val_nonneg h.1
  have v2 := val_lt_KK h.2.1
  have v3 := val_lt_KK h.1
  have v4 := val_nonneg h.2.1
  have g1 := (lfo_gap a1 b1 (by omega)).2
  have g2 := (lfo_gap a2 b2 (by omega)).2
  have g3 := (lfo_gap a1 b2 (by omega)).2
  have g4 := (lfo_gap' a2 b1 (by omega)).2
  refine ⟨dl (lfo (h0 l.1) (h0 l.2.1)), dl (lfo (h0 l.1) (h1 l.2.1)), two_pr (i0 _ (pr_mem.2 (.inl rfl))) (i0 _ (pr_mem.2 (.inr rfl))) rfl ?_, two_pr (i1 _ (pr_mem.2 (.inl rfl))) (i1 _ (pr_mem.2 (.inr rfl))) rfl ?_⟩
  · unfold dl; rw [g1, g2]; split <;> split <;> omega
  · unfold dl; rw [g3, g4]; split <;> split <;> omega
end Go.K.Pure

