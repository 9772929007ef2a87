/- Part 1 of the plain law: the functions of the program as plain functions on lists and numbers, and what is shown of them; no condition. -/
import Derived.Test.YtcipifnjcfboeaaS1
set_option linter.all false
set_option linter.all false
set_option maxRecDepth 100000
namespace Go.K.Pure
abbrev w64 (n : Int) : Int := IntKind.wrap .i64 n
abbrev wi32 (n : Int) : Int := IntKind.wrap .i32 n
abbrev wu8 (n : Int) : Int := IntKind.wrap .u8 n
abbrev wu32 (n : Int) : Int := IntKind.wrap .u32 n
abbrev wu64 (n : Int) : Int := IntKind.wrap .u64 n
noncomputable def laws_szLeafS (a : List ((Int × (Int × Unit)) × ((Int × (Int × Unit)) × Unit))) (left : Int) : Option (Int) :=
  bif (decide ((w64 (left - ((a.length : Nat) : Int))) < (0 : Int))) then
   some ((-1 : Int))
  else some ((w64 (left - ((a.length : Nat) : Int))))
noncomputable def laws_toAngle (a : (Int × (Int × Unit))) : Option ((Int × (Int × Unit))) :=
  some ((a.1, a.2.1, ()))
noncomputable def laws_toLeaf (a : ((Int × (Int × Unit)) × ((Int × (Int × Unit)) × Unit))) : Option (((Int × (Int × Unit)) × ((Int × (Int × Unit)) × Unit))) :=
  (laws_toAngle a.1).bind fun r0 =>
  (laws_toAngle a.2.1).bind fun r1 =>
  some ((r0, r1, ()))
noncomputable def laws_toLeafS_l0 : (List ((Int × (Int × Unit)) × ((Int × (Int × Unit)) × Unit))) × (List ((Int × (Int × Unit)) × ((Int × (Int × Unit)) × Unit))) × Int × Unit → Option (Ctl ((List ((Int × (Int × Unit)) × ((Int × (Int × Unit)) × Unit))) × (List ((Int × (Int × Unit)) × ((Int × (Int × Unit)) × Unit))) × Int × Unit) (((List ((Int × (Int × Unit)) × ((Int × (Int × Unit)) × Unit))) × Unit)))
  | (a, (out, (i, ()))) =>
    bif (decide (i < ((a.length : Nat) : Int))) then
   bif ((decide ((0 : Int) ≤ i)) && (decide (i < ((a.length : Nat) : Int)))) then
    (laws_toLeaf (a.getD i.toNat (((0 : Int), (0 : Int), ()), ((0 : Int), (0 : Int), ()), ()))).bind fun r0 =>
    bif ((decide ((0 : Int) ≤ i)) && (decide (i < ((out.length : Nat) : Int)))) then
     some (.next (a, ((out.set i.toNat r0), ((w64 (i + (1 : Int))), ()))))
    else none
   else none
  else some (.stop ((out, ())))
noncomputable def laws_toLeafS (a : List ((Int × (Int × Unit)) × ((Int × (Int × Unit)) × Unit))) : Option ((List ((Int × (Int × Unit)) × ((Int × (Int × Unit)) × Unit)))) :=
  bif (((decide ((0 : Int) ≤ ((a.length : Nat) : Int))) && (decide (((a.length : Nat) : Int) ≤ ((a.length : Nat) : Int)))) && (decide ((((a.length : Nat) : Int) * ((32 : Nat) : Int)) ≤ (140737488355328 : Int)))) then
   (loop laws_toLeafS_l0 (a, (List.replicate ((a.length : Nat) : Int).toNat (((0 : Int), (0 : Int), ()), ((0 : Int), (0 : Int), ()), ())), (0 : Int), ())).bind fun r0 =>
   some (r0.1)
  else none
noncomputable def spec_l01In (n : Int) (low : Int) (high : Int) : Option (Bool) :=
  bif (decide (n ≥ low)) then
   some ((decide (n ≤ high)))
  else some (false)
noncomputable def spec_l01Divisor_l0 : Int × Int × Unit → Option (Ctl (Int × Int × Unit) ((Int × Unit)))
  | (a, (b, ())) =>
    bif (decide (b > (0 : Int))) then
   bif (!(b == (0 : Int))) then
    some (.next (b, ((a.tmod b), ())))
   else none
  else some (.stop ((a, ())))
noncomputable def spec_l01Divisor (a : Int) (b : Int) : Option (Int) :=
  (loop spec_l01Divisor_l0 (a, b, ())).bind fun r0 =>
  some (r0.1)
noncomputable def spec_l01Is (a : (Int × (Int × Unit))) : Option (Bool) :=
  (spec_l01In a.2.1 (1 : Int) (8191 : Int)).bind fun r0 =>
  bif r0 then
   (spec_l01In a.1 (0 : Int) (w64 (a.2.1 - (1 : Int)))).bind fun r1 =>
   bif r1 then
    (spec_l01Divisor a.1 a.2.1).bind fun r2 =>
    some ((r2 == (1 : Int)))
   else some (false)
  else some (false)
noncomputable def spec_l01Less (a : (Int × (Int × Unit))) (b : (Int × (Int × Unit))) : Option (Bool) :=
  some ((decide ((w64 (a.1 * b.2.1)) < (w64 (b.1 * a.2.1)))))
noncomputable def spec_l03Is (l : ((Int × (Int × Unit)) × ((Int × (Int × Unit)) × Unit))) : Option (Bool) :=
  (spec_l01Is l.1).bind fun r0 =>
  bif r0 then
   (spec_l01Is l.2.1).bind fun r1 =>
   bif r1 then
    (spec_l01Less l.1 l.2.1).bind fun r2 =>
    some (r2)
   else some (false)
  else some (false)
noncomputable def spec_l03Less (l : ((Int × (Int × Unit)) × ((Int × (Int × Unit)) × Unit))) (m : ((Int × (Int × Unit)) × ((Int × (Int × Unit)) × Unit))) : Option (Bool) :=
  bif (!((l.1.1 == m.1.1) && ((l.1.2.1 == m.1.2.1) && true))) then
   (spec_l01Less l.1 m.1).bind fun r0 =>
   some (r0)
  else (spec_l01Less l.2.1 m.2.1).bind fun r1 =>
   some (r1)
noncomputable def spec_l01Within (x : (Int × (Int × Unit))) (a : (Int × (Int × Unit))) (b : (Int × (Int × Unit))) : Option (Bool) :=
  (spec_l01Less a b).bind fun r0 =>
  bif r0 then
   (spec_l01Less a x).bind fun r1 =>
   bif r1 then
    (spec_l01Less x b).bind fun r2 =>
    some (r2)
   else some (false)
  else (spec_l01Less a x).bind fun r3 =>
   bif r3 then
    some (true)
   else (spec_l01Less x b).bind fun r4 =>
    some (r4)
noncomputable def spec_l03Cross (l : ((Int × (Int × Unit)) × ((Int × (Int × Unit)) × Unit))) (m : ((Int × (Int × Unit)) × ((Int × (Int × Unit)) × Unit))) : Option (Bool) :=
  bif ((l.1.1 == m.1.1) && ((l.1.2.1 == m.1.2.1) && true)) then
   some (false)
  else bif ((l.1.1 == m.2.1.1) && ((l.1.2.1 == m.2.1.2.1) && true)) then
    some (false)
   else bif ((l.2.1.1 == m.1.1) && ((l.2.1.2.1 == m.1.2.1) && true)) then
     some (false)
    else bif ((l.2.1.1 == m.2.1.1) && ((l.2.1.2.1 == m.2.1.2.1) && true)) then
      some (false)
     else (spec_l01Within l.1 m.1 m.2.1).bind fun r0 =>
      (spec_l01Within l.2.1 m.1 m.2.1).bind fun r1 =>
      some ((!(r0 == r1)))
noncomputable def spec_l03Lamination_l1 : (List ((Int × (Int × Unit)) × ((Int × (Int × Unit)) × Unit))) × Int × Int × Unit → Option (Ctl ((List ((Int × (Int × Unit)) × ((Int × (Int × Unit)) × Unit))) × Int × Int × Unit) ((Bool × Unit) ⊕ ((List ((Int × (Int × Unit)) × ((Int × (Int × Unit)) × Unit))) × Int × Unit)))
  | (list, (i, (k, ()))) =>
    bif (decide (k < i)) then
   bif ((decide ((0 : Int) ≤ i)) && (decide (i < ((list.length : Nat) : Int)))) then
    bif ((decide ((0 : Int) ≤ k)) && (decide (k < ((list.length : Nat) : Int)))) then
     (spec_l03Cross (list.getD i.toNat (((0 : Int), (0 : Int), ()), ((0 : Int), (0 : Int), ()), ())) (list.getD k.toNat (((0 : Int), (0 : Int), ()), ((0 : Int), (0 : Int), ()), ()))).bind fun r0 =>
     bif r0 then
      some (.stop (.inl (false, ())))
     else some (.next (list, (i, ((w64 (k + (1 : Int))), ()))))
    else none
   else none
  else some (.stop (.inr ((list, (i, ())))))
noncomputable def spec_l03Lamination_l0 : (List ((Int × (Int × Unit)) × ((Int × (Int × Unit)) × Unit))) × Int × Unit → Option (Ctl ((List ((Int × (Int × Unit)) × ((Int × (Int × Unit)) × Unit))) × Int × Unit) ((Bool × Unit) ⊕ (Unit)))
  | (list, (i, ())) =>
    bif (decide (i < ((list.length : Nat) : Int))) then
   bif ((decide ((0 : Int) ≤ i)) && (decide (i < ((list.length : Nat) : Int)))) then
    (spec_l03Is (list.getD i.toNat (((0 : Int), (0 : Int), ()), ((0 : Int), (0 : Int), ()), ()))).bind fun r0 =>
    bif (!r0) then
     some (.stop (.inl (false, ())))
    else bif (decide (i > (0 : Int))) then
      bif ((decide ((0 : Int) ≤ (w64 (i - (1 : Int))))) && (decide ((w64 (i - (1 : Int))) < ((list.length : Nat) : Int)))) then
       bif ((decide ((0 : Int) ≤ i)) && (decide (i < ((list.length : Nat) : Int)))) then
        (spec_l03Less (list.getD (w64 (i - (1 : Int))).toNat (((0 : Int), (0 : Int), ()), ((0 : Int), (0 : Int), ()), ())) (list.getD i.toNat (((0 : Int), (0 : Int), ()), ((0 : Int), (0 : Int), ()), ()))).bind fun r1 =>
        bif (!r1) then
         some (.stop (.inl (false, ())))
        else (loop spec_l03Lamination_l1 (list, i, (0 : Int), ())).bind fun r2 =>
         alt r2 (fun r3 =>
          some (.stop (.inl (r3.1, ()))))
         (fun r4 =>
          some (.next (r4.1, ((w64 (r4.2.1 + (1 : Int))), ()))))
       else none
      else none
     else (loop spec_l03Lamination_l1 (list, i, (0 : Int), ())).bind fun r5 =>
      alt r5 (fun r6 =>
       some (.stop (.inl (r6.1, ()))))
      (fun r7 =>
       some (.next (r7.1, ((w64 (r7.2.1 + (1 : Int))), ()))))
   else none
  else some (.stop (.inr (())))
noncomputable def spec_l03Lamination (list : List ((Int × (Int × Unit)) × ((Int × (Int × Unit)) × Unit))) : Option (Bool) :=
  bif (decide (((list.length : Nat) : Int) > (200 : Int))) then
   some (false)
  else (loop spec_l03Lamination_l0 (list, (0 : Int), ())).bind fun r0 =>
   alt r0 (fun r1 =>
    some (r1.1))
   (fun r2 =>
    some (true))
noncomputable def spec_l01Insert_l0 : (List (Int × (Int × Unit))) × ((Int × (Int × Unit))) × Int × Unit → Option (Ctl ((List (Int × (Int × Unit))) × ((Int × (Int × Unit))) × Int × Unit) (((List (Int × (Int × Unit))) × ((Int × (Int × Unit))) × Int × Unit)))
  | (list, (a, (at', ()))) =>
    bif (decide (at' < ((list.length : Nat) : Int))) then
   bif ((decide ((0 : Int) ≤ at')) && (decide (at' < ((list.length : Nat) : Int)))) then
    (spec_l01Less (list.getD at'.toNat ((0 : Int), (0 : Int), ())) a).bind fun r0 =>
    bif r0 then
     some (.next (list, (a, ((w64 (at' + (1 : Int))), ()))))
    else some (.stop ((list, (a, (at', ())))))
   else none
  else some (.stop ((list, (a, (at', ())))))
noncomputable def spec_l01Insert (list : List (Int × (Int × Unit))) (a : (Int × (Int × Unit))) : Option ((List (Int × (Int × Unit)))) :=
  (loop spec_l01Insert_l0 (list, a, (0 : Int), ())).bind fun r0 =>
  bif (decide (r0.2.2.1 < ((r0.1.length : Nat) : Int))) then
   bif ((decide ((0 : Int) ≤ r0.2.2.1)) && (decide (r0.2.2.1 < ((r0.1.length : Nat) : Int)))) then
    bif (((r0.1.getD r0.2.2.1.toNat ((0 : Int), (0 : Int), ())).1 == r0.2.1.1) && (((r0.1.getD r0.2.2.1.toNat ((0 : Int), (0 : Int), ())).2.1 == r0.2.1.2.1) && true)) then
     some (r0.1)
    else bif (((decide ((0 : Int) ≤ r0.2.2.1)) && (decide (r0.2.2.1 ≤ ((r0.1.length : Nat) : Int)))) && (decide (((r0.1.length : Nat) : Int) ≤ ((r0.1.length : Nat) : Int)))) then
      bif (decide ((([r0.2.1].length + ((r0.1.take ((r0.1.length : Nat) : Int).toNat).drop r0.2.2.1.toNat).length) * 16) ≤ 140737488355328)) then
       bif (((decide ((0 : Int) ≤ (0 : Int))) && (decide ((0 : Int) ≤ r0.2.2.1))) && (decide (r0.2.2.1 ≤ ((r0.1.length : Nat) : Int)))) then
        bif (decide (((([] : List (Int × (Int × Unit))).length + ((r0.1.take r0.2.2.1.toNat).drop (0 : Int).toNat).length) * 16) ≤ 140737488355328)) then
         bif (decide ((((([] : List (Int × (Int × Unit))) ++ ((r0.1.take r0.2.2.1.toNat).drop (0 : Int).toNat)).length + ([r0.2.1] ++ ((r0.1.take ((r0.1.length : Nat) : Int).toNat).drop r0.2.2.1.toNat)).length) * 16) ≤ 140737488355328)) then
          some (((([] : List (Int × (Int × Unit))) ++ ((r0.1.take r0.2.2.1.toNat).drop (0 : Int).toNat)) ++ ([r0.2.1] ++ ((r0.1.take ((r0.1.length : Nat) : Int).toNat).drop r0.2.2.1.toNat))))
         else none
        else none
       else none
      else none
     else none
   else none
  else bif (((decide ((0 : Int) ≤ r0.2.2.1)) && (decide (r0.2.2.1 ≤ ((r0.1.length : Nat) : Int)))) && (decide (((r0.1.length : Nat) : Int) ≤ ((r0.1.length : Nat) : Int)))) then
    bif (decide ((([r0.2.1].length + ((r0.1.take ((r0.1.length : Nat) : Int).toNat).drop r0.2.2.1.toNat).length) * 16) ≤ 140737488355328)) then
     bif (((decide ((0 : Int) ≤ (0 : Int))) && (decide ((0 : Int) ≤ r0.2.2.1))) && (decide (r0.2.2.1 ≤ ((r0.1.length : Nat) : Int)))) then
      bif (decide (((([] : List (Int × (Int × Unit))).length + ((r0.1.take r0.2.2.1.toNat).drop (0 : Int).toNat).length) * 16) ≤ 140737488355328)) then
       bif (decide ((((([] : List (Int × (Int × Unit))) ++ ((r0.1.take r0.2.2.1.toNat).drop (0 : Int).toNat)).length + ([r0.2.1] ++ ((r0.1.take ((r0.1.length : Nat) : Int).toNat).drop r0.2.2.1.toNat)).length) * 16) ≤ 140737488355328)) then
        some (((([] : List (Int × (Int × Unit))) ++ ((r0.1.take r0.2.2.1.toNat).drop (0 : Int).toNat)) ++ ([r0.2.1] ++ ((r0.1.take ((r0.1.length : Nat) : Int).toNat).drop r0.2.2.1.toNat))))
       else none
      else none
     else none
    else none
   else none
noncomputable def spec_l03Ends_l0 : (List ((Int × (Int × Unit)) × ((Int × (Int × Unit)) × Unit))) × (List (Int × (Int × Unit))) × Int × Unit → Option (Ctl ((List ((Int × (Int × Unit)) × ((Int × (Int × Unit)) × Unit))) × (List (Int × (Int × Unit))) × Int × Unit) (((List (Int × (Int × Unit))) × Unit)))
  | (list, (out, (i, ()))) =>
    bif (decide (i < ((list.length : Nat) : Int))) then
   bif ((decide ((0 : Int) ≤ i)) && (decide (i < ((list.length : Nat) : Int)))) then
    (spec_l01Insert out (list.getD i.toNat (((0 : Int), (0 : Int), ()), ((0 : Int), (0 : Int), ()), ())).1).bind fun r0 =>
    bif ((decide ((0 : Int) ≤ i)) && (decide (i < ((list.length : Nat) : Int)))) then
     (spec_l01Insert r0 (list.getD i.toNat (((0 : Int), (0 : Int), ()), ((0 : Int), (0 : Int), ()), ())).2.1).bind fun r1 =>
     some (.next (list, (r1, ((w64 (i + (1 : Int))), ()))))
    else none
   else none
  else some (.stop ((out, ())))
noncomputable def spec_l03Ends (list : List ((Int × (Int × Unit)) × ((Int × (Int × Unit)) × Unit))) : Option ((List (Int × (Int × Unit)))) :=
  (loop spec_l03Ends_l0 (list, ([] : List (Int × (Int × Unit))), (0 : Int), ())).bind fun r0 =>
  some (r0.1)
noncomputable def spec_l05Classes_l2 : (List ((Int × (Int × Unit)) × ((Int × (Int × Unit)) × Unit))) × (List (Int × (Int × Unit))) × (List (List (Int × (Int × Unit)))) × Int × Bool × Int × Int × Unit → Option (Ctl ((List ((Int × (Int × Unit)) × ((Int × (Int × Unit)) × Unit))) × (List (Int × (Int × Unit))) × (List (List (Int × (Int × Unit)))) × Int × Bool × Int × Int × Unit) (((List ((Int × (Int × Unit)) × ((Int × (Int × Unit)) × Unit))) × (List (Int × (Int × Unit))) × (List (List (Int × (Int × Unit)))) × Int × Bool × Int × Unit)))
  | (list, (ends, (out, (i, (known, (k, (j, ()))))))) =>
    bif ((decide ((0 : Int) ≤ k)) && (decide (k < ((out.length : Nat) : Int)))) then
   bif (decide (j < (((out.getD k.toNat ([] : List (Int × (Int × Unit)))).length : Nat) : Int))) then
    bif known then
     some (.next (list, (ends, (out, (i, (true, (k, ((w64 (j + (1 : Int))), ()))))))))
    else bif ((decide ((0 : Int) ≤ k)) && (decide (k < ((out.length : Nat) : Int)))) then
      bif ((decide ((0 : Int) ≤ j)) && (decide (j < (((out.getD k.toNat ([] : List (Int × (Int × Unit)))).length : Nat) : Int)))) then
       bif ((decide ((0 : Int) ≤ i)) && (decide (i < ((ends.length : Nat) : Int)))) then
        some (.next (list, (ends, (out, (i, (((((out.getD k.toNat ([] : List (Int × (Int × Unit)))).getD j.toNat ((0 : Int), (0 : Int), ())).1 == (ends.getD i.toNat ((0 : Int), (0 : Int), ())).1) && ((((out.getD k.toNat ([] : List (Int × (Int × Unit)))).getD j.toNat ((0 : Int), (0 : Int), ())).2.1 == (ends.getD i.toNat ((0 : Int), (0 : Int), ())).2.1) && true)), (k, ((w64 (j + (1 : Int))), ()))))))))
       else none
      else none
     else none
   else some (.stop ((list, (ends, (out, (i, (known, (k, ()))))))))
  else none
noncomputable def spec_l05Classes_l1 : (List ((Int × (Int × Unit)) × ((Int × (Int × Unit)) × Unit))) × (List (Int × (Int × Unit))) × (List (List (Int × (Int × Unit)))) × Int × Bool × Int × Unit → Option (Ctl ((List ((Int × (Int × Unit)) × ((Int × (Int × Unit)) × Unit))) × (List (Int × (Int × Unit))) × (List (List (Int × (Int × Unit)))) × Int × Bool × Int × Unit) (((List ((Int × (Int × Unit)) × ((Int × (Int × Unit)) × Unit))) × (List (Int × (Int × Unit))) × (List (List (Int × (Int × Unit)))) × Int × Bool × Unit)))
  | (list, (ends, (out, (i, (known, (k, ())))))) =>
    bif (decide (k < ((out.length : Nat) : Int))) then
   (loop spec_l05Classes_l2 (list, ends, out, i, known, k, (0 : Int), ())).bind fun r0 =>
   some (.next (r0.1, (r0.2.1, (r0.2.2.1, (r0.2.2.2.1, (r0.2.2.2.2.1, ((w64 (r0.2.2.2.2.2.1 + (1 : Int))), ())))))))
  else some (.stop ((list, (ends, (out, (i, (known, ())))))))
noncomputable def spec_l05Classes_l5 : (List ((Int × (Int × Unit)) × ((Int × (Int × Unit)) × Unit))) × (List (Int × (Int × Unit))) × (List (List (Int × (Int × Unit)))) × Int × (List (Int × (Int × Unit))) × Int × Int × Int × Unit → Option (Ctl ((List ((Int × (Int × Unit)) × ((Int × (Int × Unit)) × Unit))) × (List (Int × (Int × Unit))) × (List (List (Int × (Int × Unit)))) × Int × (List (Int × (Int × Unit))) × Int × Int × Int × Unit) (((List ((Int × (Int × Unit)) × ((Int × (Int × Unit)) × Unit))) × (List (Int × (Int × Unit))) × (List (List (Int × (Int × Unit)))) × Int × (List (Int × (Int × Unit))) × Int × Int × Unit)))
  | (list, (ends, (out, (i, (own, (size, (k, (j, ())))))))) =>
    bif (decide (j < size)) then
   bif ((decide ((0 : Int) ≤ j)) && (decide (j < ((own.length : Nat) : Int)))) then
    bif ((decide ((0 : Int) ≤ k)) && (decide (k < ((list.length : Nat) : Int)))) then
     bif (((own.getD j.toNat ((0 : Int), (0 : Int), ())).1 == (list.getD k.toNat (((0 : Int), (0 : Int), ()), ((0 : Int), (0 : Int), ()), ())).1.1) && (((own.getD j.toNat ((0 : Int), (0 : Int), ())).2.1 == (list.getD k.toNat (((0 : Int), (0 : Int), ()), ((0 : Int), (0 : Int), ()), ())).1.2.1) && true)) then
      bif ((decide ((0 : Int) ≤ k)) && (decide (k < ((list.length : Nat) : Int)))) then
       (spec_l01Insert own (list.getD k.toNat (((0 : Int), (0 : Int), ()), ((0 : Int), (0 : Int), ()), ())).1).bind fun r0 =>
       bif ((decide ((0 : Int) ≤ k)) && (decide (k < ((list.length : Nat) : Int)))) then
        (spec_l01Insert r0 (list.getD k.toNat (((0 : Int), (0 : Int), ()), ((0 : Int), (0 : Int), ()), ())).2.1).bind fun r1 =>
        some (.stop ((list, (ends, (out, (i, (r1, (size, (k, ())))))))))
       else none
      else none
     else bif ((decide ((0 : Int) ≤ j)) && (decide (j < ((own.length : Nat) : Int)))) then
       bif ((decide ((0 : Int) ≤ k)) && (decide (k < ((list.length : Nat) : Int)))) then
        bif (((own.getD j.toNat ((0 : Int), (0 : Int), ())).1 == (list.getD k.toNat (((0 : Int), (0 : Int), ()), ((0 : Int), (0 : Int), ()), ())).2.1.1) && (((own.getD j.toNat ((0 : Int), (0 : Int), ())).2.1 == (list.getD k.toNat (((0 : Int), (0 : Int), ()), ((0 : Int), (0 : Int), ()), ())).2.1.2.1) && true)) then
         bif ((decide ((0 : Int) ≤ k)) && (decide (k < ((list.length : Nat) : Int)))) then
          (spec_l01Insert own (list.getD k.toNat (((0 : Int), (0 : Int), ()), ((0 : Int), (0 : Int), ()), ())).1).bind fun r2 =>
          bif ((decide ((0 : Int) ≤ k)) && (decide (k < ((list.length : Nat) : Int)))) then
           (spec_l01Insert r2 (list.getD k.toNat (((0 : Int), (0 : Int), ()), ((0 : Int), (0 : Int), ()), ())).2.1).bind fun r3 =>
           some (.stop ((list, (ends, (out, (i, (r3, (size, (k, ())))))))))
          else none
         else none
        else some (.next (list, (ends, (out, (i, (own, (size, (k, ((w64 (j + (1 : Int))), ())))))))))
       else none
      else none
    else none
   else none
  else some (.stop ((list, (ends, (out, (i, (own, (size, (k, ())))))))))
noncomputable def spec_l05Classes_l4 : (List ((Int × (Int × Unit)) × ((Int × (Int × Unit)) × Unit))) × (List (Int × (Int × Unit))) × (List (List (Int × (Int × Unit)))) × Int × (List (Int × (Int × Unit))) × Int × Int × Unit → Option (Ctl ((List ((Int × (Int × Unit)) × ((Int × (Int × Unit)) × Unit))) × (List (Int × (Int × Unit))) × (List (List (Int × (Int × Unit)))) × Int × (List (Int × (Int × Unit))) × Int × Int × Unit) (((List ((Int × (Int × Unit)) × ((Int × (Int × Unit)) × Unit))) × (List (Int × (Int × Unit))) × (List (List (Int × (Int × Unit)))) × Int × (List (Int × (Int × Unit))) × Int × Unit)))
  | (list, (ends, (out, (i, (own, (size, (k, ()))))))) =>
    bif (decide (k < ((list.length : Nat) : Int))) then
   (loop spec_l05Classes_l5 (list, ends, out, i, own, size, k, (0 : Int), ())).bind fun r0 =>
   some (.next (r0.1, (r0.2.1, (r0.2.2.1, (r0.2.2.2.1, (r0.2.2.2.2.1, (r0.2.2.2.2.2.1, ((w64 (r0.2.2.2.2.2.2.1 + (1 : Int))), ()))))))))
  else some (.stop ((list, (ends, (out, (i, (own, (size, ()))))))))
noncomputable def spec_l05Classes_l3 : (List ((Int × (Int × Unit)) × ((Int × (Int × Unit)) × Unit))) × (List (Int × (Int × Unit))) × (List (List (Int × (Int × Unit)))) × Int × (List (Int × (Int × Unit))) × Int × Unit → Option (Ctl ((List ((Int × (Int × Unit)) × ((Int × (Int × Unit)) × Unit))) × (List (Int × (Int × Unit))) × (List (List (Int × (Int × Unit)))) × Int × (List (Int × (Int × Unit))) × Int × Unit) (((List ((Int × (Int × Unit)) × ((Int × (Int × Unit)) × Unit))) × (List (Int × (Int × Unit))) × (List (List (Int × (Int × Unit)))) × Int × (List (Int × (Int × Unit))) × Unit)))
  | (list, (ends, (out, (i, (own, (size, ())))))) =>
    bif (decide (size < ((own.length : Nat) : Int))) then
   (loop spec_l05Classes_l4 (list, ends, out, i, own, ((own.length : Nat) : Int), (0 : Int), ())).bind fun r0 =>
   some (.next (r0.1, (r0.2.1, (r0.2.2.1, (r0.2.2.2.1, (r0.2.2.2.2.1, (r0.2.2.2.2.2.1, ())))))))
  else some (.stop ((list, (ends, (out, (i, (own, ())))))))
noncomputable def spec_l05Classes_l0 : (List ((Int × (Int × Unit)) × ((Int × (Int × Unit)) × Unit))) × (List (Int × (Int × Unit))) × (List (List (Int × (Int × Unit)))) × Int × Unit → Option (Ctl ((List ((Int × (Int × Unit)) × ((Int × (Int × Unit)) × Unit))) × (List (Int × (Int × Unit))) × (List (List (Int × (Int × Unit)))) × Int × Unit) (((List (List (Int × (Int × Unit)))) × Unit)))
  | (list, (ends, (out, (i, ())))) =>
    bif (decide (i < ((ends.length : Nat) : Int))) then
   (loop spec_l05Classes_l1 (list, ends, out, i, false, (0 : Int), ())).bind fun r0 =>
   bif r0.2.2.2.2.1 then
    some (.next (r0.1, (r0.2.1, (r0.2.2.1, ((w64 (r0.2.2.2.1 + (1 : Int))), ())))))
   else bif ((decide ((0 : Int) ≤ r0.2.2.2.1)) && (decide (r0.2.2.2.1 < ((r0.2.1.length : Nat) : Int)))) then
     (loop spec_l05Classes_l3 (r0.1, r0.2.1, r0.2.2.1, r0.2.2.2.1, [(r0.2.1.getD r0.2.2.2.1.toNat ((0 : Int), (0 : Int), ()))], (0 : Int), ())).bind fun r1 =>
     bif (decide (((r1.2.2.1.length + [r1.2.2.2.2.1].length) * 24) ≤ 140737488355328)) then
      some (.next (r1.1, (r1.2.1, ((r1.2.2.1 ++ [r1.2.2.2.2.1]), ((w64 (r1.2.2.2.1 + (1 : Int))), ())))))
     else none
    else none
  else some (.stop ((out, ())))
noncomputable def spec_l05Classes (list : List ((Int × (Int × Unit)) × ((Int × (Int × Unit)) × Unit))) : Option ((List (List (Int × (Int × Unit))))) :=
  (spec_l03Ends list).bind fun r0 =>
  (loop spec_l05Classes_l0 (list, r0, ([] : List (List (Int × (Int × Unit)))), (0 : Int), ())).bind fun r1 =>
  some (r1.1)
noncomputable def spec_EndClasses (list : List ((Int × (Int × Unit)) × ((Int × (Int × Unit)) × Unit))) : Option ((List (List (Int × (Int × Unit)))) × Int) :=
  (spec_l03Lamination list).bind fun r0 =>
  bif (!r0) then
   some (([] : List (List (Int × (Int × Unit)))), (1 : Int))
  else (spec_l05Classes list).bind fun r1 =>
   some (r1, (0 : Int))
noncomputable def impl_within (n : Int) (low : Int) (high : Int) : Option (Bool) :=
  bif (decide (low ≤ n)) then
   some ((decide (n ≤ high)))
  else some (false)
noncomputable def impl_divisor_l0 : Int × Int × Unit → Option (Ctl (Int × Int × Unit) ((Int × Unit)))
  | (a, (b, ())) =>
    bif (b != (0 : Int)) then
   bif (!(b == (0 : Int))) then
    some (.next (b, ((a.tmod b), ())))
   else none
  else some (.stop ((a, ())))
noncomputable def impl_divisor (a : Int) (b : Int) : Option (Int) :=
  (loop impl_divisor_l0 (a, b, ())).bind fun r0 =>
  some (r0.1)
noncomputable def impl_IsAngle (a : (Int × (Int × Unit))) : Option (Bool) :=
  (impl_within a.2.1 (1 : Int) (8191 : Int)).bind fun r0 =>
  bif r0 then
   (impl_within a.1 (0 : Int) (w64 (a.2.1 - (1 : Int)))).bind fun r1 =>
   bif r1 then
    (impl_divisor a.2.1 a.1).bind fun r2 =>
    some ((r2 == (1 : Int)))
   else some (false)
  else some (false)
noncomputable def cmp_isNaN_int64 (x : Int) : Option (Bool) :=
  some ((x != x))
noncomputable def cmp_Compare_int64 (x : Int) (y : Int) : Option (Int) :=
  (cmp_isNaN_int64 x).bind fun r0 =>
  (cmp_isNaN_int64 y).bind fun r1 =>
  bif r0 then
   bif r1 then
    some ((0 : Int))
   else some ((-1 : Int))
  else bif r1 then
    some ((1 : Int))
   else bif (decide (x < y)) then
     some ((-1 : Int))
    else bif (decide (x > y)) then
      some ((1 : Int))
     else some ((0 : Int))
noncomputable def impl_Angle_compare (a : (Int × (Int × Unit))) (b : (Int × (Int × Unit))) : Option (Int) :=
  (cmp_Compare_int64 (w64 (a.1 * b.2.1)) (w64 (b.1 * a.2.1))).bind fun r0 =>
  some (r0)
noncomputable def impl_IsLeaf (l : ((Int × (Int × Unit)) × ((Int × (Int × Unit)) × Unit))) : Option (Bool) :=
  (impl_IsAngle l.1).bind fun r0 =>
  bif r0 then
   (impl_IsAngle l.2.1).bind fun r1 =>
   bif r1 then
    (impl_Angle_compare l.1 l.2.1).bind fun r2 =>
    some ((decide (r2 < (0 : Int))))
   else some (false)
  else some (false)
noncomputable def impl_areAll_impl_Leaf_f1 (x : ((Int × (Int × Unit)) × ((Int × (Int × Unit)) × Unit))) : Option (Bool) :=
  (impl_IsLeaf x).bind fun r0 =>
  some ((!r0))
noncomputable def slices_IndexFunc__impl_Leaf_impl_Leaf_l0 : (List ((Int × (Int × Unit)) × ((Int × (Int × Unit)) × Unit))) × Unit × ((Unit × Unit) × Unit) × Int × Int × Unit → Option (Ctl ((List ((Int × (Int × Unit)) × ((Int × (Int × Unit)) × Unit))) × Unit × ((Unit × Unit) × Unit) × Int × Int × Unit) ((Int × Unit) ⊕ (Unit)))
  | (s, ((), (((), ()), ()), (t7, (t8, ())))) =>
    bif (decide (t8 < t7)) then
   bif ((decide ((0 : Int) ≤ t8)) && (decide (t8 < ((s.length : Nat) : Int)))) then
    (impl_areAll_impl_Leaf_f1 (s.getD t8.toNat (((0 : Int), (0 : Int), ()), ((0 : Int), (0 : Int), ()), ()))).bind fun r0 =>
    bif r0 then
     some (.stop (.inl (t8, ())))
    else some (.next (s, ((), (((), ()), ()), (t7, ((w64 (t8 + (1 : Int))), ())))))
   else none
  else some (.stop (.inr (())))
noncomputable def slices_IndexFunc__impl_Leaf_impl_Leaf (s : List ((Int × (Int × Unit)) × ((Int × (Int × Unit)) × Unit))) : Option (Int) :=
  (loop slices_IndexFunc__impl_Leaf_impl_Leaf_l0 (s, (), (((), ()), ()), ((s.length : Nat) : Int), (0 : Int), ())).bind fun r0 =>
  alt r0 (fun r1 =>
   some (r1.1))
  (fun r2 =>
   some ((-1 : Int)))
noncomputable def slices_ContainsFunc__impl_Leaf_impl_Leaf (s : List ((Int × (Int × Unit)) × ((Int × (Int × Unit)) × Unit))) : Option (Bool) :=
  (slices_IndexFunc__impl_Leaf_impl_Leaf s).bind fun r0 =>
  some ((decide (r0 ≥ (0 : Int))))
noncomputable def impl_areAll_impl_Leaf (list : List ((Int × (Int × Unit)) × ((Int × (Int × Unit)) × Unit))) : Option (Bool) :=
  (slices_ContainsFunc__impl_Leaf_impl_Leaf list).bind fun r0 =>
  some ((!r0))
noncomputable def cmp_Or_int_l0 : (List Int) × Int × (List Int) × Int × Int × Unit → Option (Ctl ((List Int) × Int × (List Int) × Int × Int × Unit) ((Int × Unit) ⊕ (Int × Unit)))
  | (vals, (zero, (t6, (t7, (t8, ()))))) =>
    bif (decide (t8 < t7)) then
   bif ((decide ((0 : Int) ≤ t8)) && (decide (t8 < ((t6.length : Nat) : Int)))) then
    bif ((t6.getD t8.toNat (0 : Int)) != zero) then
     some (.stop (.inl ((t6.getD t8.toNat (0 : Int)), ())))
    else some (.next (vals, (zero, (t6, (t7, ((w64 (t8 + (1 : Int))), ()))))))
   else none
  else some (.stop (.inr ((zero, ()))))
noncomputable def cmp_Or_int (vals : List Int) : Option (Int) :=
  (loop cmp_Or_int_l0 (vals, (0 : Int), vals, ((vals.length : Nat) : Int), (0 : Int), ())).bind fun r0 =>
  alt r0 (fun r1 =>
   some (r1.1))
  (fun r2 =>
   some (r2.1))
noncomputable def impl_Leaf_compare (l : ((Int × (Int × Unit)) × ((Int × (Int × Unit)) × Unit))) (m : ((Int × (Int × Unit)) × ((Int × (Int × Unit)) × Unit))) : Option (Int) :=
  (impl_Angle_compare l.1 m.1).bind fun r0 =>
  (impl_Angle_compare l.2.1 m.2.1).bind fun r1 =>
  (cmp_Or_int [r0, r1]).bind fun r2 =>
  some (r2)
noncomputable def impl_angle (num : Int) (den : Int) : Option ((Int × (Int × Unit))) :=
  bif (!(den == (0 : Int))) then
   bif (!(den == (0 : Int))) then
    (impl_divisor den ((w64 ((num.tmod den) + den)).tmod den)).bind fun r0 =>
    bif (!(r0 == (0 : Int))) then
     bif (!(r0 == (0 : Int))) then
      some (((w64 (((w64 ((num.tmod den) + den)).tmod den).tdiv r0)), (w64 (den.tdiv r0)), ()))
     else none
    else none
   else none
  else none
noncomputable def impl_Angle_minus (a : (Int × (Int × Unit))) (b : (Int × (Int × Unit))) : Option ((Int × (Int × Unit))) :=
  (impl_angle (w64 ((w64 (a.1 * b.2.1)) - (w64 (b.1 * a.2.1)))) (w64 (a.2.1 * b.2.1))).bind fun r0 =>
  some (r0)
noncomputable def impl_order (a : (Int × (Int × Unit))) (b : (Int × (Int × Unit))) (c : (Int × (Int × Unit))) : Option (Int) :=
  bif ((a.1 == b.1) && ((a.2.1 == b.2.1) && true)) then
   some ((0 : Int))
  else bif ((b.1 == c.1) && ((b.2.1 == c.2.1) && true)) then
    some ((0 : Int))
   else bif ((a.1 == c.1) && ((a.2.1 == c.2.1) && true)) then
     some ((0 : Int))
    else (impl_Angle_minus b a).bind fun r0 =>
     (impl_Angle_minus c a).bind fun r1 =>
     (impl_Angle_compare r0 r1).bind fun r2 =>
     bif (decide (r2 < (0 : Int))) then
      some ((1 : Int))
     else some ((-1 : Int))
noncomputable def impl_Leaf_cross (l : ((Int × (Int × Unit)) × ((Int × (Int × Unit)) × Unit))) (m : ((Int × (Int × Unit)) × ((Int × (Int × Unit)) × Unit))) : Option (Bool) :=
  (impl_order l.1 m.1 l.2.1).bind fun r0 =>
  (impl_order l.1 m.2.1 l.2.1).bind fun r1 =>
  some (((w64 (r0 * r1)) == (-1 : Int)))
noncomputable def slices_IndexFunc__impl_Leaf_impl_Leaf_v2_l0 : (List ((Int × (Int × Unit)) × ((Int × (Int × Unit)) × Unit))) × (((Int × (Int × Unit)) × ((Int × (Int × Unit)) × Unit)) × Unit) × Unit × Int × Int × Unit → Option (Ctl ((List ((Int × (Int × Unit)) × ((Int × (Int × Unit)) × Unit))) × (((Int × (Int × Unit)) × ((Int × (Int × Unit)) × Unit)) × Unit) × Unit × Int × Int × Unit) ((Int × Unit) ⊕ (Unit)))
  | (s, ((f, ()), (), (t7, (t8, ())))) =>
    bif (decide (t8 < t7)) then
   bif ((decide ((0 : Int) ≤ t8)) && (decide (t8 < ((s.length : Nat) : Int)))) then
    (impl_Leaf_cross f (s.getD t8.toNat (((0 : Int), (0 : Int), ()), ((0 : Int), (0 : Int), ()), ()))).bind fun r0 =>
    bif r0 then
     some (.stop (.inl (t8, ())))
    else some (.next (s, ((f, ()), (), (t7, ((w64 (t8 + (1 : Int))), ())))))
   else none
  else some (.stop (.inr (())))
noncomputable def slices_IndexFunc__impl_Leaf_impl_Leaf_v2 (s : List ((Int × (Int × Unit)) × ((Int × (Int × Unit)) × Unit))) (f_0 : ((Int × (Int × Unit)) × ((Int × (Int × Unit)) × Unit))) : Option (Int) :=
  (loop slices_IndexFunc__impl_Leaf_impl_Leaf_v2_l0 (s, (f_0, ()), (), ((s.length : Nat) : Int), (0 : Int), ())).bind fun r0 =>
  alt r0 (fun r1 =>
   some (r1.1))
  (fun r2 =>
   some ((-1 : Int)))
noncomputable def slices_ContainsFunc__impl_Leaf_impl_Leaf_v2 (s : List ((Int × (Int × Unit)) × ((Int × (Int × Unit)) × Unit))) (f_0 : ((Int × (Int × Unit)) × ((Int × (Int × Unit)) × Unit))) : Option (Bool) :=
  (slices_IndexFunc__impl_Leaf_impl_Leaf_v2 s f_0).bind fun r0 =>
  some ((decide (r0 ≥ (0 : Int))))
noncomputable def impl_IsLamination_l0 : (List ((Int × (Int × Unit)) × ((Int × (Int × Unit)) × Unit))) × (List ((Int × (Int × Unit)) × ((Int × (Int × Unit)) × Unit))) × Int × Int × Unit → Option (Ctl ((List ((Int × (Int × Unit)) × ((Int × (Int × Unit)) × Unit))) × (List ((Int × (Int × Unit)) × ((Int × (Int × Unit)) × Unit))) × Int × Int × Unit) ((Bool × Unit) ⊕ (Unit)))
  | (list, (t13, (t14, (t15, ())))) =>
    bif (decide (t15 < t14)) then
   bif ((decide ((0 : Int) ≤ t15)) && (decide (t15 < ((t13.length : Nat) : Int)))) then
    bif (decide (t15 > (0 : Int))) then
     bif ((decide ((0 : Int) ≤ (w64 (t15 - (1 : Int))))) && (decide ((w64 (t15 - (1 : Int))) < ((list.length : Nat) : Int)))) then
      (impl_Leaf_compare (list.getD (w64 (t15 - (1 : Int))).toNat (((0 : Int), (0 : Int), ()), ((0 : Int), (0 : Int), ()), ())) (t13.getD t15.toNat (((0 : Int), (0 : Int), ()), ((0 : Int), (0 : Int), ()), ()))).bind fun r0 =>
      bif (decide (r0 ≥ (0 : Int))) then
       some (.stop (.inl (false, ())))
      else bif (((decide ((0 : Int) ≤ (0 : Int))) && (decide ((0 : Int) ≤ t15))) && (decide (t15 ≤ ((list.length : Nat) : Int)))) then
        (slices_ContainsFunc__impl_Leaf_impl_Leaf_v2 ((list.take t15.toNat).drop (0 : Int).toNat) (t13.getD t15.toNat (((0 : Int), (0 : Int), ()), ((0 : Int), (0 : Int), ()), ()))).bind fun r1 =>
        bif r1 then
         some (.stop (.inl (false, ())))
        else some (.next (list, (t13, (t14, ((w64 (t15 + (1 : Int))), ())))))
       else none
     else none
    else bif (((decide ((0 : Int) ≤ (0 : Int))) && (decide ((0 : Int) ≤ t15))) && (decide (t15 ≤ ((list.length : Nat) : Int)))) then
      (slices_ContainsFunc__impl_Leaf_impl_Leaf_v2 ((list.take t15.toNat).drop (0 : Int).toNat) (t13.getD t15.toNat (((0 : Int), (0 : Int), ()), ((0 : Int), (0 : Int), ()), ()))).bind fun r2 =>
      bif r2 then
       some (.stop (.inl (false, ())))
      else some (.next (list, (t13, (t14, ((w64 (t15 + (1 : Int))), ())))))
     else none
   else none
  else some (.stop (.inr (())))
noncomputable def impl_IsLamination (list : List ((Int × (Int × Unit)) × ((Int × (Int × Unit)) × Unit))) : Option (Bool) :=
  bif (decide (((list.length : Nat) : Int) > (200 : Int))) then
   some (false)
  else (impl_areAll_impl_Leaf list).bind fun r0 =>
   bif (!r0) then
    some (false)
   else (loop impl_IsLamination_l0 (list, list, ((list.length : Nat) : Int), (0 : Int), ())).bind fun r1 =>
    alt r1 (fun r2 =>
     some (r2.1))
    (fun r3 =>
     some (true))
noncomputable def impl_ends_l0 : (List ((Int × (Int × Unit)) × ((Int × (Int × Unit)) × Unit))) × (List (Int × (Int × Unit))) × (List ((Int × (Int × Unit)) × ((Int × (Int × Unit)) × Unit))) × Int × Int × Unit → Option (Ctl ((List ((Int × (Int × Unit)) × ((Int × (Int × Unit)) × Unit))) × (List (Int × (Int × Unit))) × (List ((Int × (Int × Unit)) × ((Int × (Int × Unit)) × Unit))) × Int × Int × Unit) (((List (Int × (Int × Unit))) × Unit)))
  | (list, (out, (t6, (t7, (t8, ()))))) =>
    bif (decide (t8 < t7)) then
   bif ((decide ((0 : Int) ≤ t8)) && (decide (t8 < ((t6.length : Nat) : Int)))) then
    bif (decide (((out.length + [(t6.getD t8.toNat (((0 : Int), (0 : Int), ()), ((0 : Int), (0 : Int), ()), ())).1, (t6.getD t8.toNat (((0 : Int), (0 : Int), ()), ((0 : Int), (0 : Int), ()), ())).2.1].length) * 16) ≤ 140737488355328)) then
     some (.next (list, ((out ++ [(t6.getD t8.toNat (((0 : Int), (0 : Int), ()), ((0 : Int), (0 : Int), ()), ())).1, (t6.getD t8.toNat (((0 : Int), (0 : Int), ()), ((0 : Int), (0 : Int), ()), ())).2.1]), (t6, (t7, ((w64 (t8 + (1 : Int))), ()))))))
    else none
   else none
  else some (.stop ((out, ())))
noncomputable def slices_Values__impl_Angle_impl_Angle (s : List (Int × (Int × Unit))) : Option ((List (Int × (Int × Unit)))) :=
  some (s)
noncomputable def slices_Collect_impl_Angle (xs : List (Int × (Int × Unit))) : Option (List (Int × (Int × Unit))) :=
  collectOf xs
noncomputable def slices_SortFunc__impl_Angle_impl_Angle (xs : List (Int × (Int × Unit)))  : Option (List (Int × (Int × Unit))) :=
  sortOf (fun x y => impl_Angle_compare x y ) xs
noncomputable def slices_SortedFunc_impl_Angle (seq_0 : List (Int × (Int × Unit))) : Option ((List (Int × (Int × Unit)))) :=
  (slices_Collect_impl_Angle seq_0).bind fun r0 =>
  (slices_SortFunc__impl_Angle_impl_Angle r0).bind fun r1 =>
  some (r1)
noncomputable def slices_Compact__impl_Angle_impl_Angle_l1 : (List (Int × (Int × Unit))) × Int × Nat × Nat × Int × Nat × Nat × Unit → Option (Ctl ((List (Int × (Int × Unit))) × Int × Nat × Nat × Int × Nat × Nat × Unit) (((List (Int × (Int × Unit))) × Int × Unit)))
  | (s, (k, (s2_0, s2_1, (k2, (t28_0, t28_1, ()))))) =>
    bif (decide (k2 < ((((s.take s2_1).drop s2_0).length : Nat) : Int))) then
   bif ((decide ((0 : Int) ≤ k2)) && (decide (k2 < ((((s.take s2_1).drop s2_0).length : Nat) : Int)))) then
    bif ((decide ((0 : Int) ≤ (w64 (k2 - (1 : Int))))) && (decide ((w64 (k2 - (1 : Int))) < ((((s.take s2_1).drop s2_0).length : Nat) : Int)))) then
     bif (!(((s.getD (s2_0 + k2.toNat) ((0 : Int), (0 : Int), ())).1 == (s.getD (s2_0 + (w64 (k2 - (1 : Int))).toNat) ((0 : Int), (0 : Int), ())).1) && (((s.getD (s2_0 + k2.toNat) ((0 : Int), (0 : Int), ())).2.1 == (s.getD (s2_0 + (w64 (k2 - (1 : Int))).toNat) ((0 : Int), (0 : Int), ())).2.1) && true))) then
      bif ((decide ((0 : Int) ≤ k2)) && (decide (k2 < ((((s.take s2_1).drop s2_0).length : Nat) : Int)))) then
       bif ((decide ((0 : Int) ≤ k)) && (decide (k < ((s.length : Nat) : Int)))) then
        some (.next ((s.set k.toNat (s.getD (s2_0 + k2.toNat) ((0 : Int), (0 : Int), ()))), ((w64 (k + (1 : Int))), (s2_0, s2_1, ((w64 (k2 + (1 : Int))), (t28_0, t28_1, ()))))))
       else none
      else none
     else some (.next (s, (k, (s2_0, s2_1, ((w64 (k2 + (1 : Int))), (t28_0, t28_1, ()))))))
    else none
   else none
  else some (.stop ((s, (k, ()))))
noncomputable def slices_Compact__impl_Angle_impl_Angle_l0 : (List (Int × (Int × Unit))) × Int × Unit → Option (Ctl ((List (Int × (Int × Unit))) × Int × Unit) (((List (Int × (Int × Unit))) × Nat × Nat × Nat × Nat × Unit) ⊕ ((List (Int × (Int × Unit))) × Unit)))
  | (s, (k, ())) =>
    bif (decide (k < ((s.length : Nat) : Int))) then
   bif ((decide ((0 : Int) ≤ k)) && (decide (k < ((s.length : Nat) : Int)))) then
    bif ((decide ((0 : Int) ≤ (w64 (k - (1 : Int))))) && (decide ((w64 (k - (1 : Int))) < ((s.length : Nat) : Int)))) then
     bif (((s.getD k.toNat ((0 : Int), (0 : Int), ())).1 == (s.getD (w64 (k - (1 : Int))).toNat ((0 : Int), (0 : Int), ())).1) && (((s.getD k.toNat ((0 : Int), (0 : Int), ())).2.1 == (s.getD (w64 (k - (1 : Int))).toNat ((0 : Int), (0 : Int), ())).2.1) && true)) then
      bif (((decide ((0 : Int) ≤ k)) && (decide (k ≤ ((s.length : Nat) : Int)))) && (decide (((s.length : Nat) : Int) ≤ ((s.length : Nat) : Int)))) then
       (loop slices_Compact__impl_Angle_impl_Angle_l1 (s, k, k.toNat, ((s.length : Nat) : Int).toNat, (1 : Int), k.toNat, ((s.length : Nat) : Int).toNat, ())).bind fun r0 =>
       bif (((decide ((0 : Int) ≤ r0.2.1)) && (decide (r0.2.1 ≤ ((r0.1.length : Nat) : Int)))) && (decide (((r0.1.length : Nat) : Int) ≤ ((r0.1.length : Nat) : Int)))) then
        bif (((decide ((0 : Int) ≤ (0 : Int))) && (decide ((0 : Int) ≤ r0.2.1))) && (decide (r0.2.1 ≤ (((Go.K.cleared r0.1 ((0 : Int), (0 : Int), ()) r0.2.1.toNat ((r0.1.length : Nat) : Int).toNat).length : Nat) : Int)))) then
         some (.stop (.inl ((Go.K.cleared r0.1 ((0 : Int), (0 : Int), ()) r0.2.1.toNat ((r0.1.length : Nat) : Int).toNat), ((0 : Int).toNat, r0.2.1.toNat, ((0 : Int).toNat, r0.2.1.toNat, ())))))
        else none
       else none
      else none
     else some (.next (s, ((w64 (k + (1 : Int))), ())))
    else none
   else none
  else some (.stop (.inr ((s, ()))))
noncomputable def slices_Compact__impl_Angle_impl_Angle (s : List (Int × (Int × Unit))) : Option ((List (Int × (Int × Unit)))) :=
  bif (decide (((s.length : Nat) : Int) < (2 : Int))) then
   some (s)
  else (loop slices_Compact__impl_Angle_impl_Angle_l0 (s, (1 : Int), ())).bind fun r0 =>
   alt r0 (fun r1 =>
    bif (Nat.beq r1.2.1 0) then
     some ((r1.1.take r1.2.2.1))
    else none)
   (fun r2 =>
    some (r2.1))
noncomputable def impl_sorted (list : List (Int × (Int × Unit))) : Option ((List (Int × (Int × Unit)))) :=
  (slices_Values__impl_Angle_impl_Angle list).bind fun r0 =>
  (slices_SortedFunc_impl_Angle r0).bind fun r1 =>
  (slices_Compact__impl_Angle_impl_Angle r1).bind fun r2 =>
  some (r2)
noncomputable def impl_ends (list : List ((Int × (Int × Unit)) × ((Int × (Int × Unit)) × Unit))) : Option ((List (Int × (Int × Unit)))) :=
  (loop impl_ends_l0 (list, ([] : List (Int × (Int × Unit))), list, ((list.length : Nat) : Int), (0 : Int), ())).bind fun r0 =>
  (impl_sorted r0.1).bind fun r1 =>
  some (r1)
noncomputable def impl_EndClasses_l0 : (List ((Int × (Int × Unit)) × ((Int × (Int × Unit)) × Unit))) × (List (Int × (Int × Unit))) × (List Int) × Int × Int × Unit → Option (Ctl ((List ((Int × (Int × Unit)) × ((Int × (Int × Unit)) × Unit))) × (List (Int × (Int × Unit))) × (List Int) × Int × Int × Unit) (((List ((Int × (Int × Unit)) × ((Int × (Int × Unit)) × Unit))) × (List (Int × (Int × Unit))) × (List Int) × Unit)))
  | (list, (all, (name, (t27, (t28, ()))))) =>
    bif (decide (t28 < t27)) then
   bif ((decide ((0 : Int) ≤ t28)) && (decide (t28 < ((name.length : Nat) : Int)))) then
    some (.next (list, (all, ((name.set t28.toNat t28), (t27, ((w64 (t28 + (1 : Int))), ()))))))
   else none
  else some (.stop ((list, (all, (name, ())))))
noncomputable def slices_Index__impl_Angle_impl_Angle_l0 : (List (Int × (Int × Unit))) × ((Int × (Int × Unit))) × Int × Int × Unit → Option (Ctl ((List (Int × (Int × Unit))) × ((Int × (Int × Unit))) × Int × Int × Unit) ((Int × Unit) ⊕ (Unit)))
  | (s, (v, (t7, (t8, ())))) =>
    bif (decide (t8 < t7)) then
   bif ((decide ((0 : Int) ≤ t8)) && (decide (t8 < ((s.length : Nat) : Int)))) then
    bif ((v.1 == (s.getD t8.toNat ((0 : Int), (0 : Int), ())).1) && ((v.2.1 == (s.getD t8.toNat ((0 : Int), (0 : Int), ())).2.1) && true)) then
     some (.stop (.inl (t8, ())))
    else some (.next (s, (v, (t7, ((w64 (t8 + (1 : Int))), ())))))
   else none
  else some (.stop (.inr (())))
noncomputable def slices_Index__impl_Angle_impl_Angle (s : List (Int × (Int × Unit))) (v : (Int × (Int × Unit))) : Option (Int) :=
  (loop slices_Index__impl_Angle_impl_Angle_l0 (s, v, ((s.length : Nat) : Int), (0 : Int), ())).bind fun r0 =>
  alt r0 (fun r1 =>
   some (r1.1))
  (fun r2 =>
   some ((-1 : Int)))
noncomputable def impl_EndClasses_l2 : (List ((Int × (Int × Unit)) × ((Int × (Int × Unit)) × Unit))) × (List (Int × (Int × Unit))) × (List Int) × Int × Int × (List ((Int × (Int × Unit)) × ((Int × (Int × Unit)) × Unit))) × Int × Int × Int × Int × Unit → Option (Ctl ((List ((Int × (Int × Unit)) × ((Int × (Int × Unit)) × Unit))) × (List (Int × (Int × Unit))) × (List Int) × Int × Int × (List ((Int × (Int × Unit)) × ((Int × (Int × Unit)) × Unit))) × Int × Int × Int × Int × Unit) (((List ((Int × (Int × Unit)) × ((Int × (Int × Unit)) × Unit))) × (List (Int × (Int × Unit))) × (List Int) × (List ((Int × (Int × Unit)) × ((Int × (Int × Unit)) × Unit))) × Int × Int × Unit)))
  | (list, (all, (name, (a, (b, (t36, (t37, (t38, (t57, (t58, ())))))))))) =>
    bif (decide (t58 < t57)) then
   bif ((decide ((0 : Int) ≤ t58)) && (decide (t58 < ((name.length : Nat) : Int)))) then
    bif ((name.getD t58.toNat (0 : Int)) == (if (b > a) then b else a)) then
     bif ((decide ((0 : Int) ≤ t58)) && (decide (t58 < ((name.length : Nat) : Int)))) then
      some (.next (list, (all, ((name.set t58.toNat (if (b < a) then b else a)), (a, (b, (t36, (t37, (t38, (t57, ((w64 (t58 + (1 : Int))), ())))))))))))
     else none
    else some (.next (list, (all, (name, (a, (b, (t36, (t37, (t38, (t57, ((w64 (t58 + (1 : Int))), ())))))))))))
   else none
  else some (.stop ((list, (all, (name, (t36, (t37, (t38, ()))))))))
noncomputable def impl_EndClasses_l1 : (List ((Int × (Int × Unit)) × ((Int × (Int × Unit)) × Unit))) × (List (Int × (Int × Unit))) × (List Int) × (List ((Int × (Int × Unit)) × ((Int × (Int × Unit)) × Unit))) × Int × Int × Unit → Option (Ctl ((List ((Int × (Int × Unit)) × ((Int × (Int × Unit)) × Unit))) × (List (Int × (Int × Unit))) × (List Int) × (List ((Int × (Int × Unit)) × ((Int × (Int × Unit)) × Unit))) × Int × Int × Unit) (((List (Int × (Int × Unit))) × (List Int) × Unit)))
  | (list, (all, (name, (t36, (t37, (t38, ())))))) =>
    bif (decide (t38 < t37)) then
   bif ((decide ((0 : Int) ≤ t38)) && (decide (t38 < ((t36.length : Nat) : Int)))) then
    (slices_Index__impl_Angle_impl_Angle all (t36.getD t38.toNat (((0 : Int), (0 : Int), ()), ((0 : Int), (0 : Int), ()), ())).1).bind fun r0 =>
    bif ((decide ((0 : Int) ≤ r0)) && (decide (r0 < ((name.length : Nat) : Int)))) then
     (slices_Index__impl_Angle_impl_Angle all (t36.getD t38.toNat (((0 : Int), (0 : Int), ()), ((0 : Int), (0 : Int), ()), ())).2.1).bind fun r1 =>
     bif ((decide ((0 : Int) ≤ r1)) && (decide (r1 < ((name.length : Nat) : Int)))) then
      (loop impl_EndClasses_l2 (list, all, name, (name.getD r0.toNat (0 : Int)), (name.getD r1.toNat (0 : Int)), t36, t37, t38, ((name.length : Nat) : Int), (0 : Int), ())).bind fun r2 =>
      some (.next (r2.1, (r2.2.1, (r2.2.2.1, (r2.2.2.2.1, (r2.2.2.2.2.1, ((w64 (r2.2.2.2.2.2.1 + (1 : Int))), ())))))))
     else none
    else none
   else none
  else some (.stop ((all, (name, ()))))
noncomputable def impl_EndClasses_l4 : (List (Int × (Int × Unit))) × (List Int) × (List (List (Int × (Int × Unit)))) × Int × (List (Int × (Int × Unit))) × Int × Int × Int × Int × Unit → Option (Ctl ((List (Int × (Int × Unit))) × (List Int) × (List (List (Int × (Int × Unit)))) × Int × (List (Int × (Int × Unit))) × Int × Int × Int × Int × Unit) (((List (Int × (Int × Unit))) × (List Int) × (List (List (Int × (Int × Unit)))) × (List (Int × (Int × Unit))) × Int × Int × Unit)))
  | (all, (name, (out, (first, (class', (t77, (t78, (t82, (t83, ()))))))))) =>
    bif (decide (t83 < t82)) then
   bif ((decide ((0 : Int) ≤ t83)) && (decide (t83 < ((name.length : Nat) : Int)))) then
    bif ((name.getD t83.toNat (0 : Int)) == first) then
     bif ((decide ((0 : Int) ≤ t83)) && (decide (t83 < ((all.length : Nat) : Int)))) then
      bif (decide (((class'.length + [(all.getD t83.toNat ((0 : Int), (0 : Int), ()))].length) * 16) ≤ 140737488355328)) then
       some (.next (all, (name, (out, (first, ((class' ++ [(all.getD t83.toNat ((0 : Int), (0 : Int), ()))]), (t77, (t78, (t82, ((w64 (t83 + (1 : Int))), ()))))))))))
      else none
     else none
    else some (.next (all, (name, (out, (first, (class', (t77, (t78, (t82, ((w64 (t83 + (1 : Int))), ()))))))))))
   else none
  else some (.stop ((all, (name, (out, (class', (t77, (t78, ()))))))))
noncomputable def impl_EndClasses_l3 : (List (Int × (Int × Unit))) × (List Int) × (List (List (Int × (Int × Unit)))) × Int × Int × Unit → Option (Ctl ((List (Int × (Int × Unit))) × (List Int) × (List (List (Int × (Int × Unit)))) × Int × Int × Unit) (((List (List (Int × (Int × Unit)))) × Unit)))
  | (all, (name, (out, (t77, (t78, ()))))) =>
    bif (decide (t78 < t77)) then
   (loop impl_EndClasses_l4 (all, name, out, t78, ([] : List (Int × (Int × Unit))), t77, t78, ((name.length : Nat) : Int), (0 : Int), ())).bind fun r0 =>
   bif (decide (((r0.2.2.2.1.length : Nat) : Int) > (0 : Int))) then
    bif (decide (((r0.2.2.1.length + [r0.2.2.2.1].length) * 24) ≤ 140737488355328)) then
     some (.next (r0.1, (r0.2.1, ((r0.2.2.1 ++ [r0.2.2.2.1]), (r0.2.2.2.2.1, ((w64 (r0.2.2.2.2.2.1 + (1 : Int))), ()))))))
    else none
   else some (.next (r0.1, (r0.2.1, (r0.2.2.1, (r0.2.2.2.2.1, ((w64 (r0.2.2.2.2.2.1 + (1 : Int))), ()))))))
  else some (.stop ((out, ())))
noncomputable def impl_EndClasses (list : List ((Int × (Int × Unit)) × ((Int × (Int × Unit)) × Unit))) : Option ((List (List (Int × (Int × Unit)))) × Int) :=
  (impl_IsLamination list).bind fun r0 =>
  bif (!r0) then
   some (([] : List (List (Int × (Int × Unit)))), (1 : Int))
  else (impl_ends list).bind fun r1 =>
   bif (((decide ((0 : Int) ≤ ((r1.length : Nat) : Int))) && (decide (((r1.length : Nat) : Int) ≤ ((r1.length : Nat) : Int)))) && (decide ((((r1.length : Nat) : Int) * ((8 : Nat) : Int)) ≤ (140737488355328 : Int)))) then
    (loop impl_EndClasses_l0 (list, r1, (List.replicate ((r1.length : Nat) : Int).toNat (0 : Int)), (((List.replicate ((r1.length : Nat) : Int).toNat (0 : Int)).length : Nat) : Int), (0 : Int), ())).bind fun r2 =>
    (loop impl_EndClasses_l1 (r2.1, r2.2.1, r2.2.2.1, r2.1, ((r2.1.length : Nat) : Int), (0 : Int), ())).bind fun r3 =>
    (loop impl_EndClasses_l3 (r3.1, r3.2.1, ([] : List (List (Int × (Int × Unit)))), ((r3.1.length : Nat) : Int), (0 : Int), ())).bind fun r4 =>
    some (r4.1, (0 : Int))
   else none
noncomputable def laws_eqAngle (a : (Int × (Int × Unit))) (b : (Int × (Int × Unit))) : Option (Bool) :=
  bif (a.1 != b.1) then
   some (false)
  else bif (a.2.1 != b.2.1) then
    some (false)
   else some (true)
noncomputable def laws_eqAngleS_l0 : (List (Int × (Int × Unit))) × (List (Int × (Int × Unit))) × Int × Unit → Option (Ctl ((List (Int × (Int × Unit))) × (List (Int × (Int × Unit))) × Int × Unit) ((Bool × Unit) ⊕ (Unit)))
  | (a, (b, (i, ()))) =>
    bif (decide (i < ((a.length : Nat) : Int))) then
   bif ((decide ((0 : Int) ≤ i)) && (decide (i < ((a.length : Nat) : Int)))) then
    bif ((decide ((0 : Int) ≤ i)) && (decide (i < ((b.length : Nat) : Int)))) then
     (laws_eqAngle (a.getD i.toNat ((0 : Int), (0 : Int), ())) (b.getD i.toNat ((0 : Int), (0 : Int), ()))).bind fun r0 =>
     bif (!r0) then
      some (.stop (.inl (false, ())))
     else some (.next (a, (b, ((w64 (i + (1 : Int))), ()))))
    else none
   else none
  else some (.stop (.inr (())))
noncomputable def laws_eqAngleS (a : List (Int × (Int × Unit))) (b : List (Int × (Int × Unit))) : Option (Bool) :=
  bif (((a.length : Nat) : Int) != ((b.length : Nat) : Int)) then
   some (false)
  else (loop laws_eqAngleS_l0 (a, b, (0 : Int), ())).bind fun r0 =>
   alt r0 (fun r1 =>
    some (r1.1))
   (fun r2 =>
    some (true))
noncomputable def laws_eqAngleSS_l0 : (List (List (Int × (Int × Unit)))) × (List (List (Int × (Int × Unit)))) × Int × Unit → Option (Ctl ((List (List (Int × (Int × Unit)))) × (List (List (Int × (Int × Unit)))) × Int × Unit) ((Bool × Unit) ⊕ (Unit)))
  | (a, (b, (i, ()))) =>
    bif (decide (i < ((a.length : Nat) : Int))) then
   bif ((decide ((0 : Int) ≤ i)) && (decide (i < ((a.length : Nat) : Int)))) then
    bif ((decide ((0 : Int) ≤ i)) && (decide (i < ((b.length : Nat) : Int)))) then
     (laws_eqAngleS (a.getD i.toNat ([] : List (Int × (Int × Unit)))) (b.getD i.toNat ([] : List (Int × (Int × Unit))))).bind fun r0 =>
     bif (!r0) then
      some (.stop (.inl (false, ())))
     else some (.next (a, (b, ((w64 (i + (1 : Int))), ()))))
    else none
   else none
  else some (.stop (.inr (())))
noncomputable def laws_eqAngleSS (a : List (List (Int × (Int × Unit)))) (b : List (List (Int × (Int × Unit)))) : Option (Bool) :=
  bif (((a.length : Nat) : Int) != ((b.length : Nat) : Int)) then
   some (false)
  else (loop laws_eqAngleSS_l0 (a, b, (0 : Int), ())).bind fun r0 =>
   alt r0 (fun r1 =>
    some (r1.1))
   (fun r2 =>
    some (true))
noncomputable def laws_eqLeaf (a : ((Int × (Int × Unit)) × ((Int × (Int × Unit)) × Unit))) (b : ((Int × (Int × Unit)) × ((Int × (Int × Unit)) × Unit))) : Option (Bool) :=
  (laws_eqAngle a.1 b.1).bind fun r0 =>
  bif (!r0) then
   some (false)
  else (laws_eqAngle a.2.1 b.2.1).bind fun r1 =>
   bif (!r1) then
    some (false)
   else some (true)
noncomputable def laws_eqLeafS_l0 : (List ((Int × (Int × Unit)) × ((Int × (Int × Unit)) × Unit))) × (List ((Int × (Int × Unit)) × ((Int × (Int × Unit)) × Unit))) × Int × Unit → Option (Ctl ((List ((Int × (Int × Unit)) × ((Int × (Int × Unit)) × Unit))) × (List ((Int × (Int × Unit)) × ((Int × (Int × Unit)) × Unit))) × Int × Unit) ((Bool × Unit) ⊕ (Unit)))
  | (a, (b, (i, ()))) =>
    bif (decide (i < ((a.length : Nat) : Int))) then
   bif ((decide ((0 : Int) ≤ i)) && (decide (i < ((a.length : Nat) : Int)))) then
    bif ((decide ((0 : Int) ≤ i)) && (decide (i < ((b.length : Nat) : Int)))) then
     (laws_eqLeaf (a.getD i.toNat (((0 : Int), (0 : Int), ()), ((0 : Int), (0 : Int), ()), ())) (b.getD i.toNat (((0 : Int), (0 : Int), ()), ((0 : Int), (0 : Int), ()), ()))).bind fun r0 =>
     bif (!r0) then
      some (.stop (.inl (false, ())))
     else some (.next (a, (b, ((w64 (i + (1 : Int))), ()))))
    else none
   else none
  else some (.stop (.inr (())))
noncomputable def laws_eqLeafS (a : List ((Int × (Int × Unit)) × ((Int × (Int × Unit)) × Unit))) (b : List ((Int × (Int × Unit)) × ((Int × (Int × Unit)) × Unit))) : Option (Bool) :=
  bif (((a.length : Nat) : Int) != ((b.length : Nat) : Int)) then
   some (false)
  else (loop laws_eqLeafS_l0 (a, b, (0 : Int), ())).bind fun r0 =>
   alt r0 (fun r1 =>
    some (r1.1))
   (fun r2 =>
    some (true))
noncomputable def laws_markLeafS_l0 : (List ((Int × (Int × Unit)) × ((Int × (Int × Unit)) × Unit))) × Int × Int × Unit → Option (Ctl ((List ((Int × (Int × Unit)) × ((Int × (Int × Unit)) × Unit))) × Int × Int × Unit) (((List ((Int × (Int × Unit)) × ((Int × (Int × Unit)) × Unit))) × Int × Unit)))
  | (a, (k, (i, ()))) =>
    bif (decide (i < ((a.length : Nat) : Int))) then
   bif ((decide ((0 : Int) ≤ i)) && (decide (i < ((a.length : Nat) : Int)))) then
    bif ((decide ((0 : Int) ≤ i)) && (decide (i < (((a.set i.toNat ((k, (a.getD i.toNat (((0 : Int), (0 : Int), ()), ((0 : Int), (0 : Int), ()), ())).1.2), (a.getD i.toNat (((0 : Int), (0 : Int), ()), ((0 : Int), (0 : Int), ()), ())).2)).length : Nat) : Int)))) then
     bif ((decide ((0 : Int) ≤ i)) && (decide (i < ((((a.set i.toNat ((k, (a.getD i.toNat (((0 : Int), (0 : Int), ()), ((0 : Int), (0 : Int), ()), ())).1.2), (a.getD i.toNat (((0 : Int), (0 : Int), ()), ((0 : Int), (0 : Int), ()), ())).2)).set i.toNat ((((a.set i.toNat ((k, (a.getD i.toNat (((0 : Int), (0 : Int), ()), ((0 : Int), (0 : Int), ()), ())).1.2), (a.getD i.toNat (((0 : Int), (0 : Int), ()), ((0 : Int), (0 : Int), ()), ())).2)).getD i.toNat (((0 : Int), (0 : Int), ()), ((0 : Int), (0 : Int), ()), ())).1.1, (w64 (k + (1 : Int))), ((a.set i.toNat ((k, (a.getD i.toNat (((0 : Int), (0 : Int), ()), ((0 : Int), (0 : Int), ()), ())).1.2), (a.getD i.toNat (((0 : Int), (0 : Int), ()), ((0 : Int), (0 : Int), ()), ())).2)).getD i.toNat (((0 : Int), (0 : Int), ()), ((0 : Int), (0 : Int), ()), ())).1.2.2), ((a.set i.toNat ((k, (a.getD i.toNat (((0 : Int), (0 : Int), ()), ((0 : Int), (0 : Int), ()), ())).1.2), (a.getD i.toNat (((0 : Int), (0 : Int), ()), ((0 : Int), (0 : Int), ()), ())).2)).getD i.toNat (((0 : Int), (0 : Int), ()), ((0 : Int), (0 : Int), ()), ())).2)).length : Nat) : Int)))) then
      bif ((decide ((0 : Int) ≤ i)) && (decide (i < (((((a.set i.toNat ((k, (a.getD i.toNat (((0 : Int), (0 : Int), ()), ((0 : Int), (0 : Int), ()), ())).1.2), (a.getD i.toNat (((0 : Int), (0 : Int), ()), ((0 : Int), (0 : Int), ()), ())).2)).set i.toNat ((((a.set i.toNat ((k, (a.getD i.toNat (((0 : Int), (0 : Int), ()), ((0 : Int), (0 : Int), ()), ())).1.2), (a.getD i.toNat (((0 : Int), (0 : Int), ()), ((0 : Int), (0 : Int), ()), ())).2)).getD i.toNat (((0 : Int), (0 : Int), ()), ((0 : Int), (0 : Int), ()), ())).1.1, (w64 (k + (1 : Int))), ((a.set i.toNat ((k, (a.getD i.toNat (((0 : Int), (0 : Int), ()), ((0 : Int), (0 : Int), ()), ())).1.2), (a.getD i.toNat (((0 : Int), (0 : Int), ()), ((0 : Int), (0 : Int), ()), ())).2)).getD i.toNat (((0 : Int), (0 : Int), ()), ((0 : Int), (0 : Int), ()), ())).1.2.2), ((a.set i.toNat ((k, (a.getD i.toNat (((0 : Int), (0 : Int), ()), ((0 : Int), (0 : Int), ()), ())).1.2), (a.getD i.toNat (((0 : Int), (0 : Int), ()), ((0 : Int), (0 : Int), ()), ())).2)).getD i.toNat (((0 : Int), (0 : Int), ()), ((0 : Int), (0 : Int), ()), ())).2)).set i.toNat ((((a.set i.toNat ((k, (a.getD i.toNat (((0 : Int), (0 : Int), ()), ((0 : Int), (0 : Int), ()), ())).1.2), (a.getD i.toNat (((0 : Int), (0 : Int), ()), ((0 : Int), (0 : Int), ()), ())).2)).set i.toNat ((((a.set i.toNat ((k, (a.getD i.toNat (((0 : Int), (0 : Int), ()), ((0 : Int), (0 : Int), ()), ())).1.2), (a.getD i.toNat (((0 : Int), (0 : Int), ()), ((0 : Int), (0 : Int), ()), ())).2)).getD i.toNat (((0 : Int), (0 : Int), ()), ((0 : Int), (0 : Int), ()), ())).1.1, (w64 (k + (1 : Int))), ((a.set i.toNat ((k, (a.getD i.toNat (((0 : Int), (0 : Int), ()), ((0 : Int), (0 : Int), ()), ())).1.2), (a.getD i.toNat (((0 : Int), (0 : Int), ()), ((0 : Int), (0 : Int), ()), ())).2)).getD i.toNat (((0 : Int), (0 : Int), ()), ((0 : Int), (0 : Int), ()), ())).1.2.2), ((a.set i.toNat ((k, (a.getD i.toNat (((0 : Int), (0 : Int), ()), ((0 : Int), (0 : Int), ()), ())).1.2), (a.getD i.toNat (((0 : Int), (0 : Int), ()), ((0 : Int), (0 : Int), ()), ())).2)).getD i.toNat (((0 : Int), (0 : Int), ()), ((0 : Int), (0 : Int), ()), ())).2)).getD i.toNat (((0 : Int), (0 : Int), ()), ((0 : Int), (0 : Int), ()), ())).1, ((w64 ((w64 (k + (1 : Int))) + (1 : Int))), (((a.set i.toNat ((k, (a.getD i.toNat (((0 : Int), (0 : Int), ()), ((0 : Int), (0 : Int), ()), ())).1.2), (a.getD i.toNat (((0 : Int), (0 : Int), ()), ((0 : Int), (0 : Int), ()), ())).2)).set i.toNat ((((a.set i.toNat ((k, (a.getD i.toNat (((0 : Int), (0 : Int), ()), ((0 : Int), (0 : Int), ()), ())).1.2), (a.getD i.toNat (((0 : Int), (0 : Int), ()), ((0 : Int), (0 : Int), ()), ())).2)).getD i.toNat (((0 : Int), (0 : Int), ()), ((0 : Int), (0 : Int), ()), ())).1.1, (w64 (k + (1 : Int))), ((a.set i.toNat ((k, (a.getD i.toNat (((0 : Int), (0 : Int), ()), ((0 : Int), (0 : Int), ()), ())).1.2), (a.getD i.toNat (((0 : Int), (0 : Int), ()), ((0 : Int), (0 : Int), ()), ())).2)).getD i.toNat (((0 : Int), (0 : Int), ()), ((0 : Int), (0 : Int), ()), ())).1.2.2), ((a.set i.toNat ((k, (a.getD i.toNat (((0 : Int), (0 : Int), ()), ((0 : Int), (0 : Int), ()), ())).1.2), (a.getD i.toNat (((0 : Int), (0 : Int), ()), ((0 : Int), (0 : Int), ()), ())).2)).getD i.toNat (((0 : Int), (0 : Int), ()), ((0 : Int), (0 : Int), ()), ())).2)).getD i.toNat (((0 : Int), (0 : Int), ()), ((0 : Int), (0 : Int), ()), ())).2.1.2), (((a.set i.toNat ((k, (a.getD i.toNat (((0 : Int), (0 : Int), ()), ((0 : Int), (0 : Int), ()), ())).1.2), (a.getD i.toNat (((0 : Int), (0 : Int), ()), ((0 : Int), (0 : Int), ()), ())).2)).set i.toNat ((((a.set i.toNat ((k, (a.getD i.toNat (((0 : Int), (0 : Int), ()), ((0 : Int), (0 : Int), ()), ())).1.2), (a.getD i.toNat (((0 : Int), (0 : Int), ()), ((0 : Int), (0 : Int), ()), ())).2)).getD i.toNat (((0 : Int), (0 : Int), ()), ((0 : Int), (0 : Int), ()), ())).1.1, (w64 (k + (1 : Int))), ((a.set i.toNat ((k, (a.getD i.toNat (((0 : Int), (0 : Int), ()), ((0 : Int), (0 : Int), ()), ())).1.2), (a.getD i.toNat (((0 : Int), (0 : Int), ()), ((0 : Int), (0 : Int), ()), ())).2)).getD i.toNat (((0 : Int), (0 : Int), ()), ((0 : Int), (0 : Int), ()), ())).1.2.2), ((a.set i.toNat ((k, (a.getD i.toNat (((0 : Int), (0 : Int), ()), ((0 : Int), (0 : Int), ()), ())).1.2), (a.getD i.toNat (((0 : Int), (0 : Int), ()), ((0 : Int), (0 : Int), ()), ())).2)).getD i.toNat (((0 : Int), (0 : Int), ()), ((0 : Int), (0 : Int), ()), ())).2)).getD i.toNat (((0 : Int), (0 : Int), ()), ((0 : Int), (0 : Int), ()), ())).2.2)).length : Nat) : Int)))) then
       some (.next (((((a.set i.toNat ((k, (a.getD i.toNat (((0 : Int), (0 : Int), ()), ((0 : Int), (0 : Int), ()), ())).1.2), (a.getD i.toNat (((0 : Int), (0 : Int), ()), ((0 : Int), (0 : Int), ()), ())).2)).set i.toNat ((((a.set i.toNat ((k, (a.getD i.toNat (((0 : Int), (0 : Int), ()), ((0 : Int), (0 : Int), ()), ())).1.2), (a.getD i.toNat (((0 : Int), (0 : Int), ()), ((0 : Int), (0 : Int), ()), ())).2)).getD i.toNat (((0 : Int), (0 : Int), ()), ((0 : Int), (0 : Int), ()), ())).1.1, (w64 (k + (1 : Int))), ((a.set i.toNat ((k, (a.getD i.toNat (((0 : Int), (0 : Int), ()), ((0 : Int), (0 : Int), ()), ())).1.2), (a.getD i.toNat (((0 : Int), (0 : Int), ()), ((0 : Int), (0 : Int), ()), ())).2)).getD i.toNat (((0 : Int), (0 : Int), ()), ((0 : Int), (0 : Int), ()), ())).1.2.2), ((a.set i.toNat ((k, (a.getD i.toNat (((0 : Int), (0 : Int), ()), ((0 : Int), (0 : Int), ()), ())).1.2), (a.getD i.toNat (((0 : Int), (0 : Int), ()), ((0 : Int), (0 : Int), ()), ())).2)).getD i.toNat (((0 : Int), (0 : Int), ()), ((0 : Int), (0 : Int), ()), ())).2)).set i.toNat ((((a.set i.toNat ((k, (a.getD i.toNat (((0 : Int), (0 : Int), ()), ((0 : Int), (0 : Int), ()), ())).1.2), (a.getD i.toNat (((0 : Int), (0 : Int), ()), ((0 : Int), (0 : Int), ()), ())).2)).set i.toNat ((((a.set i.toNat ((k, (a.getD i.toNat (((0 : Int), (0 : Int), ()), ((0 : Int), (0 : Int), ()), ())).1.2), (a.getD i.toNat (((0 : Int), (0 : Int), ()), ((0 : Int), (0 : Int), ()), ())).2)).getD i.toNat (((0 : Int), (0 : Int), ()), ((0 : Int), (0 : Int), ()), ())).1.1, (w64 (k + (1 : Int))), ((a.set i.toNat ((k, (a.getD i.toNat (((0 : Int), (0 : Int), ()), ((0 : Int), (0 : Int), ()), ())).1.2), (a.getD i.toNat (((0 : Int), (0 : Int), ()), ((0 : Int), (0 : Int), ()), ())).2)).getD i.toNat (((0 : Int), (0 : Int), ()), ((0 : Int), (0 : Int), ()), ())).1.2.2), ((a.set i.toNat ((k, (a.getD i.toNat (((0 : Int), (0 : Int), ()), ((0 : Int), (0 : Int), ()), ())).1.2), (a.getD i.toNat (((0 : Int), (0 : Int), ()), ((0 : Int), (0 : Int), ()), ())).2)).getD i.toNat (((0 : Int), (0 : Int), ()), ((0 : Int), (0 : Int), ()), ())).2)).getD i.toNat (((0 : Int), (0 : Int), ()), ((0 : Int), (0 : Int), ()), ())).1, ((w64 ((w64 (k + (1 : Int))) + (1 : Int))), (((a.set i.toNat ((k, (a.getD i.toNat (((0 : Int), (0 : Int), ()), ((0 : Int), (0 : Int), ()), ())).1.2), (a.getD i.toNat (((0 : Int), (0 : Int), ()), ((0 : Int), (0 : Int), ()), ())).2)).set i.toNat ((((a.set i.toNat ((k, (a.getD i.toNat (((0 : Int), (0 : Int), ()), ((0 : Int), (0 : Int), ()), ())).1.2), (a.getD i.toNat (((0 : Int), (0 : Int), ()), ((0 : Int), (0 : Int), ()), ())).2)).getD i.toNat (((0 : Int), (0 : Int), ()), ((0 : Int), (0 : Int), ()), ())).1.1, (w64 (k + (1 : Int))), ((a.set i.toNat ((k, (a.getD i.toNat (((0 : Int), (0 : Int), ()), ((0 : Int), (0 : Int), ()), ())).1.2), (a.getD i.toNat (((0 : Int), (0 : Int), ()), ((0 : Int), (0 : Int), ()), ())).2)).getD i.toNat (((0 : Int), (0 : Int), ()), ((0 : Int), (0 : Int), ()), ())).1.2.2), ((a.set i.toNat ((k, (a.getD i.toNat (((0 : Int), (0 : Int), ()), ((0 : Int), (0 : Int), ()), ())).1.2), (a.getD i.toNat (((0 : Int), (0 : Int), ()), ((0 : Int), (0 : Int), ()), ())).2)).getD i.toNat (((0 : Int), (0 : Int), ()), ((0 : Int), (0 : Int), ()), ())).2)).getD i.toNat (((0 : Int), (0 : Int), ()), ((0 : Int), (0 : Int), ()), ())).2.1.2), (((a.set i.toNat ((k, (a.getD i.toNat (((0 : Int), (0 : Int), ()), ((0 : Int), (0 : Int), ()), ())).1.2), (a.getD i.toNat (((0 : Int), (0 : Int), ()), ((0 : Int), (0 : Int), ()), ())).2)).set i.toNat ((((a.set i.toNat ((k, (a.getD i.toNat (((0 : Int), (0 : Int), ()), ((0 : Int), (0 : Int), ()), ())).1.2), (a.getD i.toNat (((0 : Int), (0 : Int), ()), ((0 : Int), (0 : Int), ()), ())).2)).getD i.toNat (((0 : Int), (0 : Int), ()), ((0 : Int), (0 : Int), ()), ())).1.1, (w64 (k + (1 : Int))), ((a.set i.toNat ((k, (a.getD i.toNat (((0 : Int), (0 : Int), ()), ((0 : Int), (0 : Int), ()), ())).1.2), (a.getD i.toNat (((0 : Int), (0 : Int), ()), ((0 : Int), (0 : Int), ()), ())).2)).getD i.toNat (((0 : Int), (0 : Int), ()), ((0 : Int), (0 : Int), ()), ())).1.2.2), ((a.set i.toNat ((k, (a.getD i.toNat (((0 : Int), (0 : Int), ()), ((0 : Int), (0 : Int), ()), ())).1.2), (a.getD i.toNat (((0 : Int), (0 : Int), ()), ((0 : Int), (0 : Int), ()), ())).2)).getD i.toNat (((0 : Int), (0 : Int), ()), ((0 : Int), (0 : Int), ()), ())).2)).getD i.toNat (((0 : Int), (0 : Int), ()), ((0 : Int), (0 : Int), ()), ())).2.2)).set i.toNat (((((a.set i.toNat ((k, (a.getD i.toNat (((0 : Int), (0 : Int), ()), ((0 : Int), (0 : Int), ()), ())).1.2), (a.getD i.toNat (((0 : Int), (0 : Int), ()), ((0 : Int), (0 : Int), ()), ())).2)).set i.toNat ((((a.set i.toNat ((k, (a.getD i.toNat (((0 : Int), (0 : Int), ()), ((0 : Int), (0 : Int), ()), ())).1.2), (a.getD i.toNat (((0 : Int), (0 : Int), ()), ((0 : Int), (0 : Int), ()), ())).2)).getD i.toNat (((0 : Int), (0 : Int), ()), ((0 : Int), (0 : Int), ()), ())).1.1, (w64 (k + (1 : Int))), ((a.set i.toNat ((k, (a.getD i.toNat (((0 : Int), (0 : Int), ()), ((0 : Int), (0 : Int), ()), ())).1.2), (a.getD i.toNat (((0 : Int), (0 : Int), ()), ((0 : Int), (0 : Int), ()), ())).2)).getD i.toNat (((0 : Int), (0 : Int), ()), ((0 : Int), (0 : Int), ()), ())).1.2.2), ((a.set i.toNat ((k, (a.getD i.toNat (((0 : Int), (0 : Int), ()), ((0 : Int), (0 : Int), ()), ())).1.2), (a.getD i.toNat (((0 : Int), (0 : Int), ()), ((0 : Int), (0 : Int), ()), ())).2)).getD i.toNat (((0 : Int), (0 : Int), ()), ((0 : Int), (0 : Int), ()), ())).2)).set i.toNat ((((a.set i.toNat ((k, (a.getD i.toNat (((0 : Int), (0 : Int), ()), ((0 : Int), (0 : Int), ()), ())).1.2), (a.getD i.toNat (((0 : Int), (0 : Int), ()), ((0 : Int), (0 : Int), ()), ())).2)).set i.toNat ((((a.set i.toNat ((k, (a.getD i.toNat (((0 : Int), (0 : Int), ()), ((0 : Int), (0 : Int), ()), ())).1.2), (a.getD i.toNat (((0 : Int), (0 : Int), ()), ((0 : Int), (0 : Int), ()), ())).2)).getD i.toNat (((0 : Int), (0 : Int), ()), ((0 : Int), (0 : Int), ()), ())).1.1, (w64 (k + (1 : Int))), ((a.set i.toNat ((k, (a.getD i.toNat (((0 : Int), (0 : Int), ()), ((0 : Int), (0 : Int), ()), ())).1.2), (a.getD i.toNat (((0 : Int), (0 : Int), ()), ((0 : Int), (0 : Int), ()), ())).2)).getD i.toNat (((0 : Int), (0 : Int), ()), ((0 : Int), (0 : Int), ()), ())).1.2.2), ((a.set i.toNat ((k, (a.getD i.toNat (((0 : Int), (0 : Int), ()), ((0 : Int), (0 : Int), ()), ())).1.2), (a.getD i.toNat (((0 : Int), (0 : Int), ()), ((0 : Int), (0 : Int), ()), ())).2)).getD i.toNat (((0 : Int), (0 : Int), ()), ((0 : Int), (0 : Int), ()), ())).2)).getD i.toNat (((0 : Int), (0 : Int), ()), ((0 : Int), (0 : Int), ()), ())).1, ((w64 ((w64 (k + (1 : Int))) + (1 : Int))), (((a.set i.toNat ((k, (a.getD i.toNat (((0 : Int), (0 : Int), ()), ((0 : Int), (0 : Int), ()), ())).1.2), (a.getD i.toNat (((0 : Int), (0 : Int), ()), ((0 : Int), (0 : Int), ()), ())).2)).set i.toNat ((((a.set i.toNat ((k, (a.getD i.toNat (((0 : Int), (0 : Int), ()), ((0 : Int), (0 : Int), ()), ())).1.2), (a.getD i.toNat (((0 : Int), (0 : Int), ()), ((0 : Int), (0 : Int), ()), ())).2)).getD i.toNat (((0 : Int), (0 : Int), ()), ((0 : Int), (0 : Int), ()), ())).1.1, (w64 (k + (1 : Int))), ((a.set i.toNat ((k, (a.getD i.toNat (((0 : Int), (0 : Int), ()), ((0 : Int), (0 : Int), ()), ())).1.2), (a.getD i.toNat (((0 : Int), (0 : Int), ()), ((0 : Int), (0 : Int), ()), ())).2)).getD i.toNat (((0 : Int), (0 : Int), ()), ((0 : Int), (0 : Int), ()), ())).1.2.2), ((a.set i.toNat ((k, (a.getD i.toNat (((0 : Int), (0 : Int), ()), ((0 : Int), (0 : Int), ()), ())).1.2), (a.getD i.toNat (((0 : Int), (0 : Int), ()), ((0 : Int), (0 : Int), ()), ())).2)).getD i.toNat (((0 : Int), (0 : Int), ()), ((0 : Int), (0 : Int), ()), ())).2)).getD i.toNat (((0 : Int), (0 : Int), ()), ((0 : Int), (0 : Int), ()), ())).2.1.2), (((a.set i.toNat ((k, (a.getD i.toNat (((0 : Int), (0 : Int), ()), ((0 : Int), (0 : Int), ()), ())).1.2), (a.getD i.toNat (((0 : Int), (0 : Int), ()), ((0 : Int), (0 : Int), ()), ())).2)).set i.toNat ((((a.set i.toNat ((k, (a.getD i.toNat (((0 : Int), (0 : Int), ()), ((0 : Int), (0 : Int), ()), ())).1.2), (a.getD i.toNat (((0 : Int), (0 : Int), ()), ((0 : Int), (0 : Int), ()), ())).2)).getD i.toNat (((0 : Int), (0 : Int), ()), ((0 : Int), (0 : Int), ()), ())).1.1, (w64 (k + (1 : Int))), ((a.set i.toNat ((k, (a.getD i.toNat (((0 : Int), (0 : Int), ()), ((0 : Int), (0 : Int), ()), ())).1.2), (a.getD i.toNat (((0 : Int), (0 : Int), ()), ((0 : Int), (0 : Int), ()), ())).2)).getD i.toNat (((0 : Int), (0 : Int), ()), ((0 : Int), (0 : Int), ()), ())).1.2.2), ((a.set i.toNat ((k, (a.getD i.toNat (((0 : Int), (0 : Int), ()), ((0 : Int), (0 : Int), ()), ())).1.2), (a.getD i.toNat (((0 : Int), (0 : Int), ()), ((0 : Int), (0 : Int), ()), ())).2)).getD i.toNat (((0 : Int), (0 : Int), ()), ((0 : Int), (0 : Int), ()), ())).2)).getD i.toNat (((0 : Int), (0 : Int), ()), ((0 : Int), (0 : Int), ()), ())).2.2)).getD i.toNat (((0 : Int), (0 : Int), ()), ((0 : Int), (0 : Int), ()), ())).1, (((((a.set i.toNat ((k, (a.getD i.toNat (((0 : Int), (0 : Int), ()), ((0 : Int), (0 : Int), ()), ())).1.2), (a.getD i.toNat (((0 : Int), (0 : Int), ()), ((0 : Int), (0 : Int), ()), ())).2)).set i.toNat ((((a.set i.toNat ((k, (a.getD i.toNat (((0 : Int), (0 : Int), ()), ((0 : Int), (0 : Int), ()), ())).1.2), (a.getD i.toNat (((0 : Int), (0 : Int), ()), ((0 : Int), (0 : Int), ()), ())).2)).getD i.toNat (((0 : Int), (0 : Int), ()), ((0 : Int), (0 : Int), ()), ())).1.1, (w64 (k + (1 : Int))), ((a.set i.toNat ((k, (a.getD i.toNat (((0 : Int), (0 : Int), ()), ((0 : Int), (0 : Int), ()), ())).1.2), (a.getD i.toNat (((0 : Int), (0 : Int), ()), ((0 : Int), (0 : Int), ()), ())).2)).getD i.toNat (((0 : Int), (0 : Int), ()), ((0 : Int), (0 : Int), ()), ())).1.2.2), ((a.set i.toNat ((k, (a.getD i.toNat (((0 : Int), (0 : Int), ()), ((0 : Int), (0 : Int), ()), ())).1.2), (a.getD i.toNat (((0 : Int), (0 : Int), ()), ((0 : Int), (0 : Int), ()), ())).2)).getD i.toNat (((0 : Int), (0 : Int), ()), ((0 : Int), (0 : Int), ()), ())).2)).set i.toNat ((((a.set i.toNat ((k, (a.getD i.toNat (((0 : Int), (0 : Int), ()), ((0 : Int), (0 : Int), ()), ())).1.2), (a.getD i.toNat (((0 : Int), (0 : Int), ()), ((0 : Int), (0 : Int), ()), ())).2)).set i.toNat ((((a.set i.toNat ((k, (a.getD i.toNat (((0 : Int), (0 : Int), ()), ((0 : Int), (0 : Int), ()), ())).1.2), (a.getD i.toNat (((0 : Int), (0 : Int), ()), ((0 : Int), (0 : Int), ()), ())).2)).getD i.toNat (((0 : Int), (0 : Int), ()), ((0 : Int), (0 : Int), ()), ())).1.1, (w64 (k + (1 : Int))), ((a.set i.toNat ((k, (a.getD i.toNat (((0 : Int), (0 : Int), ()), ((0 : Int), (0 : Int), ()), ())).1.2), (a.getD i.toNat (((0 : Int), (0 : Int), ()), ((0 : Int), (0 : Int), ()), ())).2)).getD i.toNat (((0 : Int), (0 : Int), ()), ((0 : Int), (0 : Int), ()), ())).1.2.2), ((a.set i.toNat ((k, (a.getD i.toNat (((0 : Int), (0 : Int), ()), ((0 : Int), (0 : Int), ()), ())).1.2), (a.getD i.toNat (((0 : Int), (0 : Int), ()), ((0 : Int), (0 : Int), ()), ())).2)).getD i.toNat (((0 : Int), (0 : Int), ()), ((0 : Int), (0 : Int), ()), ())).2)).getD i.toNat (((0 : Int), (0 : Int), ()), ((0 : Int), (0 : Int), ()), ())).1, ((w64 ((w64 (k + (1 : Int))) + (1 : Int))), (((a.set i.toNat ((k, (a.getD i.toNat (((0 : Int), (0 : Int), ()), ((0 : Int), (0 : Int), ()), ())).1.2), (a.getD i.toNat (((0 : Int), (0 : Int), ()), ((0 : Int), (0 : Int), ()), ())).2)).set i.toNat ((((a.set i.toNat ((k, (a.getD i.toNat (((0 : Int), (0 : Int), ()), ((0 : Int), (0 : Int), ()), ())).1.2), (a.getD i.toNat (((0 : Int), (0 : Int), ()), ((0 : Int), (0 : Int), ()), ())).2)).getD i.toNat (((0 : Int), (0 : Int), ()), ((0 : Int), (0 : Int), ()), ())).1.1, (w64 (k + (1 : Int))), ((a.set i.toNat ((k, (a.getD i.toNat (((0 : Int), (0 : Int), ()), ((0 : Int), (0 : Int), ()), ())).1.2), (a.getD i.toNat (((0 : Int), (0 : Int), ()), ((0 : Int), (0 : Int), ()), ())).2)).getD i.toNat (((0 : Int), (0 : Int), ()), ((0 : Int), (0 : Int), ()), ())).1.2.2), ((a.set i.toNat ((k, (a.getD i.toNat (((0 : Int), (0 : Int), ()), ((0 : Int), (0 : Int), ()), ())).1.2), (a.getD i.toNat (((0 : Int), (0 : Int), ()), ((0 : Int), (0 : Int), ()), ())).2)).getD i.toNat (((0 : Int), (0 : Int), ()), ((0 : Int), (0 : Int), ()), ())).2)).getD i.toNat (((0 : Int), (0 : Int), ()), ((0 : Int), (0 : Int), ()), ())).2.1.2), (((a.set i.toNat ((k, (a.getD i.toNat (((0 : Int), (0 : Int), ()), ((0 : Int), (0 : Int), ()), ())).1.2), (a.getD i.toNat (((0 : Int), (0 : Int), ()), ((0 : Int), (0 : Int), ()), ())).2)).set i.toNat ((((a.set i.toNat ((k, (a.getD i.toNat (((0 : Int), (0 : Int), ()), ((0 : Int), (0 : Int), ()), ())).1.2), (a.getD i.toNat (((0 : Int), (0 : Int), ()), ((0 : Int), (0 : Int), ()), ())).2)).getD i.toNat (((0 : Int), (0 : Int), ()), ((0 : Int), (0 : Int), ()), ())).1.1, (w64 (k + (1 : Int))), ((a.set i.toNat ((k, (a.getD i.toNat (((0 : Int), (0 : Int), ()), ((0 : Int), (0 : Int), ()), ())).1.2), (a.getD i.toNat (((0 : Int), (0 : Int), ()), ((0 : Int), (0 : Int), ()), ())).2)).getD i.toNat (((0 : Int), (0 : Int), ()), ((0 : Int), (0 : Int), ()), ())).1.2.2), ((a.set i.toNat ((k, (a.getD i.toNat (((0 : Int), (0 : Int), ()), ((0 : Int), (0 : Int), ()), ())).1.2), (a.getD i.toNat (((0 : Int), (0 : Int), ()), ((0 : Int), (0 : Int), ()), ())).2)).getD i.toNat (((0 : Int), (0 : Int), ()), ((0 : Int), (0 : Int), ()), ())).2)).getD i.toNat (((0 : Int), (0 : Int), ()), ((0 : Int), (0 : Int), ()), ())).2.2)).getD i.toNat (((0 : Int), (0 : Int), ()), ((0 : Int), (0 : Int), ()), ())).2.1.1, (w64 ((w64 ((w64 (k + (1 : Int))) + (1 : Int))) + (1 : Int))), ((((a.set i.toNat ((k, (a.getD i.toNat (((0 : Int), (0 : Int), ()), ((0 : Int), (0 : Int), ()), ())).1.2), (a.getD i.toNat (((0 : Int), (0 : Int), ()), ((0 : Int), (0 : Int), ()), ())).2)).set i.toNat ((((a.set i.toNat ((k, (a.getD i.toNat (((0 : Int), (0 : Int), ()), ((0 : Int), (0 : Int), ()), ())).1.2), (a.getD i.toNat (((0 : Int), (0 : Int), ()), ((0 : Int), (0 : Int), ()), ())).2)).getD i.toNat (((0 : Int), (0 : Int), ()), ((0 : Int), (0 : Int), ()), ())).1.1, (w64 (k + (1 : Int))), ((a.set i.toNat ((k, (a.getD i.toNat (((0 : Int), (0 : Int), ()), ((0 : Int), (0 : Int), ()), ())).1.2), (a.getD i.toNat (((0 : Int), (0 : Int), ()), ((0 : Int), (0 : Int), ()), ())).2)).getD i.toNat (((0 : Int), (0 : Int), ()), ((0 : Int), (0 : Int), ()), ())).1.2.2), ((a.set i.toNat ((k, (a.getD i.toNat (((0 : Int), (0 : Int), ()), ((0 : Int), (0 : Int), ()), ())).1.2), (a.getD i.toNat (((0 : Int), (0 : Int), ()), ((0 : Int), (0 : Int), ()), ())).2)).getD i.toNat (((0 : Int), (0 : Int), ()), ((0 : Int), (0 : Int), ()), ())).2)).set i.toNat ((((a.set i.toNat ((k, (a.getD i.toNat (((0 : Int), (0 : Int), ()), ((0 : Int), (0 : Int), ()), ())).1.2), (a.getD i.toNat (((0 : Int), (0 : Int), ()), ((0 : Int), (0 : Int), ()), ())).2)).set i.toNat ((((a.set i.toNat ((k, (a.getD i.toNat (((0 : Int), (0 : Int), ()), ((0 : Int), (0 : Int), ()), ())).1.2), (a.getD i.toNat (((0 : Int), (0 : Int), ()), ((0 : Int), (0 : Int), ()), ())).2)).getD i.toNat (((0 : Int), (0 : Int), ()), ((0 : Int), (0 : Int), ()), ())).1.1, (w64 (k + (1 : Int))), ((a.set i.toNat ((k, (a.getD i.toNat (((0 : Int), (0 : Int), ()), ((0 : Int), (0 : Int), ()), ())).1.2), (a.getD i.toNat (((0 : Int), (0 : Int), ()), ((0 : Int), (0 : Int), ()), ())).2)).getD i.toNat (((0 : Int), (0 : Int), ()), ((0 : Int), (0 : Int), ()), ())).1.2.2), ((a.set i.toNat ((k, (a.getD i.toNat (((0 : Int), (0 : Int), ()), ((0 : Int), (0 : Int), ()), ())).1.2), (a.getD i.toNat (((0 : Int), (0 : Int), ()), ((0 : Int), (0 : Int), ()), ())).2)).getD i.toNat (((0 : Int), (0 : Int), ()), ((0 : Int), (0 : Int), ()), ())).2)).getD i.toNat (((0 : Int), (0 : Int), ()), ((0 : Int), (0 : Int), ()), ())).1, ((w64 ((w64 (k + (1 : Int))) + (1 : Int))), (((a.set i.toNat ((k, (a.getD i.toNat (((0 : Int), (0 : Int), ()), ((0 : Int), (0 : Int), ()), ())).1.2), (a.getD i.toNat (((0 : Int), (0 : Int), ()), ((0 : Int), (0 : Int), ()), ())).2)).set i.toNat ((((a.set i.toNat ((k, (a.getD i.toNat (((0 : Int), (0 : Int), ()), ((0 : Int), (0 : Int), ()), ())).1.2), (a.getD i.toNat (((0 : Int), (0 : Int), ()), ((0 : Int), (0 : Int), ()), ())).2)).getD i.toNat (((0 : Int), (0 : Int), ()), ((0 : Int), (0 : Int), ()), ())).1.1, (w64 (k + (1 : Int))), ((a.set i.toNat ((k, (a.getD i.toNat (((0 : Int), (0 : Int), ()), ((0 : Int), (0 : Int), ()), ())).1.2), (a.getD i.toNat (((0 : Int), (0 : Int), ()), ((0 : Int), (0 : Int), ()), ())).2)).getD i.toNat (((0 : Int), (0 : Int), ()), ((0 : Int), (0 : Int), ()), ())).1.2.2), ((a.set i.toNat ((k, (a.getD i.toNat (((0 : Int), (0 : Int), ()), ((0 : Int), (0 : Int), ()), ())).1.2), (a.getD i.toNat (((0 : Int), (0 : Int), ()), ((0 : Int), (0 : Int), ()), ())).2)).getD i.toNat (((0 : Int), (0 : Int), ()), ((0 : Int), (0 : Int), ()), ())).2)).getD i.toNat (((0 : Int), (0 : Int), ()), ((0 : Int), (0 : Int), ()), ())).2.1.2), (((a.set i.toNat ((k, (a.getD i.toNat (((0 : Int), (0 : Int), ()), ((0 : Int), (0 : Int), ()), ())).1.2), (a.getD i.toNat (((0 : Int), (0 : Int), ()), ((0 : Int), (0 : Int), ()), ())).2)).set i.toNat ((((a.set i.toNat ((k, (a.getD i.toNat (((0 : Int), (0 : Int), ()), ((0 : Int), (0 : Int), ()), ())).1.2), (a.getD i.toNat (((0 : Int), (0 : Int), ()), ((0 : Int), (0 : Int), ()), ())).2)).getD i.toNat (((0 : Int), (0 : Int), ()), ((0 : Int), (0 : Int), ()), ())).1.1, (w64 (k + (1 : Int))), ((a.set i.toNat ((k, (a.getD i.toNat (((0 : Int), (0 : Int), ()), ((0 : Int), (0 : Int), ()), ())).1.2), (a.getD i.toNat (((0 : Int), (0 : Int), ()), ((0 : Int), (0 : Int), ()), ())).2)).getD i.toNat (((0 : Int), (0 : Int), ()), ((0 : Int), (0 : Int), ()), ())).1.2.2), ((a.set i.toNat ((k, (a.getD i.toNat (((0 : Int), (0 : Int), ()), ((0 : Int), (0 : Int), ()), ())).1.2), (a.getD i.toNat (((0 : Int), (0 : Int), ()), ((0 : Int), (0 : Int), ()), ())).2)).getD i.toNat (((0 : Int), (0 : Int), ()), ((0 : Int), (0 : Int), ()), ())).2)).getD i.toNat (((0 : Int), (0 : Int), ()), ((0 : Int), (0 : Int), ()), ())).2.2)).getD i.toNat (((0 : Int), (0 : Int), ()), ((0 : Int), (0 : Int), ()), ())).2.1.2.2), ((((a.set i.toNat ((k, (a.getD i.toNat (((0 : Int), (0 : Int), ()), ((0 : Int), (0 : Int), ()), ())).1.2), (a.getD i.toNat (((0 : Int), (0 : Int), ()), ((0 : Int), (0 : Int), ()), ())).2)).set i.toNat ((((a.set i.toNat ((k, (a.getD i.toNat (((0 : Int), (0 : Int), ()), ((0 : Int), (0 : Int), ()), ())).1.2), (a.getD i.toNat (((0 : Int), (0 : Int), ()), ((0 : Int), (0 : Int), ()), ())).2)).getD i.toNat (((0 : Int), (0 : Int), ()), ((0 : Int), (0 : Int), ()), ())).1.1, (w64 (k + (1 : Int))), ((a.set i.toNat ((k, (a.getD i.toNat (((0 : Int), (0 : Int), ()), ((0 : Int), (0 : Int), ()), ())).1.2), (a.getD i.toNat (((0 : Int), (0 : Int), ()), ((0 : Int), (0 : Int), ()), ())).2)).getD i.toNat (((0 : Int), (0 : Int), ()), ((0 : Int), (0 : Int), ()), ())).1.2.2), ((a.set i.toNat ((k, (a.getD i.toNat (((0 : Int), (0 : Int), ()), ((0 : Int), (0 : Int), ()), ())).1.2), (a.getD i.toNat (((0 : Int), (0 : Int), ()), ((0 : Int), (0 : Int), ()), ())).2)).getD i.toNat (((0 : Int), (0 : Int), ()), ((0 : Int), (0 : Int), ()), ())).2)).set i.toNat ((((a.set i.toNat ((k, (a.getD i.toNat (((0 : Int), (0 : Int), ()), ((0 : Int), (0 : Int), ()), ())).1.2), (a.getD i.toNat (((0 : Int), (0 : Int), ()), ((0 : Int), (0 : Int), ()), ())).2)).set i.toNat ((((a.set i.toNat ((k, (a.getD i.toNat (((0 : Int), (0 : Int), ()), ((0 : Int), (0 : Int), ()), ())).1.2), (a.getD i.toNat (((0 : Int), (0 : Int), ()), ((0 : Int), (0 : Int), ()), ())).2)).getD i.toNat (((0 : Int), (0 : Int), ()), ((0 : Int), (0 : Int), ()), ())).1.1, (w64 (k + (1 : Int))), ((a.set i.toNat ((k, (a.getD i.toNat (((0 : Int), (0 : Int), ()), ((0 : Int), (0 : Int), ()), ())).1.2), (a.getD i.toNat (((0 : Int), (0 : Int), ()), ((0 : Int), (0 : Int), ()), ())).2)).getD i.toNat (((0 : Int), (0 : Int), ()), ((0 : Int), (0 : Int), ()), ())).1.2.2), ((a.set i.toNat ((k, (a.getD i.toNat (((0 : Int), (0 : Int), ()), ((0 : Int), (0 : Int), ()), ())).1.2), (a.getD i.toNat (((0 : Int), (0 : Int), ()), ((0 : Int), (0 : Int), ()), ())).2)).getD i.toNat (((0 : Int), (0 : Int), ()), ((0 : Int), (0 : Int), ()), ())).2)).getD i.toNat (((0 : Int), (0 : Int), ()), ((0 : Int), (0 : Int), ()), ())).1, ((w64 ((w64 (k + (1 : Int))) + (1 : Int))), (((a.set i.toNat ((k, (a.getD i.toNat (((0 : Int), (0 : Int), ()), ((0 : Int), (0 : Int), ()), ())).1.2), (a.getD i.toNat (((0 : Int), (0 : Int), ()), ((0 : Int), (0 : Int), ()), ())).2)).set i.toNat ((((a.set i.toNat ((k, (a.getD i.toNat (((0 : Int), (0 : Int), ()), ((0 : Int), (0 : Int), ()), ())).1.2), (a.getD i.toNat (((0 : Int), (0 : Int), ()), ((0 : Int), (0 : Int), ()), ())).2)).getD i.toNat (((0 : Int), (0 : Int), ()), ((0 : Int), (0 : Int), ()), ())).1.1, (w64 (k + (1 : Int))), ((a.set i.toNat ((k, (a.getD i.toNat (((0 : Int), (0 : Int), ()), ((0 : Int), (0 : Int), ()), ())).1.2), (a.getD i.toNat (((0 : Int), (0 : Int), ()), ((0 : Int), (0 : Int), ()), ())).2)).getD i.toNat (((0 : Int), (0 : Int), ()), ((0 : Int), (0 : Int), ()), ())).1.2.2), ((a.set i.toNat ((k, (a.getD i.toNat (((0 : Int), (0 : Int), ()), ((0 : Int), (0 : Int), ()), ())).1.2), (a.getD i.toNat (((0 : Int), (0 : Int), ()), ((0 : Int), (0 : Int), ()), ())).2)).getD i.toNat (((0 : Int), (0 : Int), ()), ((0 : Int), (0 : Int), ()), ())).2)).getD i.toNat (((0 : Int), (0 : Int), ()), ((0 : Int), (0 : Int), ()), ())).2.1.2), (((a.set i.toNat ((k, (a.getD i.toNat (((0 : Int), (0 : Int), ()), ((0 : Int), (0 : Int), ()), ())).1.2), (a.getD i.toNat (((0 : Int), (0 : Int), ()), ((0 : Int), (0 : Int), ()), ())).2)).set i.toNat ((((a.set i.toNat ((k, (a.getD i.toNat (((0 : Int), (0 : Int), ()), ((0 : Int), (0 : Int), ()), ())).1.2), (a.getD i.toNat (((0 : Int), (0 : Int), ()), ((0 : Int), (0 : Int), ()), ())).2)).getD i.toNat (((0 : Int), (0 : Int), ()), ((0 : Int), (0 : Int), ()), ())).1.1, (w64 (k + (1 : Int))), ((a.set i.toNat ((k, (a.getD i.toNat (((0 : Int), (0 : Int), ()), ((0 : Int), (0 : Int), ()), ())).1.2), (a.getD i.toNat (((0 : Int), (0 : Int), ()), ((0 : Int), (0 : Int), ()), ())).2)).getD i.toNat (((0 : Int), (0 : Int), ()), ((0 : Int), (0 : Int), ()), ())).1.2.2), ((a.set i.toNat ((k, (a.getD i.toNat (((0 : Int), (0 : Int), ()), ((0 : Int), (0 : Int), ()), ())).1.2), (a.getD i.toNat (((0 : Int), (0 : Int), ()), ((0 : Int), (0 : Int), ()), ())).2)).getD i.toNat (((0 : Int), (0 : Int), ()), ((0 : Int), (0 : Int), ()), ())).2)).getD i.toNat (((0 : Int), (0 : Int), ()), ((0 : Int), (0 : Int), ()), ())).2.2)).getD i.toNat (((0 : Int), (0 : Int), ()), ((0 : Int), (0 : Int), ()), ())).2.2)), ((w64 ((w64 ((w64 ((w64 (k + (1 : Int))) + (1 : Int))) + (1 : Int))) + (1 : Int))), ((w64 (i + (1 : Int))), ()))))
      else none
     else none
    else none
   else none
  else some (.stop ((a, (k, ()))))
noncomputable def laws_markLeafS (a : List ((Int × (Int × Unit)) × ((Int × (Int × Unit)) × Unit))) (k : Int) : Option (Int × (List ((Int × (Int × Unit)) × ((Int × (Int × Unit)) × Unit)))) :=
  (loop laws_markLeafS_l0 (a, k, (0 : Int), ())).bind fun r0 =>
  some (r0.2.1, r0.1)
noncomputable def laws_markAngleS_l0 : (List (Int × (Int × Unit))) × Int × Int × Unit → Option (Ctl ((List (Int × (Int × Unit))) × Int × Int × Unit) (((List (Int × (Int × Unit))) × Int × Unit)))
  | (a, (k, (i, ()))) =>
    bif (decide (i < ((a.length : Nat) : Int))) then
   bif ((decide ((0 : Int) ≤ i)) && (decide (i < ((a.length : Nat) : Int)))) then
    bif ((decide ((0 : Int) ≤ i)) && (decide (i < (((a.set i.toNat (k, (a.getD i.toNat ((0 : Int), (0 : Int), ())).2)).length : Nat) : Int)))) then
     some (.next (((a.set i.toNat (k, (a.getD i.toNat ((0 : Int), (0 : Int), ())).2)).set i.toNat (((a.set i.toNat (k, (a.getD i.toNat ((0 : Int), (0 : Int), ())).2)).getD i.toNat ((0 : Int), (0 : Int), ())).1, (w64 (k + (1 : Int))), ((a.set i.toNat (k, (a.getD i.toNat ((0 : Int), (0 : Int), ())).2)).getD i.toNat ((0 : Int), (0 : Int), ())).2.2)), ((w64 ((w64 (k + (1 : Int))) + (1 : Int))), ((w64 (i + (1 : Int))), ()))))
    else none
   else none
  else some (.stop ((a, (k, ()))))
noncomputable def laws_markAngleS (a : List (Int × (Int × Unit))) (k : Int) : Option (Int × (List (Int × (Int × Unit)))) :=
  (loop laws_markAngleS_l0 (a, k, (0 : Int), ())).bind fun r0 =>
  some (r0.2.1, r0.1)
noncomputable def laws_markAngleSS_l0 : (List (List (Int × (Int × Unit)))) × Int × Int × Unit → Option (Ctl ((List (List (Int × (Int × Unit)))) × Int × Int × Unit) (((List (List (Int × (Int × Unit)))) × Int × Unit)))
  | (a, (k, (i, ()))) =>
    bif (decide (i < ((a.length : Nat) : Int))) then
   bif ((decide ((0 : Int) ≤ i)) && (decide (i < ((a.length : Nat) : Int)))) then
    (laws_markAngleS (a.getD i.toNat ([] : List (Int × (Int × Unit)))) k).bind fun r0 =>
    some (.next ((a.set i.toNat r0.2), (r0.1, ((w64 (i + (1 : Int))), ()))))
   else none
  else some (.stop ((a, (k, ()))))
noncomputable def laws_markAngleSS (a : List (List (Int × (Int × Unit)))) (k : Int) : Option (Int × (List (List (Int × (Int × Unit))))) :=
  (loop laws_markAngleSS_l0 (a, k, (0 : Int), ())).bind fun r0 =>
  some (r0.2.1, r0.1)
noncomputable def laws_heldAngleS_l0 : (List (Int × (Int × Unit))) × Int × Int × Unit → Option (Ctl ((List (Int × (Int × Unit))) × Int × Int × Unit) ((Int × Unit) ⊕ (Int × Unit)))
  | (a, (k, (i, ()))) =>
    bif (decide (i < ((a.length : Nat) : Int))) then
   bif ((decide ((0 : Int) ≤ i)) && (decide (i < ((a.length : Nat) : Int)))) then
    bif ((a.getD i.toNat ((0 : Int), (0 : Int), ())).1 != k) then
     some (.stop (.inl ((-1 : Int), ())))
    else bif ((decide ((0 : Int) ≤ i)) && (decide (i < ((a.length : Nat) : Int)))) then
      bif ((a.getD i.toNat ((0 : Int), (0 : Int), ())).2.1 != (w64 (k + (1 : Int)))) then
       some (.stop (.inl ((-1 : Int), ())))
      else some (.next (a, ((w64 ((w64 (k + (1 : Int))) + (1 : Int))), ((w64 (i + (1 : Int))), ()))))
     else none
   else none
  else some (.stop (.inr ((k, ()))))
noncomputable def laws_heldAngleS (a : List (Int × (Int × Unit))) (k : Int) : Option (Int) :=
  (loop laws_heldAngleS_l0 (a, k, (0 : Int), ())).bind fun r0 =>
  alt r0 (fun r1 =>
   some (r1.1))
  (fun r2 =>
   some (r2.1))
noncomputable def laws_heldAngleSS_l0 : (List (List (Int × (Int × Unit)))) × Int × Int × Unit → Option (Ctl ((List (List (Int × (Int × Unit)))) × Int × Int × Unit) ((Int × Unit) ⊕ (Int × Unit)))
  | (a, (k, (i, ()))) =>
    bif (decide (i < ((a.length : Nat) : Int))) then
   bif ((decide ((0 : Int) ≤ i)) && (decide (i < ((a.length : Nat) : Int)))) then
    (laws_heldAngleS (a.getD i.toNat ([] : List (Int × (Int × Unit)))) k).bind fun r0 =>
    bif (decide (r0 < (0 : Int))) then
     some (.stop (.inl ((-1 : Int), ())))
    else some (.next (a, (r0, ((w64 (i + (1 : Int))), ()))))
   else none
  else some (.stop (.inr ((k, ()))))
noncomputable def laws_heldAngleSS (a : List (List (Int × (Int × Unit)))) (k : Int) : Option (Int) :=
  (loop laws_heldAngleSS_l0 (a, k, (0 : Int), ())).bind fun r0 =>
  alt r0 (fun r1 =>
   some (r1.1))
  (fun r2 =>
   some (r2.1))
noncomputable def laws_FnExactEndClasses (aList : List ((Int × (Int × Unit)) × ((Int × (Int × Unit)) × Unit))) : Option (Bool) :=
  (laws_szLeafS aList (1048576 : Int)).bind fun r0 =>
  bif (decide (r0 < (0 : Int))) then
   some (true)
  else (laws_toLeafS aList).bind fun r1 =>
   (spec_EndClasses r1).bind fun r2 =>
   (laws_toLeafS aList).bind fun r3 =>
   (impl_EndClasses r3).bind fun r4 =>
   (laws_eqAngleSS r4.1 r2.1).bind fun r5 =>
   bif (!r5) then
    some (false)
   else bif (r4.2 != r2.2) then
     some (false)
    else (laws_toLeafS aList).bind fun r6 =>
     (laws_eqLeafS r3 r6).bind fun r7 =>
     bif (!r7) then
      some (false)
     else (laws_markLeafS r3 (1 : Int)).bind fun r8 =>
      bif (decide (r8.1 < (0 : Int))) then
       some (false)
      else (laws_eqAngleSS r4.1 r2.1).bind fun r9 =>
       bif (!r9) then
        some (false)
       else bif (r4.2 != r2.2) then
         some (false)
        else (laws_markAngleSS r4.1 (1 : Int)).bind fun r10 =>
         (laws_heldAngleSS r10.2 (1 : Int)).bind fun r11 =>
         bif (decide (r11 < (0 : Int))) then
          some (false)
         else bif (r11 != r10.1) then
           some (false)
          else (laws_toLeafS aList).bind fun r12 =>
           (impl_EndClasses r12).bind fun r13 =>
           (laws_eqAngleSS r13.1 r2.1).bind fun r14 =>
           bif (!r14) then
            some (false)
           else bif (r13.2 != r2.2) then
             some (false)
            else (laws_heldAngleSS r10.2 (1 : Int)).bind fun r15 =>
             bif (decide (r15 < (0 : Int))) then
              some (false)
             else bif (r15 != r10.1) then
               some (false)
              else some (true)
end Go.K.Pure

/- Plain laws, part L: loops, words. -/
set_option linter.unusedVariables false
set_option linter.unusedSimpArgs false
namespace Go.K.Pure

theorem w64_id {n : Int} (h1 : -9223372036854775808 ≤ n) (h2 : n < 9223372036854775808) : w64 n = n := by
  simp [w64, IntKind.wrap, IntKind.bits, IntKind.signed]; omega
/-- A loop with an invariant and a measure. -/
theorem loop_inv {α β : Type} {step : α → Option (Ctl α β)} (I : α → Prop) (μ : α → Nat) (Q : β → Prop)
    (h : ∀ a, I a → (∃ b, step a = some (.stop b) ∧ Q b) ∨ ∃ a', step a = some (.next a') ∧ I a' ∧ μ a' < μ a) : ∀ a, I a → ∃ b, loop step a = some b ∧ Q b := by
  have key : ∀ n a, μ a ≤ n → I a → ∃ b, loop step a = some b ∧ Q b := by
    intro n
    induction n with
    | zero =>
      intro a hm ha
      rcases h a ha with ⟨b, h1, h2⟩ | ⟨a', _, _, h3⟩
      · exact ⟨b, by rw [loop_eq, h1], h2⟩
      · omega
    | succ n ih =>
      intro a hm ha
      rcases h a ha with ⟨b, h1, h2⟩ | ⟨a', h1, h2, h3⟩
      · exact ⟨b, by rw [loop_eq, h1], h2⟩
      · obtain ⟨b, h4, h5⟩ := ih a' (by omega) h2
        exact ⟨b, by rw [loop_eq, h1]; exact h4, h5⟩
  exact fun a ha => key (μ a) a (Nat.le_refl _) ha
/-- A counted loop: from state `s i` to `s (i + 1)` while `i < n`. -/
theorem loop_count {α β : Type} {step : α → Option (Ctl α β)} (s : Nat → α) (n : Nat) (b : β) (h1 : ∀ i, i < n → step (s i) = some (.next (s (i + 1)))) (h2 : step (s n) = some (.stop b)) : ∀ i, i ≤ n → loop step (s i) = some b := by
  have key : ∀ k i, n - i = k → i ≤ n → loop step (s i) = some b := by
    intro k
    induction k with
    | zero =>
      intro i hk hi
      have : i = n := by omega
      subst this
      rw [loop_eq, h2]
    | succ k ih =>
      intro i hk hi
      rw [loop_eq, h1 i (by omega)]
      exact ih (i + 1) (by omega) (by omega)
  exact fun i hi => key _ i rfl hi
/-- A counted loop that may stop early: it stops at the first `i` at which `stop i` gives something. -/
theorem loop_find {α β : Type} {step : α → Option (Ctl α β)} (s : Nat → α) (n : Nat) (b : β) (stop : Nat → Option β) (h1 : ∀ i, i < n → step (s i) = match stop i with | some c => some (.stop c) | none => some (.next (s (i + 1)))) (h2 : step (s n) = some (.stop b)) :
    ∀ i, i ≤ n → (loop step (s i) = some b ∧ ∀ j, i ≤ j → j < n → stop j = none) ∨ ∃ j c, i ≤ j ∧ j < n ∧ stop j = some c ∧ loop step (s i) = some c ∧ ∀ k, i ≤ k → k < j → stop k = none := by
  have key : ∀ k i, n - i = k → i ≤ n → (loop step (s i) = some b ∧ ∀ j, i ≤ j → j < n → stop j = none) ∨ ∃ j c, i ≤ j ∧ j < n ∧ stop j = some c ∧ loop step (s i) = some c ∧ ∀ k, i ≤ k → k < j → stop k = none := by
    intro k
    induction k with
    | zero =>
      intro i hk hi
      have : i = n := by omega
      subst this
      exact .inl ⟨by rw [loop_eq, h2], fun j h3 h4 => by omega⟩
    | succ k ih =>
      intro i hk hi
      have h3 := h1 i (by omega)
      cases hs : stop i with
      | some c =>
        rw [hs] at h3
        exact .inr ⟨i, c, Nat.le_refl _, by omega, hs, by rw [loop_eq, h3], fun k h4 h5 => by omega⟩
      | none =>
        rw [hs] at h3
        rcases ih (i + 1) (by omega) (by omega) with ⟨h4, h5⟩ | ⟨j, c, h4, h5, h6, h7, h8⟩
        · refine .inl ⟨by rw [loop_eq, h3]; exact h4, fun j h6 h7 => ?_⟩
          by_cases hj : j = i
          · subst hj; exact hs
          · exact h5 j (by omega) h7
        · refine .inr ⟨j, c, by omega, h5, h6, by rw [loop_eq, h3]; exact h7, fun k h9 h10 => ?_⟩
          by_cases hj : k = i
          · subst hj; exact hs
          · exact h8 k (by omega) h10
  exact fun i hi => key _ i rfl hi
theorem getD_at {α : Type} {l : List α} {i : Nat} {d : α} (h : i < l.length) : l.getD i d = l[i] := by
  simp [List.getD_eq_getElem?_getD, h]

abbrev Ang := Int × Int × Unit
abbrev Lf := Ang × Ang × Unit
abbrev InI (n : Int) : Prop := -9223372036854775808 ≤ n ∧ n < 9223372036854775808
theorem bif_pos {α : Type} {p : Prop} [Decidable p] (h : p) {x y : α} : (bif decide p then x else y) = x := by simp [h]
theorem bif_neg {α : Type} {p : Prop} [Decidable p] (h : ¬ p) {x y : α} : (bif decide p then x else y) = y := by simp [h]
end Go.K.Pure

/- Plain laws, part A: angles. -/
set_option linter.unusedVariables false
set_option linter.unusedSimpArgs false
namespace Go.K.Pure

abbrev InA (a : Ang) : Prop := InI a.1 ∧ InI a.2.1
abbrev isA (a : Ang) : Prop := 1 ≤ a.2.1 ∧ a.2.1 ≤ 8191 ∧ 0 ≤ a.1 ∧ a.1 < a.2.1 ∧ Int.gcd a.1 a.2.1 = 1
theorem gcd_step {x y : Int} (hx : 0 ≤ x) (hy : 0 < y) : Int.gcd y (x.tmod y) = Int.gcd x y := by
  rw [Int.tmod_eq_emod_of_nonneg hx]
  obtain ⟨x, rfl⟩ := Int.eq_ofNat_of_zero_le hx
  obtain ⟨y, rfl⟩ := Int.eq_ofNat_of_zero_le (Int.le_of_lt hy)
  show Nat.gcd y (x % y) = Nat.gcd x y
  rw [Nat.gcd_comm y, ← Nat.gcd_rec, Nat.gcd_comm]
theorem spec_div {a b : Int} (ha : 0 ≤ a) (hb : 0 ≤ b) : spec_l01Divisor a b = some (Int.gcd a b : Int) := by
  unfold spec_l01Divisor
  obtain ⟨r, h1, h2⟩ := loop_inv (step := spec_l01Divisor_l0) (fun s => 0 ≤ s.1 ∧ 0 ≤ s.2.1 ∧ Int.gcd s.1 s.2.1 = Int.gcd a b) (fun s => s.2.1.toNat) (fun r => r.1 = (Int.gcd a b : Int)) (by
    rintro ⟨x, y, ⟨⟩⟩ ⟨hx, hy, hg⟩
    simp only at hx hy hg
    by_cases h : y > 0
    · right
      refine ⟨(y, x.tmod y, ()), ?_, ⟨hy, Int.tmod_nonneg _ hx, ?_⟩, ?_⟩
      · have : ¬ y = 0 := by omega
        have e : (y == 0) = false := by simpa using this
        simp [spec_l01Divisor_l0, h, e]
      · rw [gcd_step hx h]; exact hg
      · have h1 := Int.tmod_lt_of_pos x h
        have h2 := Int.tmod_nonneg y hx
        simp only
        omega
    · left
      have : y = 0 := by omega
      subst this
      refine ⟨(x, ()), by simp [spec_l01Divisor_l0], ?_⟩
      simp only
      rw [← hg, Int.gcd_zero_right]
      omega) (a, b, ()) ⟨ha, hb, rfl⟩
  rw [h1]
  simp only [Option.bind_some]
  rw [h2]
theorem impl_div {a b : Int} (ha : 0 ≤ a) (hb : 0 ≤ b) : impl_divisor a b = some (Int.gcd a b : Int) := by
  unfold impl_divisor
  obtain ⟨r, h1, h2⟩ := loop_inv (step := impl_divisor_l0) (fun s => 0 ≤ s.1 ∧ 0 ≤ s.2.1 ∧ Int.gcd s.1 s.2.1 = Int.gcd a b) (fun s => s.2.1.toNat) (fun r => r.1 = (Int.gcd a b : Int)) (by
    rintro ⟨x, y, ⟨⟩⟩ ⟨hx, hy, hg⟩
    simp only at hx hy hg
    by_cases h : y > 0
    · right
      refine ⟨(y, x.tmod y, ()), ?_, ⟨hy, Int.tmod_nonneg _ hx, ?_⟩, ?_⟩
      · have : ¬ y = 0 := by omega
        have e : (y == 0) = false := by simpa using this
        have e2 : (y != 0) = true := by simpa using this
        simp [impl_divisor_l0, e, e2]
      · rw [gcd_step hx h]; exact hg
      · have h1 := Int.tmod_lt_of_pos x h
        have h2 := Int.tmod_nonneg y hx
        simp only
        omega
    · left
      have : y = 0 := by omega
      subst this
      refine ⟨(x, ()), by simp [impl_divisor_l0], ?_⟩
      simp only
      rw [← hg, Int.gcd_zero_right]
      omega) (a, b, ()) ⟨ha, hb, rfl⟩
  rw [h1]
  simp only [Option.bind_some]
  rw [h2]
theorem spec_in {n l h : Int} : spec_l01In n l h = some (decide (l ≤ n ∧ n ≤ h)) := by
  unfold spec_l01In
  by_cases h1 : n ≥ l
  · have : l ≤ n := h1
    simp [h1, this]
  · have : ¬ l ≤ n := h1
    simp [h1, this]
theorem impl_in {n l h : Int} : impl_within n l h = some (decide (l ≤ n ∧ n ≤ h)) := by
  unfold impl_within
  by_cases h1 : l ≤ n <;> simp [h1]
theorem spec_isA {a : Ang} (ha : InA a) : spec_l01Is a = some (decide (isA a)) := by
  obtain ⟨⟨a1, a2⟩, a3, a4⟩ := ha
  unfold spec_l01Is isA
  rw [spec_in]
  by_cases h1 : 1 ≤ a.2.1 ∧ a.2.1 ≤ 8191
  · rw [w64_id (by omega) (by omega)]
    simp only [Option.bind_some, h1, and_self, decide_true, cond_true, spec_in, true_and]
    by_cases h2 : 0 ≤ a.1 ∧ a.1 ≤ a.2.1 - 1
    · simp only [h2, and_self, decide_true, cond_true]
      rw [spec_div (by omega) (by omega)]
      have h3 : a.1 < a.2.1 := by omega
      simp only [Option.bind_some, h3, true_and]
      congr 1
      by_cases hg : Int.gcd a.1 a.2.1 = 1
      · simp [hg]
      · have : ¬ ((Int.gcd a.1 a.2.1 : Nat) : Int) = 1 := by omega
        simp [hg, this]
    · simp only [h2, decide_false, cond_false]
      congr 1
      symm
      exact decide_eq_false (by omega)
  · simp only [Option.bind_some, h1, decide_false, cond_false]
    congr 1
    symm
    exact decide_eq_false (by omega)
theorem impl_isA {a : Ang} (ha : InA a) : impl_IsAngle a = some (decide (isA a)) := by
  obtain ⟨⟨a1, a2⟩, a3, a4⟩ := ha
  unfold impl_IsAngle isA
  rw [impl_in]
  by_cases h1 : 1 ≤ a.2.1 ∧ a.2.1 ≤ 8191
  · rw [w64_id (by omega) (by omega)]
    simp only [Option.bind_some, h1, and_self, decide_true, cond_true, impl_in, true_and]
    by_cases h2 : 0 ≤ a.1 ∧ a.1 ≤ a.2.1 - 1
    · simp only [h2, and_self, decide_true, cond_true]
      rw [impl_div (by omega) (by omega), Int.gcd_comm]
      have h3 : a.1 < a.2.1 := by omega
      simp only [Option.bind_some, h3, true_and]
      congr 1
      by_cases hg : Int.gcd a.1 a.2.1 = 1
      · simp [hg]
      · have : ¬ ((Int.gcd a.1 a.2.1 : Nat) : Int) = 1 := by omega
        simp [hg, this]
    · simp only [h2, decide_false, cond_false]
      congr 1
      symm
      exact decide_eq_false (by omega)
  · simp only [Option.bind_some, h1, decide_false, cond_false]
    congr 1
    symm
    exact decide_eq_false (by omega)
end Go.K.Pure

/- Plain laws, part B: the order of angles. -/
set_option linter.unusedVariables false
set_option linter.unusedSimpArgs false
namespace Go.K.Pure

theorem common : ∀ n : Nat, ∃ K : Int, 0 < K ∧ ∀ d : Int, 1 ≤ d → d ≤ n → d ∣ K
  | 0 => ⟨1, by omega, fun d h1 h2 => by omega⟩
  | n + 1 => by
    obtain ⟨K, h1, h2⟩ := common n
    refine ⟨K * (n + 1), Int.mul_pos h1 (by omega), fun d h3 h4 => ?_⟩
    by_cases h : d ≤ n
    · exact Int.dvd_trans (h2 d h3 h) ⟨(n : Int) + 1, rfl⟩
    · have : d = (n : Int) + 1 := by omega
      subst this
      exact ⟨K, by rw [Int.mul_comm]⟩
/-- A common multiple of all denominators. -/
noncomputable def KK : Int := Classical.choose (common 8191)
theorem KK_pos : 0 < KK := (Classical.choose_spec (common 8191)).1
theorem KK_dvd {d : Int} (h1 : 1 ≤ d) (h2 : d ≤ 8191) : d ∣ KK := (Classical.choose_spec (common 8191)).2 d h1 h2
/-- An angle's value, over the common denominator. -/
noncomputable def val (a : Ang) : Int := a.1 * (KK / a.2.1)
theorem KK_div {a : Ang} (h : isA a) : a.2.1 * (KK / a.2.1) = KK := Int.mul_ediv_cancel' (KK_dvd h.1 h.2.1)
theorem kd_pos {a : Ang} (h : isA a) : 0 < KK / a.2.1 := by
  have h1 := KK_div h
  have h2 := KK_pos
  have h3 := h.1
  by_cases h4 : 0 < KK / a.2.1
  · exact h4
  · exfalso
    have : a.2.1 * (KK / a.2.1) ≤ 0 := Int.mul_nonpos_of_nonneg_of_nonpos (by omega) (by omega)
    omega
theorem val_nonneg {a : Ang} (h : isA a) : 0 ≤ val a := Int.mul_nonneg h.2.2.1 (Int.le_of_lt (kd_pos h))
theorem val_lt_KK {a : Ang} (h : isA a) : val a < KK := by
  have h1 := Int.mul_lt_mul_of_pos_right h.2.2.2.1 (kd_pos h)
  rw [KK_div h] at h1
  exact h1
/-- The difference of two values. -/
theorem val_cross {a b : Ang} (ha : isA a) (hb : isA b) : (val b - val a) * (a.2.1 * b.2.1) = (b.1 * a.2.1 - a.1 * b.2.1) * KK := by
  have h1 := KK_div ha
  have h2 := KK_div hb
  unfold val
  generalize KK / a.2.1 = x at *
  generalize KK / b.2.1 = y at *
  have e1 : b.1 * y * (a.2.1 * b.2.1) = b.1 * a.2.1 * KK := by rw [← h2]; ac_rfl
  have e2 : a.1 * x * (a.2.1 * b.2.1) = a.1 * b.2.1 * KK := by rw [← h1]; ac_rfl
  rw [Int.sub_mul, Int.sub_mul, e1, e2]
def lt (a b : Ang) : Prop := a.1 * b.2.1 < b.1 * a.2.1
instance (a b : Ang) : Decidable (lt a b) := by unfold lt; infer_instance
theorem den_pos {a b : Ang} (ha : isA a) (hb : isA b) : 0 < a.2.1 * b.2.1 := Int.mul_pos (by have := ha.1; omega) (by have := hb.1; omega)
theorem lt_val {a b : Ang} (ha : isA a) (hb : isA b) : lt a b ↔ val a < val b := by
  have h1 := val_cross ha hb
  have h2 := den_pos ha hb
  have h3 := KK_pos
  unfold lt
  constructor
  · intro h
    have : 0 < (b.1 * a.2.1 - a.1 * b.2.1) * KK := Int.mul_pos (by omega) h3
    rw [← h1] at this
    have := Int.pos_of_mul_pos_left this h2
    omega
  · intro h
    have : 0 < (val b - val a) * (a.2.1 * b.2.1) := Int.mul_pos (by omega) h2
    rw [h1] at this
    have := Int.pos_of_mul_pos_left this h3
    omega
theorem dvd_of_gcd {a b c : Int} (h : a ∣ b * c) (g : Int.gcd a b = 1) : a ∣ c := by
  rw [← Int.natAbs_dvd_natAbs, Int.natAbs_mul] at h
  rw [← Int.natAbs_dvd_natAbs]
  exact Nat.Coprime.dvd_of_dvd_mul_left (show Nat.Coprime a.natAbs b.natAbs from g) h
theorem val_inj {a b : Ang} (ha : isA a) (hb : isA b) (h : val a = val b) : a = b := by
  have h1 := val_cross ha hb
  have h3 := KK_pos
  rw [h, Int.sub_self, Int.zero_mul] at h1
  have h4 : a.1 * b.2.1 = b.1 * a.2.1 := by
    rcases Int.mul_eq_zero.1 h1.symm with h5 | h5 <;> omega
  obtain ⟨a1, a2, ⟨⟩⟩ := a
  obtain ⟨b1, b2, ⟨⟩⟩ := b
  simp only [isA] at ha hb h4 ⊢
  obtain ⟨x1, x2, x3, x4, x5⟩ := ha
  obtain ⟨y1, y2, y3, y4, y5⟩ := hb
  have d1 : a2 ∣ b2 := by
    have : a2 ∣ a1 * b2 := ⟨b1, by rw [h4, Int.mul_comm]⟩
    exact dvd_of_gcd this (by rw [Int.gcd_comm]; exact x5)
  have d2 : b2 ∣ a2 := by
    have : b2 ∣ b1 * a2 := ⟨a1, by rw [← h4, Int.mul_comm]⟩
    exact dvd_of_gcd this (by rw [Int.gcd_comm]; exact y5)
  have e : a2 = b2 := Int.dvd_antisymm (by omega) (by omega) d1 d2
  subst e
  have : a1 = b1 := Int.eq_of_mul_eq_mul_right (by omega) h4
  rw [this]
theorem mul_bnd {x y : Int} (h1 : 0 ≤ x) (h2 : x ≤ 8191) (h3 : 0 ≤ y) (h4 : y ≤ 8191) : 0 ≤ x * y ∧ x * y ≤ 67092481 := by
  refine ⟨Int.mul_nonneg h1 h3, ?_⟩
  have := Int.mul_le_mul h2 h4 h3 (by omega)
  omega
theorem cross_bnd {a b : Ang} (ha : isA a) (hb : isA b) : 0 ≤ a.1 * b.2.1 ∧ a.1 * b.2.1 ≤ 67092481 := by
  obtain ⟨x1, x2, x3, x4, x5⟩ := ha
  obtain ⟨y1, y2, y3, y4, y5⟩ := hb
  exact mul_bnd (by omega) (by omega) (by omega) (by omega)
theorem spec_less {a b : Ang} (ha : isA a) (hb : isA b) : spec_l01Less a b = some (decide (lt a b)) := by
  unfold spec_l01Less lt
  have h1 := cross_bnd ha hb
  have h2 := cross_bnd hb ha
  rw [w64_id (by omega) (by omega), w64_id (by omega) (by omega)]
theorem impl_cmp {x y : Int} : cmp_Compare_int64 x y = some (if x < y then -1 else if y < x then 1 else 0) := by
  unfold cmp_Compare_int64 cmp_isNaN_int64
  simp only [Option.bind_some, bne_self_eq_false, cond_false]
  by_cases h1 : x < y
  · simp [h1]
  · by_cases h2 : y < x
    · have : x > y := h2
      simp [h1, this]
    · have : ¬ x > y := h2
      simp [h1, this]
def cmpA (a b : Ang) : Int := if lt a b then -1 else if lt b a then 1 else 0
theorem impl_compare {a b : Ang} (ha : isA a) (hb : isA b) : impl_Angle_compare a b = some (cmpA a b) := by
  unfold impl_Angle_compare cmpA lt
  have h1 := cross_bnd ha hb
  have h2 := cross_bnd hb ha
  rw [w64_id (by omega) (by omega), w64_id (by omega) (by omega), impl_cmp]
  rfl
end Go.K.Pure

/- Plain laws, part C: orders of three, crossing. -/
set_option linter.unusedVariables false
set_option linter.unusedSimpArgs false
namespace Go.K.Pure

theorem mul_lt_iff {x y c : Int} (hc : 0 < c) : x * c < y * c ↔ x < y := ⟨fun h => Int.lt_of_mul_lt_mul_right h (Int.le_of_lt hc), fun h => Int.mul_lt_mul_of_pos_right h hc⟩
theorem angle_ok {num den : Int} (h1 : 0 < den) (h2 : den ≤ 67092481) (h3 : -67092481 ≤ num) (h4 : num ≤ 67092481) :
    ∃ g n d : Int, 0 < g ∧ num % den = g * n ∧ den = g * d ∧ 0 ≤ n ∧ n < d ∧ d ≤ den ∧ impl_angle num den = some (n, d, ()) := by
  have e0 : (den == 0) = false := by simpa using (by omega : ¬ den = 0)
  have m1 : -den < num.tmod den := Int.lt_tmod_of_pos num h1
  have m2 : num.tmod den < den := Int.tmod_lt_of_pos num h1
  have e1 : (num.tmod den + den).tmod den = num % den := by
    rw [Int.tmod_eq_emod_of_nonneg (by omega), Int.add_emod_right, Int.emod_eq_emod_iff_emod_sub_eq_zero]
    have : num.tmod den - num = den * (-(num.tdiv den)) := by
      have := Int.mul_tdiv_add_tmod num den
      rw [Int.mul_neg]; omega
    rw [this]
    exact Int.mul_emod_right _ _
  have n1 := Int.emod_nonneg num (show den ≠ 0 by omega)
  have n2 := Int.emod_lt_of_pos num h1
  unfold impl_angle
  simp only [e0, Bool.not_false, cond_true]
  rw [w64_id (n := num.tmod den + den) (by omega) (by omega), e1]
  rw [impl_div (by omega) (by omega)]
  simp only [Option.bind_some]
  have g0 : 0 < Int.gcd den (num % den) := Int.gcd_pos_of_ne_zero_left _ (by omega)
  generalize hg : Int.gcd den (num % den) = g at g0
  have e2 : (((g : Nat) : Int) == 0) = false := by simpa using (by omega : ¬ (g : Int) = 0)
  simp only [e2, Bool.not_false, cond_true]
  obtain ⟨d, hd⟩ : (g : Int) ∣ den := by rw [← hg]; exact Int.gcd_dvd_left _ _
  obtain ⟨n, hn⟩ : (g : Int) ∣ num % den := by rw [← hg]; exact Int.gcd_dvd_right _ _
  have t1 : (num % den).tdiv (g : Int) = n := by rw [hn]; exact Int.mul_tdiv_cancel_left _ (by omega)
  have t2 : den.tdiv (g : Int) = d := by
    conv => lhs; rw [hd]
    exact Int.mul_tdiv_cancel_left _ (by omega)
  have hgp : (0 : Int) < g := by omega
  have d0 : 0 < d := by
    rw [hd] at h1
    exact Int.pos_of_mul_pos_right h1 hgp
  have n0 : 0 ≤ n := by
    rw [← t1]; exact Int.tdiv_nonneg n1 (by omega)
  have nd : n < d := by
    rw [hn] at n2
    have n2' : n * g < d * g := by rw [Int.mul_comm n, Int.mul_comm d, ← hd]; exact n2
    exact Int.lt_of_mul_lt_mul_right n2' (by omega)
  have dd : d ≤ den := by
    have : d * 1 ≤ d * g := Int.mul_le_mul_of_nonneg_left (by omega) (by omega)
    rw [hd, Int.mul_comm (g : Int)]; omega
  refine ⟨g, n, d, hgp, hn, hd, n0, nd, dd, ?_⟩
  rw [t1, t2, w64_id (by omega) (by omega), w64_id (by omega) (by omega)]
/-- How far it is from one to the other, ahead. -/
noncomputable def dv (x y : Ang) : Int := if val y ≤ val x then val x - val y else val x - val y + KK
theorem minus_ok {a b : Ang} (ha : isA a) (hb : isA b) : ∃ n d : Int, impl_Angle_minus b a = some (n, d, ()) ∧ 0 ≤ n ∧ n < d ∧ d ≤ 67092481 ∧ n * KK = dv b a * d := by
  have c1 := cross_bnd hb ha
  have c2 := cross_bnd ha hb
  have c3 := mul_bnd (show 0 ≤ b.2.1 by have := hb.1; omega) hb.2.1 (show 0 ≤ a.2.1 by have := ha.1; omega) ha.2.1
  have c4 := den_pos hb ha
  have hv := val_cross ha hb
  have v1 := val_nonneg ha
  have v2 := val_lt_KK ha
  have v3 := val_nonneg hb
  have v4 := val_lt_KK hb
  have hK := KK_pos
  have hlt := lt_val hb ha
  unfold impl_Angle_minus
  rw [w64_id (n := b.1 * a.2.1) (by omega) (by omega), w64_id (n := a.1 * b.2.1) (by omega) (by omega), w64_id (n := b.1 * a.2.1 - a.1 * b.2.1) (by omega) (by omega), w64_id (n := b.2.1 * a.2.1) (by omega) (by omega)]
  obtain ⟨g, n, d, h1, h2, h3, h4, h5, h6, h7⟩ := angle_ok (num := b.1 * a.2.1 - a.1 * b.2.1) (den := b.2.1 * a.2.1) c4 c3.2 (by omega) (by omega)
  refine ⟨n, d, by rw [h7]; rfl, h4, h5, by omega, ?_⟩
  -- the fractional part, over the common denominator
  have key : (b.1 * a.2.1 - a.1 * b.2.1) % (b.2.1 * a.2.1) * KK = dv b a * (b.2.1 * a.2.1) := by
    have hn1 := hb.2.2.2.1
    have hn2 := ha.2.2.2.1
    have p1 : b.1 * a.2.1 < b.2.1 * a.2.1 := Int.mul_lt_mul_of_pos_right hn1 (by have := ha.1; omega)
    have p2 : a.1 * b.2.1 < a.2.1 * b.2.1 := Int.mul_lt_mul_of_pos_right hn2 (by have := hb.1; omega)
    rw [Int.mul_comm a.2.1 b.2.1] at hv p2
    unfold lt at hlt
    unfold dv
    generalize b.2.1 * a.2.1 = D at *
    by_cases hc : val a ≤ val b
    · rw [if_pos hc, hv]
      have : ¬ (b.1 * a.2.1 < a.1 * b.2.1) := fun h => by have := hlt.1 h; omega
      rw [Int.emod_eq_of_lt (by omega) (by omega)]
    · rw [if_neg hc, Int.add_mul, hv]
      have : b.1 * a.2.1 < a.1 * b.2.1 := hlt.2 (by omega)
      rw [← Int.add_emod_right, Int.emod_eq_of_lt (by omega) (by omega), Int.add_mul, Int.mul_comm KK]
  rw [h2, h3] at key
  have key' : (n * KK) * g = (dv b a * d) * g := by
    calc (n * KK) * g = g * n * KK := by ac_rfl
      _ = dv b a * (g * d) := key
      _ = (dv b a * d) * g := by ac_rfl
  exact Int.eq_of_mul_eq_mul_right (by omega) key'
theorem impl_order_ok {a b c : Ang} (ha : isA a) (hb : isA b) (hc : isA c) : impl_order a b c = some (if a = b ∨ b = c ∨ a = c then 0 else if dv b a < dv c a then 1 else -1) := by
  have beqA : ∀ x y : Ang, ((x.1 == y.1) && ((x.2.1 == y.2.1) && true)) = decide (x = y) := by
    rintro ⟨x1, x2, ⟨⟩⟩ ⟨y1, y2, ⟨⟩⟩
    by_cases h1 : x1 = y1 <;> by_cases h2 : x2 = y2 <;> simp [h1, h2]
  unfold impl_order
  rw [beqA, beqA, beqA]
  by_cases h1 : a = b
  · simp [h1]
  · by_cases h2 : b = c
    · simp [h1, h2]
    · by_cases h3 : a = c
      · simp [h1, h2, h3]
      · simp only [h1, h2, h3, decide_false, cond_false, or_self, if_false]
        obtain ⟨n0, d0, e0, p1, p2, p3, p4⟩ := minus_ok ha hb
        obtain ⟨n1, d1, e1, q1, q2, q3, q4⟩ := minus_ok ha hc
        rw [e0, e1]
        simp only [Option.bind_some]
        have hK := KK_pos
        have b1 : 0 ≤ n0 * d1 ∧ n0 * d1 ≤ 67092481 * 67092481 := ⟨Int.mul_nonneg p1 (by omega), by
          have := Int.mul_le_mul (show n0 ≤ 67092481 by omega) q3 (by omega) (by omega); omega⟩
        have b2 : 0 ≤ n1 * d0 ∧ n1 * d0 ≤ 67092481 * 67092481 := ⟨Int.mul_nonneg q1 (by omega), by
          have := Int.mul_le_mul (show n1 ≤ 67092481 by omega) p3 (by omega) (by omega); omega⟩
        unfold impl_Angle_compare
        simp only
        rw [w64_id (n := n0 * d1) (by omega) (by omega), w64_id (n := n1 * d0) (by omega) (by omega), impl_cmp]
        have hiff : n0 * d1 < n1 * d0 ↔ dv b a < dv c a := by
          have k1 : n0 * d1 * KK = dv b a * (d0 * d1) := by
            calc n0 * d1 * KK = n0 * KK * d1 := by ac_rfl
              _ = dv b a * d0 * d1 := by rw [p4]
              _ = _ := by ac_rfl
          have k2 : n1 * d0 * KK = dv c a * (d0 * d1) := by
            calc n1 * d0 * KK = n1 * KK * d0 := by ac_rfl
              _ = dv c a * d1 * d0 := by rw [q4]
              _ = _ := by ac_rfl
          rw [← mul_lt_iff hK, k1, k2, mul_lt_iff (Int.mul_pos (by omega) (by omega))]
        simp only [Option.bind_some]
        by_cases h : n0 * d1 < n1 * d0
        · rw [if_pos h, if_pos (hiff.1 h)]; rfl
        · rw [if_neg h, if_neg (fun h' => h (hiff.2 h'))]
          split <;> rfl
end Go.K.Pure

/- Plain laws, part D: leaves. -/
set_option linter.unusedVariables false
set_option linter.unusedSimpArgs false
namespace Go.K.Pure

abbrev InL (l : Lf) : Prop := InA l.1 ∧ InA l.2.1
abbrev isL (l : Lf) : Prop := isA l.1 ∧ isA l.2.1 ∧ lt l.1 l.2.1
theorem beqA (x y : Ang) : ((x.1 == y.1) && ((x.2.1 == y.2.1) && true)) = decide (x = y) := by
  obtain ⟨x1, x2, ⟨⟩⟩ := x
  obtain ⟨y1, y2, ⟨⟩⟩ := y
  by_cases h1 : x1 = y1 <;> by_cases h2 : x2 = y2 <;> simp [h1, h2]
theorem spec_isL {l : Lf} (h : InL l) : spec_l03Is l = some (decide (isL l)) := by
  unfold spec_l03Is isL
  rw [spec_isA h.1]
  simp only [Option.bind_some]
  by_cases h1 : isA l.1
  · rw [decide_eq_true h1, cond_true, spec_isA h.2]
    simp only [Option.bind_some]
    by_cases h2 : isA l.2.1
    · rw [decide_eq_true h2, cond_true, spec_less h1 h2]
      simp [h1, h2]
    · rw [decide_eq_false h2, cond_false]
      simp [h2]
  · rw [decide_eq_false h1, cond_false]
    simp [h1]
theorem impl_isL {l : Lf} (h : InL l) : impl_IsLeaf l = some (decide (isL l)) := by
  unfold impl_IsLeaf isL
  rw [impl_isA h.1]
  simp only [Option.bind_some]
  by_cases h1 : isA l.1
  · rw [decide_eq_true h1, cond_true, impl_isA h.2]
    simp only [Option.bind_some]
    by_cases h2 : isA l.2.1
    · rw [decide_eq_true h2, cond_true, impl_compare h1 h2]
      unfold cmpA
      by_cases h3 : lt l.1 l.2.1
      · simp [h1, h2, h3]
      · by_cases h4 : lt l.2.1 l.1 <;> simp [h1, h2, h3, h4]
    · rw [decide_eq_false h2, cond_false]
      simp [h2]
  · rw [decide_eq_false h1, cond_false]
    simp [h1]
/-- The order of leaves. -/
def ltL (l m : Lf) : Prop := lt l.1 m.1 ∨ l.1 = m.1 ∧ lt l.2.1 m.2.1
instance (l m : Lf) : Decidable (ltL l m) := by unfold ltL; infer_instance
theorem spec_lessL {l m : Lf} (hl : isL l) (hm : isL m) : spec_l03Less l m = some (decide (ltL l m)) := by
  unfold spec_l03Less ltL
  rw [beqA]
  by_cases h : l.1 = m.1
  · have h0 : ¬ lt m.1 m.1 := by unfold lt; omega
    rw [decide_eq_true h, Bool.not_true, cond_false, spec_less hl.2.1 hm.2.1]
    simp [h, h0]
  · rw [decide_eq_false h, Bool.not_false, cond_true, spec_less hl.1 hm.1]
    simp [h]
theorem or2 (x y : Int) : cmp_Or_int [x, y] = some (if x ≠ 0 then x else y) := by
  unfold cmp_Or_int
  rw [loop_eq]
  by_cases h : x = 0
  · subst h
    simp only [cmp_Or_int_l0, List.length_cons, List.length_nil]
    have w1 : w64 1 = 1 := w64_id (by omega) (by omega)
    simp [w1]
    rw [loop_eq]
    by_cases h2 : y = 0
    · subst h2
      simp only [cmp_Or_int_l0]
      have w2 : w64 2 = 2 := w64_id (by omega) (by omega)
      simp [w2]
      rw [loop_eq]
      simp [cmp_Or_int_l0, alt]
    · have e : (y != 0) = true := by simpa using h2
      simp [cmp_Or_int_l0, e, alt]
  · have e : (x != 0) = true := by simpa using h
    simp [cmp_Or_int_l0, e, alt, h]
theorem impl_compareL {l m : Lf} (hl : isL l) (hm : isL m) : ∃ r, impl_Leaf_compare l m = some r ∧ (0 ≤ r ↔ ¬ ltL l m) := by
  unfold impl_Leaf_compare
  rw [impl_compare hl.1 hm.1, impl_compare hl.2.1 hm.2.1]
  simp only [Option.bind_some, or2]
  refine ⟨_, rfl, ?_⟩
  unfold ltL cmpA
  have t1 := lt_val hl.1 hm.1
  have t2 := lt_val hm.1 hl.1
  have t3 := lt_val hl.2.1 hm.2.1
  have t4 := lt_val hm.2.1 hl.2.1
  have t5 : l.1 = m.1 ↔ val l.1 = val m.1 := ⟨fun h => by rw [h], val_inj hl.1 hm.1⟩
  simp only [t1, t2, t3, t4, t5]
  by_cases c1 : val l.1 < val m.1
  · simp [c1]
  · by_cases c2 : val m.1 < val l.1
    · have : ¬ val l.1 = val m.1 := by omega
      simp [c1, c2, this]
    · have : val l.1 = val m.1 := by omega
      simp only [this, Int.lt_irrefl, if_false, ne_eq, not_true_eq_false, false_or, true_and]
      by_cases c3 : val l.2.1 < val m.2.1
      · simp [c3]
      · by_cases c4 : val m.2.1 < val l.2.1 <;> simp [c3, c4]
/-- Leaves cross. -/
def X (l m : Lf) : Prop := val l.1 < val m.1 ∧ val m.1 < val l.2.1 ∧ val l.2.1 < val m.2.1 ∨ val m.1 < val l.1 ∧ val l.1 < val m.2.1 ∧ val m.2.1 < val l.2.1
theorem spec_within {x a b : Ang} (hx : isA x) (ha : isA a) (hb : isA b) (h : lt a b) : spec_l01Within x a b = some (decide (lt a x ∧ lt x b)) := by
  unfold spec_l01Within
  rw [spec_less ha hb, decide_eq_true h]
  simp only [Option.bind_some, cond_true]
  rw [spec_less ha hx]
  simp only [Option.bind_some]
  by_cases h1 : lt a x
  · rw [decide_eq_true h1, cond_true, spec_less hx hb]
    simp [h1]
  · rw [decide_eq_false h1, cond_false]
    simp [h1]
open Classical in
theorem spec_cross {l m : Lf} (hl : isL l) (hm : isL m) : spec_l03Cross l m = some (decide (X l m)) := by
  have t1 := (lt_val hl.1 hl.2.1).1 hl.2.2
  have t2 := (lt_val hm.1 hm.2.1).1 hm.2.2
  have e1 : l.1 = m.1 ↔ val l.1 = val m.1 := ⟨fun h => by rw [h], val_inj hl.1 hm.1⟩
  have e2 : l.1 = m.2.1 ↔ val l.1 = val m.2.1 := ⟨fun h => by rw [h], val_inj hl.1 hm.2.1⟩
  have e3 : l.2.1 = m.1 ↔ val l.2.1 = val m.1 := ⟨fun h => by rw [h], val_inj hl.2.1 hm.1⟩
  have e4 : l.2.1 = m.2.1 ↔ val l.2.1 = val m.2.1 := ⟨fun h => by rw [h], val_inj hl.2.1 hm.2.1⟩
  have nX : (val l.1 = val m.1 ∨ val l.1 = val m.2.1 ∨ val l.2.1 = val m.1 ∨ val l.2.1 = val m.2.1) → ¬ X l m := by unfold X; omega
  unfold spec_l03Cross
  rw [beqA, beqA, beqA, beqA]
  by_cases h1 : l.1 = m.1
  · rw [decide_eq_true h1, cond_true, decide_eq_false (nX (.inl (e1.1 h1)))]
  rw [decide_eq_false h1, cond_false]
  by_cases h2 : l.1 = m.2.1
  · rw [decide_eq_true h2, cond_true, decide_eq_false (nX (.inr (.inl (e2.1 h2))))]
  rw [decide_eq_false h2, cond_false]
  by_cases h3 : l.2.1 = m.1
  · rw [decide_eq_true h3, cond_true, decide_eq_false (nX (.inr (.inr (.inl (e3.1 h3)))))]
  rw [decide_eq_false h3, cond_false]
  by_cases h4 : l.2.1 = m.2.1
  · rw [decide_eq_true h4, cond_true, decide_eq_false (nX (.inr (.inr (.inr (e4.1 h4)))))]
  rw [decide_eq_false h4, cond_false]
  rw [spec_within hl.1 hm.1 hm.2.1 hm.2.2, spec_within hl.2.1 hm.1 hm.2.1 hm.2.2]
  simp only [Option.bind_some]
  rw [e1] at h1; rw [e2] at h2; rw [e3] at h3; rw [e4] at h4
  have u1 := lt_val hm.1 hl.1
  have u2 := lt_val hl.1 hm.2.1
  have u3 := lt_val hm.1 hl.2.1
  have u4 := lt_val hl.2.1 hm.2.1
  congr 1
  have hh : X l m ↔ ¬ ((lt m.1 l.1 ∧ lt l.1 m.2.1) ↔ (lt m.1 l.2.1 ∧ lt l.2.1 m.2.1)) := by
    rw [u1, u2, u3, u4]; unfold X; omega
  by_cases p : (lt m.1 l.1 ∧ lt l.1 m.2.1) <;> by_cases q : (lt m.1 l.2.1 ∧ lt l.2.1 m.2.1) <;> simp [p, q] at hh ⊢ <;> exact hh
open Classical in
theorem impl_cross {l m : Lf} (hl : isL l) (hm : isL m) : impl_Leaf_cross l m = some (decide (X l m)) := by
  have t1 := (lt_val hl.1 hl.2.1).1 hl.2.2
  have t2 := (lt_val hm.1 hm.2.1).1 hm.2.2
  have v1 := val_nonneg hl.1
  have v2 := val_lt_KK hl.2.1
  have v3 := val_nonneg hm.1
  have v4 := val_lt_KK hm.2.1
  have key : ∀ x : Ang, isA x → 0 ≤ val x → val x < KK → ∃ o : Int, impl_order l.1 x l.2.1 = some o ∧ (o = 0 ∧ (val x = val l.1 ∨ val x = val l.2.1) ∨ o = 1 ∧ val l.1 < val x ∧ val x < val l.2.1 ∨ o = -1 ∧ (val x < val l.1 ∨ val l.2.1 < val x)) := by
    intro x hx x1 x2
    refine ⟨_, impl_order_ok hl.1 hx hl.2.1, ?_⟩
    have e1 : l.1 = x ↔ val l.1 = val x := ⟨fun h => by rw [h], val_inj hl.1 hx⟩
    have e2 : x = l.2.1 ↔ val x = val l.2.1 := ⟨fun h => by rw [h], val_inj hx hl.2.1⟩
    have e3 : l.1 = l.2.1 ↔ val l.1 = val l.2.1 := ⟨fun h => by rw [h], val_inj hl.1 hl.2.1⟩
    simp only [e1, e2, e3]
    split
    · left; exact ⟨rfl, by omega⟩
    · right
      by_cases hd : dv x l.1 < dv l.2.1 l.1
      · left
        refine ⟨by rw [if_pos hd], ?_⟩
        unfold dv at hd
        split at hd <;> split at hd <;> omega
      · right
        refine ⟨by rw [if_neg hd], ?_⟩
        unfold dv at hd
        split at hd <;> split at hd <;> omega
  unfold impl_Leaf_cross
  obtain ⟨o1, h1, h2⟩ := key m.1 hm.1 v3 (by omega)
  obtain ⟨o2, h3, h4⟩ := key m.2.1 hm.2.1 (by omega) v4
  rw [h1, h3]
  simp only [Option.bind_some]
  congr 1
  have hw : w64 (o1 * o2) = o1 * o2 := by
    rcases h2 with ⟨rfl, _⟩ | ⟨rfl, _⟩ | ⟨rfl, _⟩ <;> rcases h4 with ⟨rfl, _⟩ | ⟨rfl, _⟩ | ⟨rfl, _⟩ <;> exact w64_id (by omega) (by omega)
  rw [hw]
  have hh : o1 * o2 = -1 ↔ X l m := by
    unfold X
    rcases h2 with ⟨rfl, _⟩ | ⟨rfl, _⟩ | ⟨rfl, _⟩ <;> rcases h4 with ⟨rfl, _⟩ | ⟨rfl, _⟩ | ⟨rfl, _⟩ <;> omega
  by_cases hx : X l m
  · rw [decide_eq_true hx, hh.2 hx]; rfl
  · rw [decide_eq_false hx]
    have : ¬ o1 * o2 = -1 := fun h => hx (hh.1 h)
    simpa using this
end Go.K.Pure

/- Plain laws, part E: laminations. -/
set_option linter.unusedVariables false
set_option linter.unusedSimpArgs false
namespace Go.K.Pure
open Classical

abbrev dLf : Lf := (((0 : Int), (0 : Int), ()), ((0 : Int), (0 : Int), ()), ())
theorem inb {n m : Nat} (h : n < m) : (decide ((0 : Int) ≤ (n : Int)) && decide ((n : Int) < (m : Int))) = true := by
  simp only [Bool.and_eq_true, decide_eq_true_eq]; omega
theorem nn {n : Nat} : decide ((0 : Int) ≤ (n : Int)) = true := by simp only [decide_eq_true_eq]; omega
theorem ltb {n m : Nat} (h : n < m) : decide ((n : Int) < (m : Int)) = true := by simp only [decide_eq_true_eq]; omega
theorem nltb {n m : Nat} (h : ¬ n < m) : decide ((n : Int) < (m : Int)) = false := by simp only [decide_eq_false_iff_not]; omega
theorem w64_succ {n : Nat} (h : n < 4611686018427387904) : w64 ((n : Int) + 1) = ((n + 1 : Nat) : Int) := by rw [w64_id (by omega) (by omega)]; omega
theorem w64_pred {n : Nat} (h : n < 4611686018427387904) (h0 : 0 < n) : w64 ((n : Int) - 1) = ((n - 1 : Nat) : Int) := by rw [w64_id (by omega) (by omega)]; omega

abbrev at' (L : List Lf) (i : Nat) : Lf := L.getD i dLf
/-- What is asked of the leaf at i. -/
def Good (L : List Lf) (i : Nat) : Prop := isL (at' L i) ∧ (0 < i → ltL (at' L (i - 1)) (at' L i)) ∧ ∀ k, k < i → ¬ X (at' L i) (at' L k)
def Lam (L : List Lf) : Prop := L.length ≤ 200 ∧ ∀ i, i < L.length → Good L i
theorem at_mem {L : List Lf} {i : Nat} (h : i < L.length) : at' L i ∈ L := by rw [at', getD_at h]; exact List.getElem_mem h
theorem spec_crossLoop {L : List Lf} (h200 : L.length ≤ 200) {i : Nat} (hi : i < L.length) (hv : ∀ k, k ≤ i → isL (at' L k)) :
    (loop spec_l03Lamination_l1 (L, (i : Int), (0 : Int), ()) = some (.inl (false, ())) ∧ ∃ k, k < i ∧ X (at' L i) (at' L k)) ∨ (loop spec_l03Lamination_l1 (L, (i : Int), (0 : Int), ()) = some (.inr (L, (i : Int), ())) ∧ ∀ k, k < i → ¬ X (at' L i) (at' L k)) := by
  obtain ⟨b, h1, h2⟩ := loop_inv (step := spec_l03Lamination_l1) (fun s => ∃ k : Nat, k ≤ i ∧ s = (L, (i : Int), (k : Int), ()) ∧ ∀ j, j < k → ¬ X (at' L i) (at' L j)) (fun s => i - s.2.2.1.toNat)
    (fun b => (b = .inl (false, ()) ∧ ∃ k, k < i ∧ X (at' L i) (at' L k)) ∨ (b = .inr (L, (i : Int), ()) ∧ ∀ k, k < i → ¬ X (at' L i) (at' L k))) (by
    rintro _ ⟨k, hk, rfl, hj⟩
    by_cases h : k < i
    · simp only [spec_l03Lamination_l1, ltb h, ltb hi, ltb (show k < L.length by omega), nn, Bool.and_self, cond_true, Int.toNat_natCast]
      rw [spec_cross (hv i (Nat.le_refl _)) (hv k (by omega))]
      simp only [Option.bind_some]
      by_cases hx : X (at' L i) (at' L k)
      · left
        exact ⟨_, by rw [decide_eq_true hx, cond_true], .inl ⟨rfl, k, h, hx⟩⟩
      · right
        refine ⟨_, by rw [decide_eq_false hx, cond_false, w64_succ (by omega)], ⟨k + 1, by omega, rfl, fun j hj' => ?_⟩, by simp; omega⟩
        by_cases e : j = k
        · subst e; exact hx
        · exact hj j (by omega)
    · left
      have : k = i := by omega
      subst this
      exact ⟨_, by simp only [spec_l03Lamination_l1, nltb h, cond_false], .inr ⟨rfl, hj⟩⟩) (L, (i : Int), (0 : Int), ()) ⟨0, by omega, rfl, fun j h => by omega⟩
  rcases h2 with ⟨rfl, h3⟩ | ⟨rfl, h3⟩
  · exact .inl ⟨h1, h3⟩
  · exact .inr ⟨h1, h3⟩
theorem spec_lam {L : List Lf} (hL : ∀ l ∈ L, InL l) : spec_l03Lamination L = some (decide (Lam L)) := by
  unfold spec_l03Lamination
  by_cases h200 : L.length ≤ 200
  rotate_left
  · have : decide ((L.length : Int) > 200) = true := by simp only [decide_eq_true_eq]; omega
    rw [this, cond_true, decide_eq_false (fun h => h200 h.1)]
  have : decide ((L.length : Int) > 200) = false := by simp only [decide_eq_false_iff_not]; omega
  rw [this, cond_false]
  obtain ⟨b, h1, h2⟩ := loop_inv (step := spec_l03Lamination_l0) (fun s => ∃ n : Nat, n ≤ L.length ∧ s = (L, (n : Int), ()) ∧ ∀ j, j < n → Good L j) (fun s => L.length - s.2.1.toNat)
    (fun b => (b = .inl (false, ()) ∧ ¬ Lam L) ∨ (b = .inr () ∧ Lam L)) (by
    rintro _ ⟨n, hn, rfl, hj⟩
    by_cases h : n < L.length
    · simp only [spec_l03Lamination_l0, ltb h, ltb h, nn, Bool.and_self, cond_true, Int.toNat_natCast]
      rw [spec_isL (hL _ (at_mem h))]
      simp only [Option.bind_some]
      by_cases hl : isL (at' L n)
      rotate_left
      · left
        refine ⟨_, by rw [decide_eq_false hl, Bool.not_false, cond_true], .inl ⟨rfl, fun hh => hl (hh.2 n h).1⟩⟩
      rw [decide_eq_true hl, Bool.not_true, cond_false]
      have hv : ∀ k, k ≤ n → isL (at' L k) := fun k hk => by
        by_cases e : k = n
        · subst e; exact hl
        · exact (hj k (by omega)).1
      have hend : (0 < n → ltL (at' L (n - 1)) (at' L n)) → ((∃ b, ((loop spec_l03Lamination_l1 (L, (n : Int), (0 : Int), ())).bind fun r2 => alt r2 (fun r3 => (some (.stop (.inl (r3.1, ()))) : Option (Ctl (List Lf × Int × Unit) ((Bool × Unit) ⊕ Unit)))) (fun r4 => some (.next (r4.1, ((w64 (r4.2.1 + (1 : Int))), ()))))) = some (.stop b) ∧ ((b = .inl (false, ()) ∧ ¬ Lam L) ∨ (b = .inr () ∧ Lam L))) ∨
          ∃ a', ((loop spec_l03Lamination_l1 (L, (n : Int), (0 : Int), ())).bind fun r2 => alt r2 (fun r3 => (some (.stop (.inl (r3.1, ()))) : Option (Ctl (List Lf × Int × Unit) ((Bool × Unit) ⊕ Unit)))) (fun r4 => some (.next (r4.1, ((w64 (r4.2.1 + (1 : Int))), ()))))) = some (.next a') ∧ (∃ m : Nat, m ≤ L.length ∧ a' = (L, (m : Int), ()) ∧ ∀ j, j < m → Good L j) ∧ L.length - a'.2.1.toNat < L.length - n) := by
        intro hlt
        rcases spec_crossLoop h200 h hv with ⟨h3, k, h4, h5⟩ | ⟨h3, h4⟩
        · left
          rw [h3]
          exact ⟨_, rfl, .inl ⟨rfl, fun hh => (hh.2 n h).2.2 k h4 h5⟩⟩
        · right
          rw [h3]
          refine ⟨_, by simp only [Option.bind_some, alt]; rw [w64_succ (by omega)], ⟨n + 1, by omega, rfl, fun j hj' => ?_⟩, by simp; omega⟩
          by_cases e : j = n
          · subst e; exact ⟨hl, hlt, h4⟩
          · exact hj j (by omega)
      by_cases h0 : 0 < n
      · have e0 : decide ((n : Int) > 0) = true := by simp only [decide_eq_true_eq]; omega
        rw [e0, cond_true]
        rw [w64_pred (by omega) h0]
        simp only [ltb (show n - 1 < L.length by omega), nn, Bool.and_self, cond_true, Int.toNat_natCast]
        rw [spec_lessL (hv (n - 1) (by omega)) hl]
        simp only [Option.bind_some]
        by_cases hlt : ltL (at' L (n - 1)) (at' L n)
        · rw [decide_eq_true hlt, Bool.not_true, cond_false]
          exact hend fun _ => hlt
        · left
          exact ⟨_, by rw [decide_eq_false hlt, Bool.not_false, cond_true], .inl ⟨rfl, fun hh => hlt ((hh.2 n h).2.1 h0)⟩⟩
      · have e0 : decide ((n : Int) > 0) = false := by simp only [decide_eq_false_iff_not]; omega
        rw [e0, cond_false]
        exact hend fun h => absurd h h0
    · left
      have : n = L.length := by omega
      subst this
      exact ⟨_, by simp only [spec_l03Lamination_l0, nltb h, cond_false], .inr ⟨rfl, h200, hj⟩⟩) (L, (0 : Int), ()) ⟨0, by omega, rfl, fun j h => by omega⟩
  rw [h1]
  rcases h2 with ⟨rfl, h3⟩ | ⟨rfl, h3⟩
  · rw [decide_eq_false h3]; rfl
  · rw [decide_eq_true h3]; rfl
end Go.K.Pure

/- Plain laws, part F: laminations of the program. -/
set_option linter.unusedVariables false
set_option linter.unusedSimpArgs false
namespace Go.K.Pure
open Classical

theorem impl_all {L : List Lf} (hL : ∀ l ∈ L, InL l) (hlen : L.length < 4611686018427387904) : impl_areAll_impl_Leaf L = some (decide (∀ i, i < L.length → isL (at' L i))) := by
  unfold impl_areAll_impl_Leaf slices_ContainsFunc__impl_Leaf_impl_Leaf slices_IndexFunc__impl_Leaf_impl_Leaf
  obtain ⟨b, h1, h2⟩ := loop_inv (step := slices_IndexFunc__impl_Leaf_impl_Leaf_l0) (fun s => ∃ n : Nat, n ≤ L.length ∧ s = (L, (), (((), ()), ()), ((L.length : Nat) : Int), (n : Int), ()) ∧ ∀ j, j < n → isL (at' L j)) (fun s => L.length - s.2.2.2.2.1.toNat)
    (fun b => (∃ n : Nat, b = .inl ((n : Int), ()) ∧ ¬ ∀ i, i < L.length → isL (at' L i)) ∨ (b = .inr () ∧ ∀ i, i < L.length → isL (at' L i))) (by
    rintro _ ⟨n, hn, rfl, hj⟩
    by_cases h : n < L.length
    · simp only [slices_IndexFunc__impl_Leaf_impl_Leaf_l0, ltb h, nn, Bool.and_self, cond_true, Int.toNat_natCast, impl_areAll_impl_Leaf_f1]
      rw [impl_isL (hL _ (at_mem h))]
      simp only [Option.bind_some]
      by_cases hl : isL (at' L n)
      · right
        refine ⟨_, by rw [decide_eq_true hl, Bool.not_true, cond_false, w64_succ (by omega)], ⟨n + 1, by omega, rfl, fun j hj' => ?_⟩, by simp; omega⟩
        by_cases e : j = n
        · subst e; exact hl
        · exact hj j (by omega)
      · left
        exact ⟨_, by rw [decide_eq_false hl, Bool.not_false, cond_true], .inl ⟨n, rfl, fun hh => hl (hh n h)⟩⟩
    · left
      have : n = L.length := by omega
      subst this
      exact ⟨_, by simp only [slices_IndexFunc__impl_Leaf_impl_Leaf_l0, nltb h, cond_false], .inr ⟨rfl, hj⟩⟩) (L, (), (((), ()), ()), ((L.length : Nat) : Int), (0 : Int), ()) ⟨0, by omega, rfl, fun j h => by omega⟩
  rw [h1]
  rcases h2 with ⟨n, rfl, h3⟩ | ⟨rfl, h3⟩
  · rw [decide_eq_false h3]
    have : decide ((n : Int) ≥ 0) = true := by simp only [decide_eq_true_eq]; omega
    simp only [Option.bind_some, alt, this, Bool.not_true]
  · rw [decide_eq_true h3]; rfl
theorem impl_any {L : List Lf} {f : Lf} (hf : isL f) (hL : ∀ i, i < L.length → isL (at' L i)) (hlen : L.length < 4611686018427387904) : slices_ContainsFunc__impl_Leaf_impl_Leaf_v2 L f = some (decide (∃ k, k < L.length ∧ X f (at' L k))) := by
  unfold slices_ContainsFunc__impl_Leaf_impl_Leaf_v2 slices_IndexFunc__impl_Leaf_impl_Leaf_v2
  obtain ⟨b, h1, h2⟩ := loop_inv (step := slices_IndexFunc__impl_Leaf_impl_Leaf_v2_l0) (fun s => ∃ n : Nat, n ≤ L.length ∧ s = (L, (f, ()), (), ((L.length : Nat) : Int), (n : Int), ()) ∧ ∀ j, j < n → ¬ X f (at' L j)) (fun s => L.length - s.2.2.2.2.1.toNat)
    (fun b => (∃ n : Nat, b = .inl ((n : Int), ()) ∧ ∃ k, k < L.length ∧ X f (at' L k)) ∨ (b = .inr () ∧ ¬ ∃ k, k < L.length ∧ X f (at' L k))) (by
    rintro _ ⟨n, hn, rfl, hj⟩
    by_cases h : n < L.length
    · simp only [slices_IndexFunc__impl_Leaf_impl_Leaf_v2_l0, ltb h, nn, Bool.and_self, cond_true, Int.toNat_natCast]
      rw [impl_cross hf (hL n h)]
      simp only [Option.bind_some]
      by_cases hl : X f (at' L n)
      · left
        exact ⟨_, by rw [decide_eq_true hl, cond_true], .inl ⟨n, rfl, n, h, hl⟩⟩
      · right
        refine ⟨_, by rw [decide_eq_false hl, cond_false, w64_succ (by omega)], ⟨n + 1, by omega, rfl, fun j hj' => ?_⟩, by simp; omega⟩
        by_cases e : j = n
        · subst e; exact hl
        · exact hj j (by omega)
    · left
      have : n = L.length := by omega
      subst this
      exact ⟨_, by simp only [slices_IndexFunc__impl_Leaf_impl_Leaf_v2_l0, nltb h, cond_false], .inr ⟨rfl, fun ⟨k, h3, h4⟩ => hj k h3 h4⟩⟩) (L, (f, ()), (), ((L.length : Nat) : Int), (0 : Int), ()) ⟨0, by omega, rfl, fun j h => by omega⟩
  rw [h1]
  rcases h2 with ⟨n, rfl, h3⟩ | ⟨rfl, h3⟩
  · rw [decide_eq_true h3]
    have : decide ((n : Int) ≥ 0) = true := by simp only [decide_eq_true_eq]; omega
    simp only [Option.bind_some, alt, this]
  · rw [decide_eq_false h3]; rfl
theorem take_at {L : List Lf} {n k : Nat} (hk : k < n) (hn : n ≤ L.length) : at' (L.take n) k = at' L k := by
  rw [at', at', getD_at (by simp; omega), getD_at (by omega)]
  simp
theorem impl_lam {L : List Lf} (hL : ∀ l ∈ L, InL l) : impl_IsLamination L = some (decide (Lam L)) := by
  unfold impl_IsLamination
  by_cases h200 : L.length ≤ 200
  rotate_left
  · have : decide ((L.length : Int) > 200) = true := by simp only [decide_eq_true_eq]; omega
    rw [this, cond_true, decide_eq_false (fun h => h200 h.1)]
  have : decide ((L.length : Int) > 200) = false := by simp only [decide_eq_false_iff_not]; omega
  rw [this, cond_false, impl_all hL (by omega)]
  simp only [Option.bind_some]
  by_cases hall : ∀ i, i < L.length → isL (at' L i)
  rotate_left
  · rw [decide_eq_false hall, Bool.not_false, cond_true, decide_eq_false (fun h => hall fun i hi => (h.2 i hi).1)]
  rw [decide_eq_true hall, Bool.not_true, cond_false]
  obtain ⟨b, h1, h2⟩ := loop_inv (step := impl_IsLamination_l0) (fun s => ∃ n : Nat, n ≤ L.length ∧ s = (L, L, ((L.length : Nat) : Int), (n : Int), ()) ∧ ∀ j, j < n → Good L j) (fun s => L.length - s.2.2.2.1.toNat)
    (fun b => (b = .inl (false, ()) ∧ ¬ Lam L) ∨ (b = .inr () ∧ Lam L)) (by
    rintro _ ⟨n, hn, rfl, hj⟩
    by_cases h : n < L.length
    · simp only [impl_IsLamination_l0, ltb h, nn, Bool.and_self, cond_true, Int.toNat_natCast]
      have hin : ((decide ((0 : Int) ≤ (0 : Int)) && true) && decide ((n : Int) ≤ ((L.length : Nat) : Int))) = true := by
        simp only [Bool.and_eq_true, decide_eq_true_eq]; exact ⟨⟨by omega, trivial⟩, by omega⟩
      have hta : slices_ContainsFunc__impl_Leaf_impl_Leaf_v2 ((L.take n).drop (0 : Int).toNat) (at' L n) = some (decide (∃ k, k < n ∧ X (at' L n) (at' L k))) := by
        show slices_ContainsFunc__impl_Leaf_impl_Leaf_v2 (L.take n) (at' L n) = _
        have hl : (L.take n).length = n := by simp; omega
        rw [impl_any (hall n h) (fun i hi => by rw [take_at (by omega) hn]; exact hall i (by omega)) (by omega), hl]
        congr 1
        apply decide_eq_decide.2
        constructor
        · rintro ⟨k, h3, h4⟩; exact ⟨k, h3, by rwa [take_at h3 hn] at h4⟩
        · rintro ⟨k, h3, h4⟩; exact ⟨k, h3, by rwa [take_at h3 hn]⟩
      have hend : (0 < n → ltL (at' L (n - 1)) (at' L n)) → (∃ b, ((slices_ContainsFunc__impl_Leaf_impl_Leaf_v2 ((L.take n).drop (0 : Int).toNat) (at' L n)).bind fun r1 => bif r1 then (some (.stop (.inl (false, ()))) : Option (Ctl (List Lf × List Lf × Int × Int × Unit) ((Bool × Unit) ⊕ Unit))) else some (.next (L, (L, (((L.length : Nat) : Int), ((w64 ((n : Int) + (1 : Int))), ())))))) = some (.stop b) ∧ ((b = .inl (false, ()) ∧ ¬ Lam L) ∨ (b = .inr () ∧ Lam L))) ∨
          ∃ a', ((slices_ContainsFunc__impl_Leaf_impl_Leaf_v2 ((L.take n).drop (0 : Int).toNat) (at' L n)).bind fun r1 => bif r1 then (some (.stop (.inl (false, ()))) : Option (Ctl (List Lf × List Lf × Int × Int × Unit) ((Bool × Unit) ⊕ Unit))) else some (.next (L, (L, (((L.length : Nat) : Int), ((w64 ((n : Int) + (1 : Int))), ())))))) = some (.next a') ∧ (∃ m : Nat, m ≤ L.length ∧ a' = (L, L, ((L.length : Nat) : Int), (m : Int), ()) ∧ ∀ j, j < m → Good L j) ∧ L.length - a'.2.2.2.1.toNat < L.length - n := by
        intro hlt
        rw [hta]
        simp only [Option.bind_some]
        by_cases hx : ∃ k, k < n ∧ X (at' L n) (at' L k)
        · left
          rw [decide_eq_true hx, cond_true]
          obtain ⟨k, h3, h4⟩ := hx
          exact ⟨_, rfl, .inl ⟨rfl, fun hh => (hh.2 n h).2.2 k h3 h4⟩⟩
        · right
          rw [decide_eq_false hx, cond_false, w64_succ (by omega)]
          refine ⟨_, rfl, ⟨n + 1, by omega, rfl, fun j hj' => ?_⟩, by simp; omega⟩
          by_cases e : j = n
          · subst e; exact ⟨hall _ h, hlt, fun k h3 h4 => hx ⟨k, h3, h4⟩⟩
          · exact hj j (by omega)
      by_cases h0 : 0 < n
      · have e0 : decide ((n : Int) > 0) = true := by simp only [decide_eq_true_eq]; omega
        rw [e0, cond_true]
        rw [w64_pred (by omega) h0]
        simp only [ltb (show n - 1 < L.length by omega), nn, Bool.and_self, cond_true, Int.toNat_natCast]
        obtain ⟨r, h3, h4⟩ := impl_compareL (hall (n - 1) (by omega)) (hall n h)
        rw [h3]
        simp only [Option.bind_some]
        by_cases hlt : ltL (at' L (n - 1)) (at' L n)
        · have : decide (r ≥ 0) = false := decide_eq_false (fun h => (h4.1 h) hlt)
          rw [this, cond_false, hin, cond_true]
          exact hend fun _ => hlt
        · left
          have : decide (r ≥ 0) = true := decide_eq_true (h4.2 hlt)
          exact ⟨_, by rw [this, cond_true], .inl ⟨rfl, fun hh => hlt ((hh.2 n h).2.1 h0)⟩⟩
      · have e0 : decide ((n : Int) > 0) = false := by simp only [decide_eq_false_iff_not]; omega
        rw [e0, cond_false, hin, cond_true]
        exact hend fun h => absurd h h0
    · left
      have : n = L.length := by omega
      subst this
      exact ⟨_, by simp only [impl_IsLamination_l0, nltb h, cond_false], .inr ⟨rfl, h200, hj⟩⟩) (L, L, ((L.length : Nat) : Int), (0 : Int), ()) ⟨0, by omega, rfl, fun j h => by omega⟩
  rw [h1]
  rcases h2 with ⟨rfl, h3⟩ | ⟨rfl, h3⟩
  · rw [decide_eq_false h3]; rfl
  · rw [decide_eq_true h3]; rfl
end Go.K.Pure

/- Plain laws, part G: ascending lists of angles, insertion. -/
set_option linter.unusedVariables false
set_option linter.unusedSimpArgs false
namespace Go.K.Pure
open Classical

def Asc (xs : List Ang) : Prop := (∀ x ∈ xs, isA x) ∧ xs.Pairwise fun x y => val x < val y
theorem asc_ext {xs ys : List Ang} (hx : Asc xs) (hy : Asc ys) (h : ∀ a, a ∈ xs ↔ a ∈ ys) : xs = ys := by
  have n1 : xs.Nodup := hx.2.imp fun h e => by rw [e] at h; omega
  have n2 : ys.Nodup := hy.2.imp fun h e => by rw [e] at h; omega
  have hp : xs.Perm ys := (List.perm_ext_iff_of_nodup n1 n2).2 h
  exact List.Perm.eq_of_pairwise (le := fun x y => val x < val y) (fun a b _ _ h1 h2 => by omega) hx.2 hy.2 hp
abbrev dA : Ang := ((0 : Int), (0 : Int), ())
abbrev ea (xs : List Ang) (i : Nat) : Ang := xs.getD i dA
theorem ea_mem {xs : List Ang} {i : Nat} (h : i < xs.length) : ea xs i ∈ xs := by rw [ea, getD_at h]; exact List.getElem_mem h
theorem spec_insert {xs : List Ang} {a : Ang} (hx : Asc xs) (ha : isA a) (hl : xs.length ≤ 1000000) : ∃ ys, spec_l01Insert xs a = some ys ∧ Asc ys ∧ (∀ b, b ∈ ys ↔ b ∈ xs ∨ b = a) ∧ ys.length ≤ xs.length + 1 ∧ xs.length ≤ ys.length := by
  -- where it belongs
  obtain ⟨r, h1, k, hk, rfl, h2, h3⟩ := loop_inv (step := spec_l01Insert_l0) (fun s => ∃ k : Nat, k ≤ xs.length ∧ s = (xs, a, (k : Int), ()) ∧ ∀ j, j < k → val (ea xs j) < val a) (fun s => xs.length - s.2.2.1.toNat)
    (fun b => ∃ k : Nat, k ≤ xs.length ∧ b = (xs, a, (k : Int), ()) ∧ (∀ j, j < k → val (ea xs j) < val a) ∧ (k < xs.length → ¬ val (ea xs k) < val a)) (by
    rintro _ ⟨k, hk, rfl, hj⟩
    by_cases h : k < xs.length
    · simp only [spec_l01Insert_l0, ltb h, nn, Bool.and_self, cond_true, Int.toNat_natCast]
      rw [spec_less (hx.1 _ (ea_mem h)) ha]
      simp only [Option.bind_some]
      have hv := lt_val (hx.1 _ (ea_mem h)) ha
      by_cases hlt : lt (ea xs k) a
      · right
        refine ⟨_, by rw [decide_eq_true hlt, cond_true, w64_succ (by omega)], ⟨k + 1, by omega, rfl, fun j hj' => ?_⟩, by simp; omega⟩
        by_cases e : j = k
        · subst e; exact hv.1 hlt
        · exact hj j (by omega)
      · left
        exact ⟨_, by rw [decide_eq_false hlt, cond_false], k, hk, rfl, hj, fun _ hh => hlt (hv.2 hh)⟩
    · left
      have : k = xs.length := by omega
      subst this
      exact ⟨_, by simp only [spec_l01Insert_l0, nltb h, cond_false], _, Nat.le_refl _, rfl, hj, fun hh => absurd hh h⟩) (xs, a, (0 : Int), ()) ⟨0, by omega, rfl, fun j h => by omega⟩
  have hlow : ∀ x ∈ xs.take k, val x < val a := by
    intro x hx'
    obtain ⟨j, hj, rfl⟩ := List.getElem_of_mem hx'
    have hj1 : j < k := by simp at hj; omega
    have := h2 j hj1
    rw [ea, getD_at (by omega)] at this
    simpa using this
  have hput : ∀ (hne : k < xs.length → ea xs k ≠ a), Asc (xs.take k ++ (a :: xs.drop k)) ∧ (∀ b, b ∈ xs.take k ++ (a :: xs.drop k) ↔ b ∈ xs ∨ b = a) := by
    intro hne
    have hmem : ∀ b, b ∈ xs.take k ++ (a :: xs.drop k) ↔ b ∈ xs ∨ b = a := by
      intro b
      conv => rhs; rw [← List.take_append_drop k xs]
      simp only [List.mem_append, List.mem_cons]
      constructor
      · rintro (h | h | h)
        · exact .inl (.inl h)
        · exact .inr h
        · exact .inl (.inr h)
      · rintro ((h | h) | h)
        · exact .inl h
        · exact .inr (.inr h)
        · exact .inr (.inl h)
    have hhigh : ∀ x ∈ xs.drop k, val a < val x := by
      intro x hx'
      have hkl : k < xs.length := by
        rcases Nat.lt_or_ge k xs.length with h | h
        · exact h
        · rw [List.drop_of_length_le h] at hx'; cases hx'
      have h4 := h3 hkl
      have h5 : val (ea xs k) ≠ val a := fun e => hne hkl (val_inj (hx.1 _ (ea_mem hkl)) ha e)
      rw [List.drop_eq_getElem_cons hkl] at hx'
      have e1 : ea xs k = xs[k] := getD_at hkl
      rcases List.mem_cons.1 hx' with h | h
      · rw [h, ← e1]; omega
      · have hp := hx.2
        rw [← List.take_append_drop k xs, List.drop_eq_getElem_cons hkl, List.pairwise_append] at hp
        have := (List.pairwise_cons.1 hp.2.1).1 x h
        rw [← e1] at this
        omega
    refine ⟨⟨fun x hx' => ?_, ?_⟩, hmem⟩
    · rcases (hmem x).1 hx' with h | h
      · exact hx.1 x h
      · rw [h]; exact ha
    · rw [List.pairwise_append]
      have hp := hx.2
      rw [← List.take_append_drop k xs, List.pairwise_append] at hp
      refine ⟨hp.1, List.pairwise_cons.2 ⟨hhigh, hp.2.1⟩, fun x hx' y hy => ?_⟩
      rcases List.mem_cons.1 hy with h | h
      · rw [h]; exact hlow x hx'
      · exact hp.2.2 x hx' y h
  have hres : ∀ (hne : k < xs.length → ea xs k ≠ a) {o : Option (List Ang)}, o = some (xs.take k ++ (a :: xs.drop k)) → ∃ ys, o = some ys ∧ Asc ys ∧ (∀ b, b ∈ ys ↔ b ∈ xs ∨ b = a) ∧ ys.length ≤ xs.length + 1 ∧ xs.length ≤ ys.length := by
    intro hne o ho
    obtain ⟨p1, p2⟩ := hput hne
    exact ⟨_, ho, p1, p2, by simp; omega, by simp; omega⟩
  have c1 : (((decide ((0 : Int) ≤ (k : Int))) && (decide ((k : Int) ≤ ((xs.length : Nat) : Int)))) && (decide (((xs.length : Nat) : Int) ≤ ((xs.length : Nat) : Int)))) = true := by
    simp only [Bool.and_eq_true, decide_eq_true_eq]; omega
  have c2 : (((decide ((0 : Int) ≤ (0 : Int))) && (decide ((0 : Int) ≤ (k : Int)))) && (decide ((k : Int) ≤ ((xs.length : Nat) : Int)))) = true := by
    simp only [Bool.and_eq_true, decide_eq_true_eq]; omega
  have e1 : (xs.take ((xs.length : Nat) : Int).toNat).drop (k : Int).toNat = xs.drop k := by simp
  have e2 : (xs.take (k : Int).toNat).drop (0 : Int).toNat = xs.take k := by simp
  unfold spec_l01Insert
  rw [h1]
  simp only [Option.bind_some]
  rw [c1, c2, e1, e2]
  simp only [cond_true]
  have d1 : decide (([a].length + (xs.drop k).length) * 16 ≤ 140737488355328) = true := by
    simp only [decide_eq_true_eq, List.length_singleton, List.length_drop]; omega
  have d2 : decide ((([] : List Ang).length + (xs.take k).length) * 16 ≤ 140737488355328) = true := by
    simp only [decide_eq_true_eq, List.length_nil, List.length_take]; omega
  have d3 : decide (((([] : List Ang) ++ xs.take k).length + ([a] ++ xs.drop k).length) * 16 ≤ 140737488355328) = true := by
    simp only [decide_eq_true_eq, List.length_append, List.length_nil, List.length_singleton, List.length_take, List.length_drop]; omega
  rw [d1, d2, d3]
  simp only [cond_true]
  by_cases hkl : k < xs.length
  · simp only [ltb hkl, nn, Bool.and_self, cond_true, Int.toNat_natCast]
    rw [beqA]
    by_cases he : ea xs k = a
    · rw [decide_eq_true he, cond_true]
      exact ⟨xs, rfl, hx, fun b => ⟨.inl, fun h => h.elim id fun h => by rw [h, ← he]; exact ea_mem hkl⟩, by omega, Nat.le_refl _⟩
    · rw [decide_eq_false he, cond_false]
      exact hres (fun _ => he) (by simp)
  · simp only [nltb hkl, cond_false]
    exact hres (fun h => absurd h hkl) (by simp)
end Go.K.Pure

/- Plain laws, part H: the ends of leaves; sorting. -/
set_option linter.unusedVariables false
set_option linter.unusedSimpArgs false
namespace Go.K.Pure
open Classical

def isEnd (L : List Lf) (n : Nat) (b : Ang) : Prop := ∃ i, i < n ∧ (b = (at' L i).1 ∨ b = (at' L i).2.1)
theorem isEnd_succ {L : List Lf} {n : Nat} {b : Ang} : isEnd L (n + 1) b ↔ (isEnd L n b ∨ b = (at' L n).1) ∨ b = (at' L n).2.1 := by
  constructor
  · rintro ⟨i, hi, h⟩
    by_cases e : i = n
    · subst e; rcases h with h | h
      · exact .inl (.inr h)
      · exact .inr h
    · exact .inl (.inl ⟨i, by omega, h⟩)
  · rintro ((⟨i, hi, h⟩ | h) | h)
    · exact ⟨i, by omega, h⟩
    · exact ⟨n, by omega, .inl h⟩
    · exact ⟨n, by omega, .inr h⟩
theorem spec_ends {L : List Lf} (hL : Lam L) : ∃ E, spec_l03Ends L = some E ∧ Asc E ∧ (∀ b, b ∈ E ↔ isEnd L L.length b) ∧ E.length ≤ 400 := by
  have h200 := hL.1
  unfold spec_l03Ends
  obtain ⟨r, h1, E, rfl, h2, h3, h4⟩ := loop_inv (step := spec_l03Ends_l0) (fun s => ∃ (n : Nat) (E : List Ang), n ≤ L.length ∧ s = (L, E, (n : Int), ()) ∧ Asc E ∧ (∀ b, b ∈ E ↔ isEnd L n b) ∧ E.length ≤ 2 * n) (fun s => L.length - s.2.2.1.toNat)
    (fun r => ∃ E, r = (E, ()) ∧ Asc E ∧ (∀ b, b ∈ E ↔ isEnd L L.length b) ∧ E.length ≤ 400) (by
    rintro _ ⟨n, E, hn, rfl, hE, hm, hlen⟩
    by_cases h : n < L.length
    · right
      simp only [spec_l03Ends_l0, ltb h, nn, Bool.and_self, cond_true, Int.toNat_natCast]
      have hl := (hL.2 n h).1
      obtain ⟨E1, i1, i2, i3, i4, _⟩ := spec_insert hE hl.1 (by omega)
      rw [i1]
      simp only [Option.bind_some]
      obtain ⟨E2, j1, j2, j3, j4, _⟩ := spec_insert i2 hl.2.1 (by omega)
      rw [j1]
      simp only [Option.bind_some]
      refine ⟨_, by rw [w64_succ (by omega)], ⟨n + 1, E2, by omega, rfl, j2, fun b => ?_, by omega⟩, by simp; omega⟩
      rw [j3, i3, hm, isEnd_succ]
    · left
      have : n = L.length := by omega
      subst this
      exact ⟨_, by simp only [spec_l03Ends_l0, nltb h, cond_false], E, rfl, hE, hm, by omega⟩) (L, ([] : List Ang), (0 : Int), ()) ⟨0, [], by omega, rfl, ⟨by simp, List.Pairwise.nil⟩, by simp [isEnd], by simp⟩
  rw [h1]
  exact ⟨E, rfl, h2, h3, h4⟩
/-- What is sorted: ascending, with repeats. -/
def Up (xs : List Ang) : Prop := (∀ x ∈ xs, isA x) ∧ ∀ i j, i < j → j < xs.length → val (ea xs i) ≤ val (ea xs j)
theorem ordered_ang {xs : List Ang} (h : ∀ x ∈ xs, isA x) (hl : xs.length < 4611686018427387904) : Ordered (fun x y => impl_Angle_compare x y) xs := by
  have key : ∀ x ∈ xs, ∀ y ∈ xs, ltO (fun x y => impl_Angle_compare x y) x y = decide (val x < val y) := by
    intro x hx y hy
    unfold ltO
    simp only [impl_compare (h x hx) (h y hy)]
    apply decide_eq_decide.2
    unfold cmpA
    rw [← lt_val (h x hx) (h y hy)]
    by_cases h1 : lt x y
    · simp [h1]
    · by_cases h2 : lt y x <;> simp [h1, h2]
  refine ⟨hl, fun x hx y hy => ⟨_, impl_compare (h x hx) (h y hy)⟩, fun x hx => ?_, fun x hx y hy z hz h1 h2 => ?_, fun x hx y hy z hz h1 h2 => ?_⟩
  · rw [key x hx x hx]; exact decide_eq_false (by omega)
  · rw [key x hx y hy, decide_eq_true_eq] at h1
    rw [key y hy z hz, decide_eq_true_eq] at h2
    rw [key x hx z hz, decide_eq_true_eq]; omega
  · rw [key x hx y hy, decide_eq_false_iff_not] at h1
    rw [key y hy z hz, decide_eq_false_iff_not] at h2
    rw [key x hx z hz, decide_eq_false_iff_not]; omega
theorem sort_ang {xs : List Ang} (h : ∀ x ∈ xs, isA x) (hl : xs.length < 4611686018427387904) : ∃ ys, sortOf (fun x y => impl_Angle_compare x y) xs = some ys ∧ ys.Perm xs ∧ Up ys := by
  obtain ⟨ys, h1, h2, h3⟩ := sortOf_ok (ordered_ang h hl)
  have hy : ∀ y ∈ ys, isA y := fun y hy => h y (h2.mem_iff.1 hy)
  refine ⟨ys, h1, h2, hy, fun i j hij hj => ?_⟩
  have h4 := (List.pairwise_iff_getElem.1 h3) i j (by omega) hj hij
  have e1 : ea ys i = ys[i] := getD_at (by omega)
  have e2 : ea ys j = ys[j] := getD_at hj
  rw [e1, e2]
  have i1 := hy _ (List.getElem_mem (l := ys) (n := i) (by omega))
  have i2 := hy _ (List.getElem_mem (l := ys) (n := j) hj)
  unfold ltO at h4
  simp only [impl_compare i2 i1, decide_eq_false_iff_not] at h4
  unfold cmpA at h4
  by_cases h5 : lt ys[j] ys[i]
  · simp [h5] at h4
  · have h6 : ¬ val ys[j] < val ys[i] := fun h => h5 ((lt_val i2 i1).2 h)
    omega
theorem ea_set {xs : List Ang} {i j : Nat} {x : Ang} : ea (xs.set i x) j = if i = j ∧ j < xs.length then x else ea xs j := by
  unfold ea
  simp only [List.getD_eq_getElem?_getD, List.getElem?_set]
  by_cases h : i = j
  · subst h
    by_cases h2 : i < xs.length
    · simp [h2]
    · simp [h2]
  · simp [h]
theorem ea_take {xs : List Ang} {n k : Nat} (hk : k < n) : ea (xs.take n) k = ea xs k := by
  unfold ea
  simp only [List.getD_eq_getElem?_getD, List.getElem?_take, hk, if_true]
/-- The first k are ascending, and are what the first m were. -/
def Part (xs ys : List Ang) (k m : Nat) : Prop := (∀ i j, i < j → j < k → val (ea ys i) < val (ea ys j)) ∧ (∀ j, j < k → ∃ i, i < m ∧ ea ys j = ea xs i) ∧ (∀ i, i < m → ∃ j, j < k ∧ ea ys j = ea xs i)
theorem part_done {xs ys : List Ang} {k : Nat} (hx : Up xs) (hk : k ≤ ys.length) (h : Part xs ys k xs.length) : Asc (ys.take k) ∧ ∀ b, b ∈ ys.take k ↔ b ∈ xs := by
  obtain ⟨h1, h2, h3⟩ := h
  have hl : (ys.take k).length = k := by simp; omega
  have hm : ∀ b, b ∈ ys.take k ↔ b ∈ xs := by
    intro b
    constructor
    · intro hb
      obtain ⟨j, hj, rfl⟩ := List.getElem_of_mem hb
      obtain ⟨i, hi, e⟩ := h2 j (by omega)
      rw [← getD_at (d := dA) hj]
      show ea (ys.take k) j ∈ xs
      rw [ea_take (by omega), e]
      exact ea_mem hi
    · intro hb
      obtain ⟨i, hi, rfl⟩ := List.getElem_of_mem hb
      obtain ⟨j, hj, e⟩ := h3 i hi
      rw [← getD_at (d := dA) hi]
      show ea xs i ∈ ys.take k
      rw [← e, ← ea_take hj]
      exact ea_mem (by omega)
  refine ⟨⟨fun x hx' => hx.1 x ((hm x).1 hx'), ?_⟩, hm⟩
  rw [List.pairwise_iff_getElem]
  intro i j hi hj hij
  have := h1 i j hij (by omega)
  rw [← ea_take (n := k) (by omega), ← ea_take (n := k) (show j < k by omega)] at this
  rwa [ea, ea, getD_at hi, getD_at hj] at this
end Go.K.Pure

/- Plain laws, part I: slices.Compact of what is sorted. -/
set_option linter.unusedVariables false
set_option linter.unusedSimpArgs false
namespace Go.K.Pure
open Classical

theorem part_same {xs ys : List Ang} {k m : Nat} (h : Part xs ys k m) {i : Nat} (hi : i < k) (he : ea ys i = ea xs m) : Part xs ys k (m + 1) := by
  refine ⟨h.1, fun j hj => ?_, fun j hj => ?_⟩
  · obtain ⟨i', h1, h2⟩ := h.2.1 j hj
    exact ⟨i', by omega, h2⟩
  · by_cases e : j = m
    · subst e; exact ⟨i, hi, he⟩
    · exact h.2.2 j (by omega)
theorem part_new {xs ys : List Ang} {k m : Nat} (hx : Up xs) (hm : m < xs.length) (h : Part xs ys k m) (hk : 0 < k) (hlast : ea ys (k - 1) = ea xs (m - 1)) (h0 : 0 < m) (hne : ea xs m ≠ ea xs (m - 1)) (hky : k < ys.length) :
    Part xs (ys.set k (ea xs m)) (k + 1) (m + 1) := by
  have hold : ∀ j, j < k → ea (ys.set k (ea xs m)) j = ea ys j := fun j hj => by rw [ea_set, if_neg (fun e => by omega)]
  have hnew : ea (ys.set k (ea xs m)) k = ea xs m := by rw [ea_set, if_pos ⟨rfl, hky⟩]
  have v1 := hx.1 _ (ea_mem hm)
  have v2 := hx.1 _ (ea_mem (show m - 1 < xs.length by omega))
  have v3 : val (ea xs (m - 1)) ≤ val (ea xs m) := hx.2 _ _ (by omega) hm
  have v4 : val (ea xs m) ≠ val (ea xs (m - 1)) := fun e => hne (val_inj v1 v2 e)
  refine ⟨fun i j hij hj => ?_, fun j hj => ?_, fun i hi => ?_⟩
  · by_cases e : j = k
    · subst e
      rw [hnew, hold i hij]
      have : val (ea ys i) ≤ val (ea ys (j - 1)) := by
        by_cases e2 : i = j - 1
        · rw [e2]; omega
        · have := h.1 i (j - 1) (by omega) (by omega); omega
      rw [hlast] at this
      omega
    · rw [hold i (by omega), hold j (by omega)]
      exact h.1 i j hij (by omega)
  · by_cases e : j = k
    · subst e; exact ⟨m, by omega, hnew⟩
    · obtain ⟨i, h1, h2⟩ := h.2.1 j (by omega)
      exact ⟨i, by omega, by rw [hold j (by omega)]; exact h2⟩
  · by_cases e : i = m
    · subst e; exact ⟨k, by omega, hnew⟩
    · obtain ⟨j, h1, h2⟩ := h.2.2 i (by omega)
      exact ⟨j, by omega, by rw [hold j h1]; exact h2⟩
theorem compact_in {xs : List Ang} (hx : Up xs) (hlen : xs.length ≤ 1000000) {k0 : Nat} (hk0 : 0 < k0) (hk1 : k0 < xs.length) (hP : Part xs xs k0 (k0 + 1)) (he : ea xs (k0 - 1) = ea xs k0) :
    ∃ (ys : List Ang) (k : Nat), loop slices_Compact__impl_Angle_impl_Angle_l1 (xs, (k0 : Int), k0, xs.length, (1 : Int), k0, xs.length, ()) = some (ys, (k : Int), ()) ∧ ys.length = xs.length ∧ k ≤ xs.length ∧ Part xs ys k xs.length := by
  obtain ⟨r, h1, ys, k, rfl, h2, h3, h4⟩ := loop_inv (step := slices_Compact__impl_Angle_impl_Angle_l1)
    (fun s => ∃ (ys : List Ang) (k k2 : Nat), s = (ys, (k : Int), k0, xs.length, (k2 : Int), k0, xs.length, ()) ∧ ys.length = xs.length ∧ 1 ≤ k2 ∧ k0 + k2 ≤ xs.length ∧ 0 < k ∧ k < k0 + k2 ∧ Part xs ys k (k0 + k2) ∧ (∀ p, k0 + k2 ≤ p + 1 → ea ys p = ea xs p) ∧ ea ys (k - 1) = ea xs (k0 + k2 - 1))
    (fun s => xs.length - s.2.2.2.2.1.toNat) (fun r => ∃ (ys : List Ang) (k : Nat), r = (ys, (k : Int), ()) ∧ ys.length = xs.length ∧ k ≤ xs.length ∧ Part xs ys k xs.length) (by
    rintro _ ⟨ys, k, k2, rfl, hy, h2, h3, h4, h5, h6, h7, h8⟩
    have hwl : ((ys.take xs.length).drop k0).length = xs.length - k0 := by simp; omega
    by_cases h : k2 < xs.length - k0
    · right
      have hrd : ea ys (k0 + k2) = ea xs (k0 + k2) := h7 _ (by omega)
      have hrd' : ea ys (k0 + (k2 - 1)) = ea xs (k0 + k2 - 1) := by rw [show k0 + (k2 - 1) = k0 + k2 - 1 by omega]; exact h7 _ (by omega)
      simp only [slices_Compact__impl_Angle_impl_Angle_l1, hwl, ltb h, nn, Bool.and_self, cond_true, Int.toNat_natCast]
      rw [w64_pred (by omega) (by omega)]
      simp only [ltb (show k2 - 1 < xs.length - k0 by omega), nn, Bool.and_self, cond_true, Int.toNat_natCast]
      rw [beqA]
      have e1 : ys.getD (k0 + k2) dA = ea xs (k0 + k2) := hrd
      have e2 : ys.getD (k0 + (k2 - 1)) dA = ea xs (k0 + k2 - 1) := hrd'
      rw [e1, e2]
      by_cases hne : ea xs (k0 + k2) = ea xs (k0 + k2 - 1)
      · rw [decide_eq_true hne, Bool.not_true, cond_false, w64_succ (by omega)]
        refine ⟨_, rfl, ⟨ys, k, k2 + 1, rfl, hy, by omega, by omega, h4, by omega, ?_, fun p hp => h7 p (by omega), ?_⟩, by simp; omega⟩
        · exact part_same h6 (i := k - 1) (by omega) (h8.trans hne.symm)
        · rw [h8]; exact hne.symm
      · rw [decide_eq_false hne, Bool.not_false, cond_true]
        simp only [ltb (show k < ys.length by omega), cond_true]
        rw [w64_succ (by omega), w64_succ (by omega)]
        refine ⟨_, rfl, ⟨ys.set k (ea xs (k0 + k2)), k + 1, k2 + 1, rfl, by simp [hy], by omega, by omega, by omega, by omega, ?_, fun p hp => ?_, ?_⟩, by simp; omega⟩
        · exact part_new hx (by omega) h6 h4 h8 (by omega) hne (by omega)
        · rw [ea_set, if_neg (fun e => by omega)]
          exact h7 p (by omega)
        · rw [Nat.add_sub_cancel, ea_set, if_pos ⟨rfl, by omega⟩]; rfl
    · left
      have : k2 = xs.length - k0 := by omega
      refine ⟨_, by simp only [slices_Compact__impl_Angle_impl_Angle_l1, hwl, nltb h, cond_false], ys, k, rfl, hy, by omega, ?_⟩
      rw [show xs.length = k0 + k2 by omega]
      exact h6) (xs, (k0 : Int), k0, xs.length, (1 : Int), k0, xs.length, ()) ⟨xs, k0, 1, rfl, rfl, Nat.le_refl _, by omega, hk0, by omega, hP, fun p _ => rfl, he⟩
  exact ⟨ys, k, h1, h2, h3, h4⟩
theorem cleared_take {xs : List Ang} {z : Ang} {k n : Nat} (hk : k ≤ xs.length) : (Go.K.cleared xs z k n).take k = xs.take k := by
  unfold Go.K.cleared
  rw [List.take_append_of_le_length (by simp; omega), List.take_take]
  simp
theorem cleared_length {xs : List Ang} {z : Ang} {k : Nat} (hk : k ≤ xs.length) : (Go.K.cleared xs z k xs.length).length = xs.length := by
  unfold Go.K.cleared
  simp; omega
theorem compact_up {xs : List Ang} (hx : Up xs) (hlen : xs.length ≤ 1000000) : ∃ zs, slices_Compact__impl_Angle_impl_Angle xs = some zs ∧ Asc zs ∧ (∀ b, b ∈ zs ↔ b ∈ xs) ∧ zs.length ≤ xs.length := by
  unfold slices_Compact__impl_Angle_impl_Angle
  by_cases h2 : xs.length < 2
  · have : decide (((xs.length : Nat) : Int) < (2 : Int)) = true := by simp only [decide_eq_true_eq]; omega
    rw [this, cond_true]
    refine ⟨xs, rfl, ⟨hx.1, ?_⟩, fun b => Iff.rfl, Nat.le_refl _⟩
    rw [List.pairwise_iff_getElem]
    intro i j hi hj hij
    omega
  have : decide (((xs.length : Nat) : Int) < (2 : Int)) = false := by simp only [decide_eq_false_iff_not]; omega
  rw [this, cond_false]
  obtain ⟨r, h1, h3⟩ := loop_inv (step := slices_Compact__impl_Angle_impl_Angle_l0) (fun s => ∃ k : Nat, s = (xs, (k : Int), ()) ∧ 1 ≤ k ∧ k ≤ xs.length ∧ Part xs xs k k) (fun s => xs.length - s.2.1.toNat)
    (fun r => (∃ ys k m, r = .inl (Go.K.cleared ys dA k ys.length, 0, k, m) ∧ ys.length = xs.length ∧ k ≤ xs.length ∧ Part xs ys k xs.length) ∨ (r = .inr (xs, ()) ∧ Part xs xs xs.length xs.length)) (by
    rintro _ ⟨k, rfl, hk1, hk, hP⟩
    by_cases h : k < xs.length
    · simp only [slices_Compact__impl_Angle_impl_Angle_l0, ltb h, nn, Bool.and_self, cond_true, Int.toNat_natCast]
      rw [w64_pred (by omega) (by omega)]
      simp only [ltb (show k - 1 < xs.length by omega), nn, Bool.and_self, cond_true, Int.toNat_natCast]
      rw [beqA]
      by_cases he : ea xs k = ea xs (k - 1)
      · left
        obtain ⟨ys, k', l1, l2, l3, l4⟩ := compact_in hx hlen (k0 := k) (by omega) h (part_same hP (i := k - 1) (by omega) he.symm) he.symm
        have c0 : (decide ((k : Int) ≤ ((xs.length : Nat) : Int)) && decide (((xs.length : Nat) : Int) ≤ ((xs.length : Nat) : Int))) = true := by simp only [Bool.and_eq_true, decide_eq_true_eq]; omega
        have c1 : decide ((k : Int) ≤ ((xs.length : Nat) : Int)) = true := by simp only [decide_eq_true_eq]; omega
        have c2 : decide (((xs.length : Nat) : Int) ≤ ((xs.length : Nat) : Int)) = true := by simp only [decide_eq_true_eq]; omega
        have c3 : decide ((k' : Int) ≤ ((xs.length : Nat) : Int)) = true := by simp only [decide_eq_true_eq]; omega
        have c4 : decide ((0 : Int) ≤ 0) = true := by simp
        have hcl : (Go.K.cleared ys dA k' ys.length).length = xs.length := by rw [cleared_length (by omega)]; exact l2
        refine ⟨.inl (Go.K.cleared ys dA k' ys.length, 0, k', (0, k', ())), ?_, .inl ⟨ys, k', _, rfl, l2, l3, l4⟩⟩
        rw [show decide (xs.getD k dA = xs.getD (k - 1) dA) = true from decide_eq_true he, cond_true, c1, c2]
        simp only [Bool.and_self, cond_true]
        rw [l1]
        simp only [Option.bind_some, nn, Int.toNat_natCast, l2, c3, c2, Bool.and_self, cond_true]
        rw [l2] at hcl
        rw [hcl, c3]
        rfl
      · right
        rw [show decide (xs.getD k dA = xs.getD (k - 1) dA) = false from decide_eq_false he, cond_false, w64_succ (by omega)]
        refine ⟨_, rfl, ⟨k + 1, rfl, by omega, by omega, ?_⟩, by simp; omega⟩
        have := part_new (ys := xs) hx h hP (by omega) rfl (by omega) he h
        have e : xs.set k (ea xs k) = xs := by
          apply List.ext_getElem?
          intro i
          rw [List.getElem?_set]
          by_cases hi : k = i
          · subst hi
            simp [h, ea]
          · simp [hi]
        rwa [e] at this
    · left
      have : k = xs.length := by omega
      subst this
      exact ⟨_, by simp only [slices_Compact__impl_Angle_impl_Angle_l0, nltb h, cond_false], .inr ⟨rfl, hP⟩⟩) (xs, (1 : Int), ()) ⟨1, rfl, Nat.le_refl _, by omega, fun i j h1 h2 => by omega, fun j hj => ⟨j, hj, rfl⟩, fun i hi => ⟨i, hi, rfl⟩⟩
  rw [h1]
  rcases h3 with ⟨ys, k, m, rfl, h4, h5, h6⟩ | ⟨rfl, h4⟩
  · obtain ⟨p1, p2⟩ := part_done (ys := ys) hx (by omega) h6
    refine ⟨ys.take k, ?_, p1, p2, by simp; omega⟩
    simp only [Option.bind_some, alt]
    rw [cleared_take (by omega)]
    rfl
  · obtain ⟨p1, p2⟩ := part_done (ys := xs) hx (Nat.le_refl _) h4
    rw [List.take_length] at p1 p2
    exact ⟨xs, rfl, p1, p2, Nat.le_refl _⟩
end Go.K.Pure

/- Plain laws, part J: the ends of the program. -/
set_option linter.unusedVariables false
set_option linter.unusedSimpArgs false
namespace Go.K.Pure
open Classical

theorem impl_sorted_ok {xs : List Ang} (h : ∀ x ∈ xs, isA x) (hlen : xs.length ≤ 1000000) : ∃ zs, impl_sorted xs = some zs ∧ Asc zs ∧ (∀ b, b ∈ zs ↔ b ∈ xs) ∧ zs.length ≤ xs.length := by
  unfold impl_sorted slices_Values__impl_Angle_impl_Angle slices_SortedFunc_impl_Angle slices_Collect_impl_Angle slices_SortFunc__impl_Angle_impl_Angle collectOf
  have h1 : decide (xs.length * 16 ≤ 140737488355328) = true := by simp only [decide_eq_true_eq]; omega
  obtain ⟨ys, e1, e2, e3⟩ := sort_ang h (by omega)
  obtain ⟨zs, f1, f2, f3, f4⟩ := compact_up e3 (by rw [e2.length_eq]; exact hlen)
  simp only [Option.bind_some, h1, cond_true]
  rw [e1]
  simp only [Option.bind_some]
  rw [f1]
  exact ⟨zs, rfl, f2, fun b => (f3 b).trans e2.mem_iff, by rw [← e2.length_eq]; exact f4⟩
theorem impl_ends_ok {L : List Lf} (hL : Lam L) : ∃ E, impl_ends L = some E ∧ Asc E ∧ (∀ b, b ∈ E ↔ isEnd L L.length b) ∧ E.length ≤ 400 := by
  have h200 := hL.1
  unfold impl_ends
  obtain ⟨r, h1, R, rfl, h3, h4⟩ := loop_inv (step := impl_ends_l0) (fun s => ∃ (n : Nat) (R : List Ang), n ≤ L.length ∧ s = (L, R, L, ((L.length : Nat) : Int), (n : Int), ()) ∧ (∀ b, b ∈ R ↔ isEnd L n b) ∧ R.length = 2 * n) (fun s => L.length - s.2.2.2.2.1.toNat)
    (fun r => ∃ R, r = (R, ()) ∧ (∀ b, b ∈ R ↔ isEnd L L.length b) ∧ R.length ≤ 400) (by
    rintro _ ⟨n, R, hn, rfl, hm, hlen⟩
    by_cases h : n < L.length
    · right
      simp only [impl_ends_l0, ltb h, nn, Bool.and_self, cond_true, Int.toNat_natCast]
      have hd : ∀ a b : Ang, decide ((R.length + [a, b].length) * 16 ≤ 140737488355328) = true := fun a b => by
        simp only [decide_eq_true_eq, List.length_cons, List.length_nil]; omega
      rw [hd]
      simp only [cond_true]
      refine ⟨_, by rw [w64_succ (by omega)], ⟨n + 1, _, by omega, rfl, fun b => ?_, by simp; omega⟩, by simp; omega⟩
      rw [isEnd_succ, List.mem_append, hm]
      simp only [List.mem_cons, List.not_mem_nil, or_false]
      exact or_assoc.symm
    · left
      have : n = L.length := by omega
      subst this
      exact ⟨_, by simp only [impl_ends_l0, nltb h, cond_false], R, rfl, hm, by omega⟩) (L, ([] : List Ang), L, ((L.length : Nat) : Int), (0 : Int), ()) ⟨0, [], by omega, rfl, by simp [isEnd], rfl⟩
  rw [h1]
  simp only [Option.bind_some]
  have hv : ∀ x ∈ R, isA x := by
    intro x hx
    obtain ⟨i, hi, h⟩ := (h3 x).1 hx
    have hl := (hL.2 i hi).1
    rcases h with h | h <;> rw [h]
    · exact hl.1
    · exact hl.2.1
  obtain ⟨zs, f1, f2, f3, f4⟩ := impl_sorted_ok hv (by omega)
  rw [f1]
  exact ⟨zs, rfl, f2, fun b => (f3 b).trans (h3 b), by omega⟩
theorem ends_same {L : List Lf} (hL : Lam L) : ∃ E, spec_l03Ends L = some E ∧ impl_ends L = some E ∧ Asc E ∧ (∀ b, b ∈ E ↔ isEnd L L.length b) ∧ E.length ≤ 400 := by
  obtain ⟨E, h1, h2, h3, h4⟩ := spec_ends hL
  obtain ⟨E', g1, g2, g3, g4⟩ := impl_ends_ok hL
  have : E' = E := asc_ext g2 h2 fun a => (g3 a).trans (h3 a).symm
  subst this
  exact ⟨E', h1, g1, h2, h3, h4⟩
end Go.K.Pure

/- Plain laws, part K: names that are joined. -/
set_option linter.unusedVariables false
set_option linter.unusedSimpArgs false
namespace Go.K.Pure
open Classical

/-- Names after n joins: of each two joined, the lesser name stands. -/
def uf (i1 i2 : Nat → Nat) : Nat → Nat → Nat
  | 0, p => p
  | n + 1, p => if uf i1 i2 n p = max (uf i1 i2 n (i1 n)) (uf i1 i2 n (i2 n)) then min (uf i1 i2 n (i1 n)) (uf i1 i2 n (i2 n)) else uf i1 i2 n p
section
variable {i1 i2 : Nat → Nat}
theorem uf_le : ∀ (n p : Nat), uf i1 i2 n p ≤ p
  | 0, p => Nat.le_refl _
  | n + 1, p => by
    have := uf_le n p
    simp only [uf]
    split <;> omega
theorem join_idem {F : Nat → Nat} {x y p : Nat} (ha : F x = x) (hb : F y = y) (hp : F (F p) = F p) :
    (if F (if F p = max x y then min x y else F p) = max x y then min x y else F (if F p = max x y then min x y else F p)) = if F p = max x y then min x y else F p := by
  by_cases h : F p = max x y
  · rw [if_pos h]
    have hm : F (min x y) = min x y := by
      rcases Nat.le_total x y with h1 | h1
      · rw [Nat.min_eq_left h1]; exact ha
      · rw [Nat.min_eq_right h1]; exact hb
    rw [hm]
    split <;> rfl
  · rw [if_neg h, hp, if_neg h]
theorem uf_idem : ∀ (n p : Nat), uf i1 i2 n (uf i1 i2 n p) = uf i1 i2 n p
  | 0, p => rfl
  | n + 1, p => by
    simp only [uf]
    exact join_idem (F := uf i1 i2 n) (uf_idem n (i1 n)) (uf_idem n (i2 n)) (uf_idem n p)
theorem uf_edge : ∀ (n k : Nat), k < n → uf i1 i2 n (i1 k) = uf i1 i2 n (i2 k)
  | 0, k, h => by omega
  | n + 1, k, h => by
    simp only [uf]
    by_cases e : k = n
    · subst e
      generalize uf i1 i2 k (i1 k) = x
      generalize uf i1 i2 k (i2 k) = y
      split <;> split <;> omega
    · rw [uf_edge n k (by omega)]
theorem uf_min {S : Nat → Prop} : ∀ (n : Nat), (∀ k, k < n → (S (i1 k) ↔ S (i2 k))) → ∀ p q, uf i1 i2 n p = uf i1 i2 n q → (S p ↔ S q)
  | 0, h, p, q, e => by
    have : p = q := e
    rw [this]
  | n + 1, h, p, q, e => by
    have ih := uf_min (S := S) n (fun k hk => h k (by omega))
    have hn := h n (by omega)
    have j1 := ih p (i1 n)
    have j2 := ih p (i2 n)
    have j3 := ih q (i1 n)
    have j4 := ih q (i2 n)
    have j5 := ih p q
    simp only [uf] at e
    generalize uf i1 i2 n (i1 n) = x at *
    generalize uf i1 i2 n (i2 n) = y at *
    generalize uf i1 i2 n p = u at *
    generalize uf i1 i2 n q = v at *
    by_cases hu : u = max x y <;> by_cases hv : v = max x y
    · exact j5 (by omega)
    · rw [if_pos hu, if_neg hv] at e
      rcases Nat.le_total x y with h1 | h1
      · rw [j2 (by omega), j3 (by omega)]; exact hn.symm
      · rw [j1 (by omega), j4 (by omega)]; exact hn
    · rw [if_neg hu, if_pos hv] at e
      rcases Nat.le_total x y with h1 | h1
      · rw [j1 (by omega), j4 (by omega)]; exact hn
      · rw [j2 (by omega), j3 (by omega)]; exact hn.symm
    · rw [if_neg hu, if_neg hv] at e
      exact j5 e
end
/-- Where an angle lies in a list. -/
def ix (E : List Ang) (a : Ang) : Nat := E.idxOf a
theorem ix_lt {E : List Ang} {a : Ang} (h : a ∈ E) : ix E a < E.length := List.idxOf_lt_length_of_mem h
theorem ea_ix {E : List Ang} {a : Ang} (h : a ∈ E) : ea E (ix E a) = a := by
  rw [ea, getD_at (ix_lt h)]; exact List.getElem_idxOf (ix_lt h)
theorem asc_inj {E : List Ang} (hE : Asc E) {i j : Nat} (hi : i < E.length) (hj : j < E.length) (h : ea E i = ea E j) : i = j := by
  rw [ea, ea, getD_at hi, getD_at hj] at h
  have hp := List.pairwise_iff_getElem.1 hE.2
  rcases Nat.lt_trichotomy i j with h1 | h1 | h1
  · have := hp i j hi hj h1; rw [h] at this; omega
  · exact h1
  · have := hp j i hj hi h1; rw [h] at this; omega
theorem ix_ea {E : List Ang} (hE : Asc E) {i : Nat} (hi : i < E.length) : ix E (ea E i) = i := asc_inj hE (ix_lt (ea_mem hi)) hi (ea_ix (ea_mem hi))
theorem impl_index {E : List Ang} {a : Ang} (hE : Asc E) (h : a ∈ E) (hl : E.length ≤ 1000000) : slices_Index__impl_Angle_impl_Angle E a = some (ix E a : Int) := by
  unfold slices_Index__impl_Angle_impl_Angle
  have hix := ix_lt h
  obtain ⟨r, h1, h2⟩ := loop_inv (step := slices_Index__impl_Angle_impl_Angle_l0) (fun s => ∃ n : Nat, n ≤ ix E a ∧ s = (E, a, ((E.length : Nat) : Int), (n : Int), ())) (fun s => E.length - s.2.2.2.1.toNat)
    (fun r => r = .inl ((ix E a : Int), ())) (by
    rintro _ ⟨n, hn, rfl⟩
    simp only [slices_Index__impl_Angle_impl_Angle_l0, ltb (show n < E.length by omega), nn, Bool.and_self, cond_true, Int.toNat_natCast]
    rw [beqA]
    by_cases e : a = ea E n
    · left
      have : n = ix E a := by
        have := ix_ea hE (show n < E.length by omega)
        rw [← e] at this; omega
      subst this
      exact ⟨_, by rw [show decide (a = E.getD (ix E a) dA) = true from decide_eq_true e, cond_true], rfl⟩
    · right
      have hlt : n < ix E a := by
        rcases Nat.lt_or_ge n (ix E a) with h3 | h3
        · exact h3
        · exact absurd (by rw [show n = ix E a by omega]; exact (ea_ix h).symm) e
      exact ⟨_, by rw [show decide (a = E.getD n dA) = false from decide_eq_false e, cond_false, w64_succ (by omega)], ⟨n + 1, by omega, rfl⟩, by simp; omega⟩) (E, a, ((E.length : Nat) : Int), (0 : Int), ()) ⟨0, by omega, rfl⟩
  rw [h1, h2]
  rfl
end Go.K.Pure

/- Plain laws, part M: the program's names. -/
set_option linter.unusedVariables false
set_option linter.unusedSimpArgs false
namespace Go.K.Pure
open Classical

def nm (f : Nat → Nat) (N : Nat) : List Int := (List.range N).map fun p => ((f p : Nat) : Int)
theorem nm_len {f : Nat → Nat} {N : Nat} : (nm f N).length = N := by simp [nm]
theorem nm_at {f : Nat → Nat} {N p : Nat} (h : p < N) : (nm f N).getD p (0 : Int) = (f p : Int) := by
  simp [nm, h]
theorem nm_ext {f g : Nat → Nat} {N : Nat} (h : ∀ p, p < N → f p = g p) : nm f N = nm g N := by
  unfold nm
  exact List.map_congr_left fun p hp => by rw [h p (List.mem_range.1 hp)]
theorem nm_set {f : Nat → Nat} {N p v : Nat} (h : p < N) : (nm f N).set p (v : Int) = nm (fun q => if q = p then v else f q) N := by
  apply List.ext_getElem?
  intro i
  rw [List.getElem?_set]
  unfold nm
  by_cases hi : i < N
  · by_cases e : p = i
    · subst e; simp [hi]
    · have : ¬ i = p := fun h => e h.symm
      simp [hi, e, this]
  · have : ¬ p = i := by omega
    simp [hi, this]
theorem names_start {L : List Lf} {E : List Ang} {N : Nat} (hN : N ≤ 1000) : loop impl_EndClasses_l0 (L, E, List.replicate N (0 : Int), (N : Int), (0 : Int), ()) = some (L, E, nm id N, ()) := by
  have e0 : List.replicate N (0 : Int) = nm (fun p => if p < 0 then p else 0) N := by
    apply List.ext_getElem?
    intro i
    unfold nm
    by_cases hi : i < N <;> simp [hi]
  rw [e0]
  have := loop_count (step := impl_EndClasses_l0) (fun n => (L, E, nm (fun p => if p < n then p else 0) N, (N : Int), (n : Int), ())) N (L, E, nm (fun p => if p < N then p else 0) N, ()) (by
    intro n hn
    simp only [impl_EndClasses_l0, nm_len, ltb hn, nn, Bool.and_self, cond_true, Int.toNat_natCast]
    rw [nm_set hn, w64_succ (by omega)]
    congr 5
    apply nm_ext
    intro p hp
    split <;> split <;> (try split) <;> omega) (by simp only [impl_EndClasses_l0, nltb (Nat.lt_irrefl N), cond_false]) 0 (Nat.zero_le _)
  refine this.trans ?_
  congr 4
  exact nm_ext fun p hp => by simp [hp]
theorem names_join {L T : List Lf} {E : List Ang} {N : Nat} {f : Nat → Nat} {a b : Nat} {t37 t38 : Int} (hN : N ≤ 1000) :
    loop impl_EndClasses_l2 (L, E, nm f N, (a : Int), (b : Int), T, t37, t38, (N : Int), (0 : Int), ()) = some (L, E, nm (fun p => if f p = max a b then min a b else f p) N, T, t37, t38, ()) := by
  have hmax : (if (b : Int) > (a : Int) then (b : Int) else (a : Int)) = ((max a b : Nat) : Int) := by split <;> omega
  have hmin : (if (b : Int) < (a : Int) then (b : Int) else (a : Int)) = ((min a b : Nat) : Int) := by split <;> omega
  have := loop_count (step := impl_EndClasses_l2) (fun n => (L, E, nm (fun p => if p < n then (if f p = max a b then min a b else f p) else f p) N, (a : Int), (b : Int), T, t37, t38, (N : Int), (n : Int), ())) N (L, E, nm (fun p => if p < N then (if f p = max a b then min a b else f p) else f p) N, T, t37, t38, ()) (by
    intro n hn
    simp only [impl_EndClasses_l2, nm_len, ltb hn, nn, Bool.and_self, cond_true, Int.toNat_natCast]
    rw [nm_at hn, hmax, hmin]
    simp only [Nat.lt_irrefl, if_false]
    by_cases h : f n = max a b
    · have e : ((f n : Int) == ((max a b : Nat) : Int)) = true := by rw [h]; exact beq_self_eq_true _
      rw [e, cond_true, nm_set hn, w64_succ (by omega)]
      congr 4
      apply Prod.ext
      · apply nm_ext
        intro p hp
        by_cases e2 : p = n
        · subst e2; simp [h]
        · by_cases e3 : p < n
          · have : p < n + 1 := by omega
            simp [e2, e3, this]
          · have : ¬ p < n + 1 := by omega
            simp [e2, e3, this]
      · rfl
    · have e : ((f n : Int) == ((max a b : Nat) : Int)) = false := by
        have : ¬ (f n : Int) = ((max a b : Nat) : Int) := by omega
        simpa using this
      rw [e, cond_false, w64_succ (by omega)]
      congr 4
      apply Prod.ext
      · apply nm_ext
        intro p hp
        by_cases e2 : p = n
        · subst e2; simp [h]
        · by_cases e3 : p < n
          · have : p < n + 1 := by omega
            simp [e3, this]
          · have : ¬ p < n + 1 := by omega
            simp [e3, this]
      · rfl) (by simp only [impl_EndClasses_l2, nltb (Nat.lt_irrefl N), cond_false]) 0 (Nat.zero_le _)
  have e0 : nm (fun p => if p < 0 then (if f p = max a b then min a b else f p) else f p) N = nm f N := nm_ext fun p hp => by simp
  rw [e0] at this
  refine this.trans ?_
  congr 4
  exact nm_ext fun p hp => by simp [hp]
/-- The ends of the leaf at k, by their places. -/
def i1 (L : List Lf) (E : List Ang) (k : Nat) : Nat := ix E (at' L k).1
def i2 (L : List Lf) (E : List Ang) (k : Nat) : Nat := ix E (at' L k).2.1
theorem names_all {L : List Lf} {E : List Ang} (h200 : L.length ≤ 200) (hE : Asc E) (hl : E.length ≤ 400) (hm : ∀ k, k < L.length → (at' L k).1 ∈ E ∧ (at' L k).2.1 ∈ E) :
    loop impl_EndClasses_l1 (L, E, nm id E.length, L, (L.length : Int), (0 : Int), ()) = some (E, nm (uf (i1 L E) (i2 L E) L.length) E.length, ()) := by
  refine loop_count (step := impl_EndClasses_l1) (fun n => (L, E, nm (uf (i1 L E) (i2 L E) n) E.length, L, (L.length : Int), (n : Int), ())) L.length _ ?_ ?_ 0 (Nat.zero_le _)
  · intro n hn
    obtain ⟨h1, h2⟩ := hm n hn
    simp only [impl_EndClasses_l1, ltb hn, nn, Bool.and_self, cond_true, Int.toNat_natCast]
    rw [impl_index hE h1 (by omega)]
    simp only [Option.bind_some, nm_len, ltb (ix_lt h1), nn, Bool.and_self, cond_true, Int.toNat_natCast]
    rw [impl_index hE h2 (by omega)]
    simp only [Option.bind_some, nm_len, ltb (ix_lt h2), nn, Bool.and_self, cond_true, Int.toNat_natCast]
    rw [nm_at (ix_lt h1), nm_at (ix_lt h2), names_join (by omega)]
    simp only [Option.bind_some]
    rw [w64_succ (by omega)]
    rfl
  · simp only [impl_EndClasses_l1, nltb (Nat.lt_irrefl L.length), cond_false]
end Go.K.Pure

/- Plain laws, part N: the program's classes. -/
set_option linter.unusedVariables false
set_option linter.unusedSimpArgs false
namespace Go.K.Pure
open Classical

def cls (E : List Ang) (f : Nat → Nat) (r n : Nat) : List Ang := ((List.range n).filter fun q => f q == r).map (ea E)
theorem cls_succ {E : List Ang} {f : Nat → Nat} {r n : Nat} : cls E f r (n + 1) = cls E f r n ++ (if f n = r then [ea E n] else []) := by
  unfold cls
  rw [List.range_succ, List.filter_append, List.map_append]
  congr 1
  by_cases h : f n = r <;> simp [h]
theorem cls_len {E : List Ang} {f : Nat → Nat} {r n : Nat} : (cls E f r n).length ≤ n := by
  unfold cls
  rw [List.length_map]
  exact Nat.le_trans (List.length_filter_le _ _) (by simp)
def outs (E : List Ang) (f : Nat → Nat) (N n : Nat) : List (List Ang) := ((List.range n).filter fun r => f r == r).map fun r => cls E f r N
theorem outs_succ {E : List Ang} {f : Nat → Nat} {N n : Nat} : outs E f N (n + 1) = outs E f N n ++ (if f n = n then [cls E f n N] else []) := by
  unfold outs
  rw [List.range_succ, List.filter_append, List.map_append]
  congr 1
  by_cases h : f n = n <;> simp [h]
theorem outs_len {E : List Ang} {f : Nat → Nat} {N n : Nat} : (outs E f N n).length ≤ n := by
  unfold outs
  rw [List.length_map]
  exact Nat.le_trans (List.length_filter_le _ _) (by simp)
theorem class_one {E : List Ang} {f : Nat → Nat} {O : List (List Ang)} {r : Nat} {t77 t78 : Int} (hl : E.length ≤ 1000) :
    loop impl_EndClasses_l4 (E, nm f E.length, O, (r : Int), ([] : List Ang), t77, t78, (E.length : Int), (0 : Int), ()) = some (E, nm f E.length, O, cls E f r E.length, t77, t78, ()) := by
  refine loop_count (step := impl_EndClasses_l4) (fun n => (E, nm f E.length, O, (r : Int), cls E f r n, t77, t78, (E.length : Int), (n : Int), ())) E.length _ ?_ ?_ 0 (Nat.zero_le _)
  · intro n hn
    simp only [impl_EndClasses_l4, nm_len, ltb hn, nn, Bool.and_self, cond_true, Int.toNat_natCast]
    rw [nm_at hn, cls_succ, w64_succ (by omega)]
    by_cases h : f n = r
    · have e : ((f n : Int) == (r : Int)) = true := by rw [h]; exact beq_self_eq_true _
      rw [e, cond_true, if_pos h]
      have hb : decide (((cls E f r n).length + [E.getD n dA].length) * 16 ≤ 140737488355328) = true := by
        have := cls_len (E := E) (f := f) (r := r) (n := n)
        simp only [decide_eq_true_eq, List.length_singleton]; omega
      rw [hb]
      rfl
    · have e : ((f n : Int) == (r : Int)) = false := by
        have : ¬ (f n : Int) = (r : Int) := by omega
        simpa using this
      rw [e, cond_false, if_neg h, List.append_nil]
  · simp only [impl_EndClasses_l4, nltb (Nat.lt_irrefl E.length), cond_false]
theorem classes_all {E : List Ang} {f : Nat → Nat} (hf : ∀ q, f (f q) = f q) (hl : E.length ≤ 1000) :
    loop impl_EndClasses_l3 (E, nm f E.length, ([] : List (List Ang)), (E.length : Int), (0 : Int), ()) = some (outs E f E.length E.length, ()) := by
  refine loop_count (step := impl_EndClasses_l3) (fun n => (E, nm f E.length, outs E f E.length n, (E.length : Int), (n : Int), ())) E.length _ ?_ ?_ 0 (Nat.zero_le _)
  · intro n hn
    simp only [impl_EndClasses_l3, nm_len, ltb hn, cond_true]
    rw [class_one hl]
    simp only [Option.bind_some]
    rw [outs_succ, w64_succ (by omega)]
    by_cases h : f n = n
    · have hne : 0 < (cls E f n E.length).length := by
        unfold cls
        rw [List.length_map]
        exact List.length_pos_of_mem (a := n) (List.mem_filter.2 ⟨List.mem_range.2 hn, by simp [h]⟩)
      have e : decide (((cls E f n E.length).length : Int) > 0) = true := by simp only [decide_eq_true_eq]; omega
      rw [e, cond_true, if_pos h]
      have hb : decide (((outs E f E.length n).length + [cls E f n E.length].length) * 24 ≤ 140737488355328) = true := by
        have := outs_len (E := E) (f := f) (N := E.length) (n := n)
        simp only [decide_eq_true_eq, List.length_singleton]; omega
      rw [hb]
      rfl
    · have hz : (cls E f n E.length).length = 0 := by
        unfold cls
        rw [List.length_map, List.length_eq_zero_iff, List.filter_eq_nil_iff]
        intro q hq hh
        have hq' : f q = n := by simpa using hh
        exact h (by rw [← hq', hf])
      have e : decide (((cls E f n E.length).length : Int) > 0) = false := by simp only [decide_eq_false_iff_not]; omega
      rw [e, cond_false, if_neg h, List.append_nil]
  · simp only [impl_EndClasses_l3, nltb (Nat.lt_irrefl E.length), cond_false]
/-- What the program's EndClasses gives. -/
theorem impl_classes {L : List Lf} (hL : ∀ l ∈ L, InL l) (hLam : Lam L) {E : List Ang} (h1 : impl_ends L = some E) (hE : Asc E) (hm : ∀ b, b ∈ E ↔ isEnd L L.length b) (hl : E.length ≤ 400) :
    impl_EndClasses L = some (outs E (uf (i1 L E) (i2 L E) L.length) E.length E.length, 0) := by
  unfold impl_EndClasses
  rw [impl_lam hL, decide_eq_true hLam]
  simp only [Option.bind_some, Bool.not_true, cond_false]
  rw [h1]
  simp only [Option.bind_some]
  have c : (((decide ((0 : Int) ≤ ((E.length : Nat) : Int))) && (decide (((E.length : Nat) : Int) ≤ ((E.length : Nat) : Int)))) && (decide ((((E.length : Nat) : Int) * ((8 : Nat) : Int)) ≤ (140737488355328 : Int)))) = true := by
    simp only [Bool.and_eq_true, decide_eq_true_eq]; omega
  rw [c, cond_true]
  simp only [Int.toNat_natCast, List.length_replicate]
  rw [names_start (by omega)]
  simp only [Option.bind_some]
  rw [names_all hLam.1 hE hl (fun k hk => ⟨(hm _).2 ⟨k, hk, .inl rfl⟩, (hm _).2 ⟨k, hk, .inr rfl⟩⟩)]
  simp only [Option.bind_some]
  rw [classes_all (uf_idem _) (by omega)]
  rfl
end Go.K.Pure

/- Plain laws, part O: the reference's classes. -/
set_option linter.unusedVariables false
set_option linter.unusedSimpArgs false
namespace Go.K.Pure
open Classical

theorem asc_nodup {xs : List Ang} (h : Asc xs) : xs.Nodup := h.2.imp fun h e => by rw [e] at h; omega
theorem insert_same {xs ys : List Ang} {a : Ang} (hx : Asc xs) (hy : Asc ys) (hm : ∀ b, b ∈ ys ↔ b ∈ xs ∨ b = a) (hl : ys.length ≤ xs.length) : a ∈ xs ∧ ys = xs := by
  have ha : a ∈ xs := by
    by_cases h : a ∈ xs
    · exact h
    · have := List.Nodup.length_le_of_subset (l₁ := a :: xs) (l₂ := ys) (List.nodup_cons.2 ⟨h, asc_nodup hx⟩) (fun b hb => by
        rcases List.mem_cons.1 hb with hb | hb
        · exact (hm b).2 (.inr hb)
        · exact (hm b).2 (.inl hb))
      rw [List.length_cons] at this
      omega
  exact ⟨ha, asc_ext hy hx fun b => (hm b).trans ⟨fun h => h.elim id fun h => by rw [h]; exact ha, .inl⟩⟩
/-- Is the end at i in one of the classes? -/
theorem known_in {L : List Lf} {E : List Ang} {O : List (List Ang)} {i k : Nat} (hi : i < E.length) (hk : k < O.length) (hO : ∀ c ∈ O, c.length ≤ 1000) (b : Bool) :
    loop spec_l05Classes_l2 (L, E, O, (i : Int), b, (k : Int), (0 : Int), ()) = some (L, E, O, (i : Int), (b || decide (ea E i ∈ O.getD k [])), (k : Int), ()) := by
  have hc : (O.getD k []).length ≤ 1000 := by rw [getD_at hk]; exact hO _ (List.getElem_mem hk)
  have := loop_count (step := spec_l05Classes_l2) (fun n => (L, E, O, (i : Int), (b || decide (ea E i ∈ (O.getD k []).take n)), (k : Int), (n : Int), ())) (O.getD k []).length (L, E, O, (i : Int), (b || decide (ea E i ∈ O.getD k [])), (k : Int), ()) (by
    intro n hn
    have htk : ea E i ∈ (O.getD k []).take (n + 1) ↔ ea E i ∈ (O.getD k []).take n ∨ ea E i = ea (O.getD k []) n := by
      rw [List.take_succ_eq_append_getElem hn, List.mem_append, List.mem_singleton]
      have : ea (O.getD k []) n = (O.getD k [])[n] := getD_at hn
      rw [this]
    simp only [spec_l05Classes_l2, ltb hk, nn, Bool.and_self, cond_true, Int.toNat_natCast]
    simp only [ltb hn, ltb hi, nn, Bool.and_self, cond_true, Int.toNat_natCast]
    rw [w64_succ (by omega)]
    have hdec : decide (ea E i ∈ (O.getD k []).take (n + 1)) = (decide (ea E i ∈ (O.getD k []).take n) || decide (ea E i = ea (O.getD k []) n)) := by
      rw [decide_eq_decide.2 htk, Bool.decide_or]
    rw [hdec]
    cases hb : (b || decide (ea E i ∈ (O.getD k []).take n)) with
    | true =>
      simp only [cond_true]
      rw [← Bool.or_assoc, hb, Bool.true_or]
    | false =>
      simp only [cond_false]
      rw [beqA, ← Bool.or_assoc, hb, Bool.false_or]
      have : decide ((O.getD k []).getD n dA = E.getD i dA) = decide (ea E i = ea (O.getD k []) n) := decide_eq_decide.2 eq_comm
      rw [this]) (by
    simp only [spec_l05Classes_l2, ltb hk, nn, Bool.and_self, cond_true, Int.toNat_natCast]
    simp only [nltb (Nat.lt_irrefl (O.getD k []).length), cond_false, List.take_length]) 0 (Nat.zero_le _)
  simp only [List.take_zero, List.not_mem_nil, decide_false, Bool.or_false] at this
  exact this
def Known (E : List Ang) (O : List (List Ang)) (i : Nat) : Prop := ∃ c ∈ O, ea E i ∈ c
theorem known_all {L : List Lf} {E : List Ang} {O : List (List Ang)} {i : Nat} (hi : i < E.length) (hO : ∀ c ∈ O, c.length ≤ 1000) (hl : O.length ≤ 1000) :
    loop spec_l05Classes_l1 (L, E, O, (i : Int), false, (0 : Int), ()) = some (L, E, O, (i : Int), decide (Known E O i), ()) := by
  have := loop_count (step := spec_l05Classes_l1) (fun n => (L, E, O, (i : Int), decide (Known E (O.take n) i), (n : Int), ())) O.length (L, E, O, (i : Int), decide (Known E O i), ()) (by
    intro n hn
    simp only [spec_l05Classes_l1, ltb hn, cond_true]
    rw [known_in hi hn hO]
    simp only [Option.bind_some]
    rw [w64_succ (by omega)]
    have htk : Known E (O.take (n + 1)) i ↔ Known E (O.take n) i ∨ ea E i ∈ O.getD n [] := by
      unfold Known
      rw [List.take_succ_eq_append_getElem hn, getD_at hn]
      constructor
      · rintro ⟨c, hc, h⟩
        rcases List.mem_append.1 hc with hc | hc
        · exact .inl ⟨c, hc, h⟩
        · rw [List.mem_singleton.1 hc] at h; exact .inr h
      · rintro (⟨c, hc, h⟩ | h)
        · exact ⟨c, List.mem_append_left _ hc, h⟩
        · exact ⟨_, List.mem_append_right _ (List.mem_singleton.2 rfl), h⟩
    have hdec : decide (Known E (O.take (n + 1)) i) = (decide (Known E (O.take n) i) || decide (ea E i ∈ O.getD n [])) := by
      rw [decide_eq_decide.2 htk, Bool.decide_or]
    rw [hdec]) (by simp only [spec_l05Classes_l1, nltb (Nat.lt_irrefl O.length), cond_false, List.take_length]) 0 (Nat.zero_le _)
  have e0 : ¬ Known E (O.take 0) i := by simp [Known]
  rw [decide_eq_false e0] at this
  exact this
end Go.K.Pure

/- Plain laws, part Q: a class of the reference. -/
set_option linter.unusedVariables false
set_option linter.unusedSimpArgs false
namespace Go.K.Pure
open Classical

def OwnOf (E : List Ang) (f : Nat → Nat) (r : Nat) (o : List Ang) : Prop := Asc o ∧ ∀ b ∈ o, b ∈ E ∧ f (ix E b) = r
def ClosedAt (L : List Lf) (o : List Ang) (k : Nat) : Prop := (at' L k).1 ∈ o ∨ (at' L k).2.1 ∈ o → (at' L k).1 ∈ o ∧ (at' L k).2.1 ∈ o
section
variable {L : List Lf} {E : List Ang} {O : List (List Ang)} {f : Nat → Nat} {r i : Nat}
theorem own_len {o : List Ang} (h : OwnOf E f r o) : o.length ≤ E.length := List.Nodup.length_le_of_subset (asc_nodup h.1) fun b hb => (h.2 b hb).1
theorem own_put {o : List Ang} {k : Nat} (ho : OwnOf E f r o) (hl : E.length ≤ 400) (hk : isL (at' L k)) (h1 : (at' L k).1 ∈ E) (h2 : (at' L k).2.1 ∈ E) (he : f (ix E (at' L k).1) = f (ix E (at' L k).2.1)) (hin : (at' L k).1 ∈ o ∨ (at' L k).2.1 ∈ o) :
    ∃ o1 o2, spec_l01Insert o (at' L k).1 = some o1 ∧ spec_l01Insert o1 (at' L k).2.1 = some o2 ∧ OwnOf E f r o2 ∧ (∀ b, b ∈ o → b ∈ o2) ∧ o.length ≤ o2.length ∧ (o2.length = o.length → o2 = o ∧ ClosedAt L o k) := by
  have hlen := own_len ho
  obtain ⟨o1, a1, a2, a3, a4, a5⟩ := spec_insert ho.1 hk.1 (by omega)
  obtain ⟨o2, b1, b2, b3, b4, b5⟩ := spec_insert a2 hk.2.1 (by omega)
  have hr : f (ix E (at' L k).1) = r := by
    rcases hin with h | h
    · exact (ho.2 _ h).2
    · rw [he]; exact (ho.2 _ h).2
  refine ⟨o1, o2, a1, b1, ⟨b2, fun b hb => ?_⟩, fun b hb => (b3 b).2 (.inl ((a3 b).2 (.inl hb))), by omega, fun hle => ?_⟩
  · rcases (b3 b).1 hb with hb | hb
    · rcases (a3 b).1 hb with hb | hb
      · exact ho.2 b hb
      · rw [hb]; exact ⟨h1, hr⟩
    · rw [hb]; exact ⟨h2, by rw [← he]; exact hr⟩
  · obtain ⟨c1, c2⟩ := insert_same ho.1 a2 a3 (by omega)
    obtain ⟨c3, c4⟩ := insert_same a2 b2 b3 (by omega)
    rw [c2] at c3 c4
    exact ⟨c4, fun _ => ⟨c1, c3⟩⟩
theorem own_leaf {o : List Ang} {k size : Nat} (ho : OwnOf E f r o) (hl : E.length ≤ 400) (hkL : k < L.length) (hk : isL (at' L k)) (h1 : (at' L k).1 ∈ E) (h2 : (at' L k).2.1 ∈ E) (he : f (ix E (at' L k).1) = f (ix E (at' L k).2.1)) (hs : size ≤ o.length) :
    ∃ o', loop spec_l05Classes_l5 (L, E, O, (i : Int), o, (size : Int), (k : Int), (0 : Int), ()) = some (L, E, O, (i : Int), o', (size : Int), (k : Int), ()) ∧ OwnOf E f r o' ∧ (∀ b, b ∈ o → b ∈ o') ∧ o.length ≤ o'.length ∧ (o'.length = o.length → o' = o ∧ (size = o.length → ClosedAt L o k)) := by
  have hlen := own_len ho
  obtain ⟨s, e1, o', rfl, e2, e3, e4, e5⟩ := loop_inv (step := spec_l05Classes_l5) (fun s => ∃ n : Nat, n ≤ size ∧ s = (L, E, O, (i : Int), o, (size : Int), (k : Int), (n : Int), ()) ∧ ∀ j, j < n → ea o j ≠ (at' L k).1 ∧ ea o j ≠ (at' L k).2.1) (fun s => size - s.2.2.2.2.2.2.2.1.toNat)
    (fun s => ∃ o', s = (L, E, O, (i : Int), o', (size : Int), (k : Int), ()) ∧ OwnOf E f r o' ∧ (∀ b, b ∈ o → b ∈ o') ∧ o.length ≤ o'.length ∧ (o'.length = o.length → o' = o ∧ (size = o.length → ClosedAt L o k))) (by
    rintro _ ⟨n, hn, rfl, hj⟩
    by_cases h : n < size
    · have hno : n < o.length := by omega
      simp only [spec_l05Classes_l5, ltb h, ltb hno, ltb hkL, nn, Bool.and_self, cond_true, Int.toNat_natCast]
      rw [beqA, beqA]
      by_cases c1 : ea o n = (at' L k).1
      · left
        obtain ⟨o1, o2, p1, p2, p3, p4, p5, p6⟩ := own_put (L := L) (k := k) ho hl hk h1 h2 he (.inl (by rw [← c1]; exact ea_mem hno))
        rw [show decide (o.getD n dA = (L.getD k dLf).1) = true from decide_eq_true c1, cond_true]
        rw [show spec_l01Insert o (L.getD k dLf).1 = some o1 from p1]
        simp only [Option.bind_some]
        rw [show spec_l01Insert o1 (L.getD k dLf).2.1 = some o2 from p2]
        exact ⟨_, rfl, o2, rfl, p3, p4, p5, fun hh => ⟨(p6 hh).1, fun _ => (p6 hh).2⟩⟩
      · rw [show decide (o.getD n dA = (L.getD k dLf).1) = false from decide_eq_false c1, cond_false]
        by_cases c2 : ea o n = (at' L k).2.1
        · left
          obtain ⟨o1, o2, p1, p2, p3, p4, p5, p6⟩ := own_put (L := L) (k := k) ho hl hk h1 h2 he (.inr (by rw [← c2]; exact ea_mem hno))
          rw [show decide (o.getD n dA = (L.getD k dLf).2.1) = true from decide_eq_true c2, cond_true]
          rw [show spec_l01Insert o (L.getD k dLf).1 = some o1 from p1]
          simp only [Option.bind_some]
          rw [show spec_l01Insert o1 (L.getD k dLf).2.1 = some o2 from p2]
          exact ⟨_, rfl, o2, rfl, p3, p4, p5, fun hh => ⟨(p6 hh).1, fun _ => (p6 hh).2⟩⟩
        · right
          rw [show decide (o.getD n dA = (L.getD k dLf).2.1) = false from decide_eq_false c2, cond_false, w64_succ (by omega)]
          refine ⟨_, rfl, ⟨n + 1, by omega, rfl, fun j hj' => ?_⟩, by simp; omega⟩
          by_cases e : j = n
          · subst e; exact ⟨c1, c2⟩
          · exact hj j (by omega)
    · left
      have : n = size := by omega
      subst this
      refine ⟨_, by simp only [spec_l05Classes_l5, nltb h, cond_false], o, rfl, ho, fun b hb => hb, Nat.le_refl _, fun _ => ⟨rfl, fun hsz hc => ?_⟩⟩
      exfalso
      rcases hc with hc | hc
      · obtain ⟨j, hj1, hj2⟩ := List.getElem_of_mem hc
        refine (hj j (by omega)).1 ?_
        rw [ea, getD_at hj1]; exact hj2
      · obtain ⟨j, hj1, hj2⟩ := List.getElem_of_mem hc
        refine (hj j (by omega)).2 ?_
        rw [ea, getD_at hj1]; exact hj2) (L, E, O, (i : Int), o, (size : Int), (k : Int), (0 : Int), ()) ⟨0, by omega, rfl, fun j h => by omega⟩
  exact ⟨o', e1, e2, e3, e4, e5⟩
theorem own_pass {o : List Ang} (ho : OwnOf E f r o) (hl : E.length ≤ 400) (h200 : L.length ≤ 200) (hk : ∀ k, k < L.length → isL (at' L k)) (hm : ∀ k, k < L.length → (at' L k).1 ∈ E ∧ (at' L k).2.1 ∈ E) (he : ∀ k, k < L.length → f (ix E (at' L k).1) = f (ix E (at' L k).2.1)) :
    ∃ o', loop spec_l05Classes_l4 (L, E, O, (i : Int), o, (o.length : Int), (0 : Int), ()) = some (L, E, O, (i : Int), o', (o.length : Int), ()) ∧ OwnOf E f r o' ∧ (∀ b, b ∈ o → b ∈ o') ∧ o.length ≤ o'.length ∧ (o'.length = o.length → ∀ k, k < L.length → ClosedAt L o' k) := by
  obtain ⟨s, e1, o', rfl, e2, e3, e4, e5⟩ := loop_inv (step := spec_l05Classes_l4) (fun s => ∃ (n : Nat) (o1 : List Ang), n ≤ L.length ∧ s = (L, E, O, (i : Int), o1, (o.length : Int), (n : Int), ()) ∧ OwnOf E f r o1 ∧ (∀ b, b ∈ o → b ∈ o1) ∧ o.length ≤ o1.length ∧ (o1.length = o.length → ∀ k, k < n → ClosedAt L o1 k)) (fun s => L.length - s.2.2.2.2.2.2.1.toNat)
    (fun s => ∃ o', s = (L, E, O, (i : Int), o', (o.length : Int), ()) ∧ OwnOf E f r o' ∧ (∀ b, b ∈ o → b ∈ o') ∧ o.length ≤ o'.length ∧ (o'.length = o.length → ∀ k, k < L.length → ClosedAt L o' k)) (by
    rintro _ ⟨n, o1, hn, rfl, i1, i2, i3, i4⟩
    by_cases h : n < L.length
    · right
      obtain ⟨o2, j1, j2, j3, j4, j5⟩ := own_leaf (O := O) (i := i) i1 hl h (hk n h) (hm n h).1 (hm n h).2 (he n h) i3
      simp only [spec_l05Classes_l4, ltb h, cond_true]
      rw [j1]
      simp only [Option.bind_some]
      rw [w64_succ (by omega)]
      refine ⟨_, rfl, ⟨n + 1, o2, by omega, rfl, j2, fun b hb => j3 b (i2 b hb), by omega, fun hsz k hk' => ?_⟩, by simp; omega⟩
      obtain ⟨q1, q2⟩ := j5 (by omega)
      subst q1
      by_cases e : k = n
      · subst e; exact q2 hsz.symm
      · exact i4 hsz k (by omega)
    · left
      have : n = L.length := by omega
      subst this
      exact ⟨_, by simp only [spec_l05Classes_l4, nltb h, cond_false], o1, rfl, i1, i2, i3, i4⟩) (L, E, O, (i : Int), o, (o.length : Int), (0 : Int), ()) ⟨0, o, by omega, rfl, ho, fun b hb => hb, Nat.le_refl _, fun _ k h => by omega⟩
  exact ⟨o', e1, e2, e3, e4, e5⟩
theorem own_all {e : Ang} (ho : OwnOf E f r [e]) (hl : E.length ≤ 400) (h200 : L.length ≤ 200) (hk : ∀ k, k < L.length → isL (at' L k)) (hm : ∀ k, k < L.length → (at' L k).1 ∈ E ∧ (at' L k).2.1 ∈ E) (he : ∀ k, k < L.length → f (ix E (at' L k).1) = f (ix E (at' L k).2.1)) :
    ∃ o', loop spec_l05Classes_l3 (L, E, O, (i : Int), [e], (0 : Int), ()) = some (L, E, O, (i : Int), o', ()) ∧ OwnOf E f r o' ∧ e ∈ o' ∧ ∀ k, k < L.length → ClosedAt L o' k := by
  obtain ⟨s, e1, o', rfl, e2, e3, e4⟩ := loop_inv (step := spec_l05Classes_l3) (fun s => ∃ (n : Nat) (o1 : List Ang), s = (L, E, O, (i : Int), o1, (n : Int), ()) ∧ OwnOf E f r o1 ∧ e ∈ o1 ∧ n ≤ o1.length ∧ (n = o1.length → ∀ k, k < L.length → ClosedAt L o1 k)) (fun s => E.length - s.2.2.2.2.2.1.toNat)
    (fun s => ∃ o', s = (L, E, O, (i : Int), o', ()) ∧ OwnOf E f r o' ∧ e ∈ o' ∧ ∀ k, k < L.length → ClosedAt L o' k) (by
    rintro _ ⟨n, o1, rfl, i1, i2, i3, i4⟩
    have hlen := own_len i1
    by_cases h : n < o1.length
    · right
      obtain ⟨o2, j1, j2, j3, j4, j5⟩ := own_pass (O := O) (i := i) i1 hl h200 hk hm he
      simp only [spec_l05Classes_l3, ltb h, cond_true]
      rw [j1]
      simp only [Option.bind_some]
      exact ⟨_, rfl, ⟨o1.length, o2, rfl, j2, j3 _ i2, j4, fun hh => j5 hh.symm⟩, by simp; omega⟩
    · left
      exact ⟨_, by simp only [spec_l05Classes_l3, nltb h, cond_false], o1, rfl, i1, i2, i4 (by omega)⟩) (L, E, O, (i : Int), [e], (0 : Int), ()) ⟨0, [e], rfl, ho, List.mem_singleton.2 rfl, by simp, fun h => by simp at h⟩
  exact ⟨o', e1, e2, e3, e4⟩
end
end Go.K.Pure

/- Plain laws, part R: EndClasses. -/
set_option linter.unusedVariables false
set_option linter.unusedSimpArgs false
namespace Go.K.Pure
open Classical

theorem mem_cls {E : List Ang} {f : Nat → Nat} {r N : Nat} {b : Ang} : b ∈ cls E f r N ↔ ∃ q, q < N ∧ f q = r ∧ ea E q = b := by
  unfold cls
  simp only [List.mem_map, List.mem_filter, List.mem_range, beq_iff_eq]
  constructor
  · rintro ⟨q, ⟨h1, h2⟩, h3⟩; exact ⟨q, h1, h2, h3⟩
  · rintro ⟨q, h1, h2, h3⟩; exact ⟨q, ⟨h1, h2⟩, h3⟩
theorem asc_cls {E : List Ang} (hE : Asc E) {f : Nat → Nat} {r : Nat} : Asc (cls E f r E.length) := by
  refine ⟨fun x hx => ?_, ?_⟩
  · obtain ⟨q, h1, _, rfl⟩ := mem_cls.1 hx
    exact hE.1 _ (ea_mem h1)
  · unfold cls
    rw [List.pairwise_map]
    refine List.Pairwise.imp_of_mem ?_ (List.pairwise_lt_range.filter _)
    intro p q hp hq hpq
    have h1 := List.mem_range.1 (List.mem_filter.1 hp).1
    have h2 := List.mem_range.1 (List.mem_filter.1 hq).1
    rw [ea, ea, getD_at h1, getD_at h2]
    exact (List.pairwise_iff_getElem.1 hE.2) p q h1 h2 hpq
theorem known_iff {E : List Ang} (hE : Asc E) {f : Nat → Nat} (hf : ∀ q, f (f q) = f q) (hle : ∀ q, f q ≤ q) {n : Nat} (hn : n < E.length) : Known E (outs E f E.length n) n ↔ f n ≠ n := by
  unfold Known outs
  constructor
  · rintro ⟨c, hc, h⟩ he
    obtain ⟨r, hr, rfl⟩ := List.mem_map.1 hc
    obtain ⟨h1, h2⟩ := List.mem_filter.1 hr
    obtain ⟨q, h3, h4, h5⟩ := mem_cls.1 h
    have := asc_inj hE h3 hn h5
    subst this
    have := List.mem_range.1 h1
    omega
  · intro h
    refine ⟨_, List.mem_map.2 ⟨f n, List.mem_filter.2 ⟨List.mem_range.2 (by have := hle n; omega), by simpa using hf n⟩, rfl⟩, ?_⟩
    exact mem_cls.2 ⟨n, hn, rfl, rfl⟩
theorem spec_classes {L : List Lf} (hLam : Lam L) {E : List Ang} (h1 : spec_l03Ends L = some E) (hE : Asc E) (hm : ∀ b, b ∈ E ↔ isEnd L L.length b) (hl : E.length ≤ 400) :
    spec_l05Classes L = some (outs E (uf (i1 L E) (i2 L E) L.length) E.length E.length) := by
  have hmE : ∀ k, k < L.length → (at' L k).1 ∈ E ∧ (at' L k).2.1 ∈ E := fun k hk => ⟨(hm _).2 ⟨k, hk, .inl rfl⟩, (hm _).2 ⟨k, hk, .inr rfl⟩⟩
  have hedge : ∀ k, k < L.length → uf (i1 L E) (i2 L E) L.length (ix E (at' L k).1) = uf (i1 L E) (i2 L E) L.length (ix E (at' L k).2.1) := fun k hk => uf_edge L.length k hk
  have hmin := fun (S : Nat → Prop) (h : ∀ k, k < L.length → (S (i1 L E k) ↔ S (i2 L E k))) => uf_min (i1 := i1 L E) (i2 := i2 L E) (S := S) L.length h
  have hf := uf_idem (i1 := i1 L E) (i2 := i2 L E) L.length
  have hle := uf_le (i1 := i1 L E) (i2 := i2 L E) L.length
  generalize hfd : uf (i1 L E) (i2 L E) L.length = f at *
  unfold spec_l05Classes
  rw [h1]
  simp only [Option.bind_some]
  have := loop_count (step := spec_l05Classes_l0) (fun n => (L, E, outs E f E.length n, (n : Int), ())) E.length (outs E f E.length E.length, ()) (by
    intro n hn
    simp only [spec_l05Classes_l0, ltb hn, cond_true]
    have ho := outs_len (E := E) (f := f) (N := E.length) (n := n)
    rw [known_all hn (fun c hc => by
      obtain ⟨r, _, rfl⟩ := List.mem_map.1 hc
      have := cls_len (E := E) (f := f) (r := r) (n := E.length)
      omega) (by omega)]
    simp only [Option.bind_some]
    rw [outs_succ, decide_eq_decide.2 (known_iff hE hf hle hn)]
    by_cases h : f n = n
    · rw [decide_eq_false (fun hh => hh h), cond_false, if_pos h]
      simp only [ltb hn, nn, Bool.and_self, cond_true, Int.toNat_natCast]
      have hown : OwnOf E f n [E.getD n dA] := by
        refine ⟨⟨fun x hx => ?_, List.pairwise_singleton _ _⟩, fun b hb => ?_⟩
        · rw [List.mem_singleton.1 hx]; exact hE.1 _ (ea_mem hn)
        · rw [List.mem_singleton.1 hb]
          refine ⟨ea_mem hn, ?_⟩
          rw [show ix E (E.getD n dA) = n from ix_ea hE hn]; exact h
      obtain ⟨o, a1, a2, a3, a4⟩ := own_all (L := L) (O := outs E f E.length n) (i := n) hown hl hLam.1 (fun k hk => (hLam.2 k hk).1) hmE hedge
      rw [a1]
      simp only [Option.bind_some]
      have hb : decide (((outs E f E.length n).length + [o].length) * 24 ≤ 140737488355328) = true := by
        simp only [decide_eq_true_eq, List.length_singleton]; omega
      rw [hb, cond_true, w64_succ (by omega)]
      have heq : o = cls E f n E.length := by
        refine asc_ext a2.1 (asc_cls hE) fun b => ⟨fun hb => ?_, fun hb => ?_⟩
        · obtain ⟨b1, b2⟩ := a2.2 b hb
          exact mem_cls.2 ⟨ix E b, ix_lt b1, b2, ea_ix b1⟩
        · obtain ⟨q, q1, q2, rfl⟩ := mem_cls.1 hb
          have := hmin (fun p => ea E p ∈ o) (fun k hk => by
            have e1 : ea E (i1 L E k) = (at' L k).1 := ea_ix (hmE k hk).1
            have e2 : ea E (i2 L E k) = (at' L k).2.1 := ea_ix (hmE k hk).2
            rw [e1, e2]
            exact ⟨fun hh => (a4 k hk (.inl hh)).2, fun hh => (a4 k hk (.inr hh)).1⟩) q n (by rw [q2, h])
          exact this.2 a3
      rw [heq]
    · rw [decide_eq_true h, cond_true, if_neg h, List.append_nil, w64_succ (by omega)]) (by simp only [spec_l05Classes_l0, nltb (Nat.lt_irrefl E.length), cond_false]) 0 (Nat.zero_le _)
  have e0 : outs E f E.length 0 = [] := rfl
  rw [e0] at this
  have t2 : loop spec_l05Classes_l0 (L, E, ([] : List (List Ang)), (0 : Int), ()) = some (outs E f E.length E.length, ()) := this
  rw [t2]
  rfl
/-- The program's EndClasses is the reference's. -/
theorem endClasses_same {L : List Lf} (hL : ∀ l ∈ L, InL l) : ∃ r : List (List Ang) × Int, spec_EndClasses L = some r ∧ impl_EndClasses L = some r ∧ r.1.length ≤ 400 ∧ ∀ c ∈ r.1, c.length ≤ 400 := by
  by_cases hLam : Lam L
  · obtain ⟨E, h1, h2, h3, h4, h5⟩ := ends_same hLam
    refine ⟨_, ?_, impl_classes hL hLam h2 h3 h4 h5, ?_, ?_⟩
    · unfold spec_EndClasses
      rw [spec_lam hL, decide_eq_true hLam]
      simp only [Option.bind_some, Bool.not_true, cond_false]
      rw [spec_classes hLam h1 h3 h4 h5]
      rfl
    · have := outs_len (E := E) (f := uf (i1 L E) (i2 L E) L.length) (N := E.length) (n := E.length)
      simp only; omega
    · intro c hc
      obtain ⟨r, _, rfl⟩ := List.mem_map.1 hc
      have := cls_len (E := E) (f := uf (i1 L E) (i2 L E) L.length) (r := r) (n := E.length)
      omega
  · refine ⟨([], 1), ?_, ?_, by simp, by simp⟩
    · unfold spec_EndClasses
      rw [spec_lam hL, decide_eq_false hLam]
      rfl
    · unfold impl_EndClasses
      rw [impl_lam hL, decide_eq_false hLam]
      rfl
end Go.K.Pure

/- Plain laws, part T: the law's own functions. -/
set_option linter.unusedVariables false
set_option linter.unusedSimpArgs false
namespace Go.K.Pure
open Classical

def tab {α : Type} (g : Nat → α) (N : Nat) : List α := (List.range N).map g
section
variable {α : Type} {g h : Nat → α} {N p : Nat} {d v : α}
theorem tab_len : (tab g N).length = N := by simp [tab]
theorem tab_at (hp : p < N) : (tab g N).getD p d = g p := by simp [tab, hp]
theorem tab_ext (hh : ∀ p, p < N → g p = h p) : tab g N = tab h N := List.map_congr_left fun p hp => hh p (List.mem_range.1 hp)
theorem tab_set (hp : p < N) : (tab g N).set p v = tab (fun q => if q = p then v else g q) N := by
  apply List.ext_getElem?
  intro i
  rw [List.getElem?_set]
  unfold tab
  by_cases hi : i < N
  · by_cases e : p = i
    · subst e; simp [hi]
    · have : ¬ i = p := fun h => e h.symm
      simp [hi, e, this]
  · have : ¬ p = i := by omega
    simp [hi, this]
theorem tab_self (l : List α) : tab (fun i => l.getD i d) l.length = l := by
  apply List.ext_getElem?
  intro i
  unfold tab
  by_cases hi : i < l.length
  · simp [hi]
  · simp [hi]
theorem tab_rep : List.replicate N v = tab (fun _ => v) N := by
  apply List.ext_getElem?
  intro i
  unfold tab
  by_cases hi : i < N <;> simp [hi]
end
theorem to_leaves {L : List Lf} (h : L.length ≤ 1048576) : laws_toLeafS L = some L := by
  unfold laws_toLeafS
  have c : (((decide ((0 : Int) ≤ ((L.length : Nat) : Int))) && (decide (((L.length : Nat) : Int) ≤ ((L.length : Nat) : Int)))) && (decide ((((L.length : Nat) : Int) * ((32 : Nat) : Int)) ≤ (140737488355328 : Int)))) = true := by
    simp only [Bool.and_eq_true, decide_eq_true_eq]; omega
  rw [c, cond_true, Int.toNat_natCast, tab_rep]
  have := loop_count (step := laws_toLeafS_l0) (fun n => (L, tab (fun p => if p < n then L.getD p dLf else dLf) L.length, (n : Int), ())) L.length (tab (fun p => if p < L.length then L.getD p dLf else dLf) L.length, ()) (by
    intro n hn
    simp only [laws_toLeafS_l0, tab_len, ltb hn, nn, Bool.and_self, cond_true, Int.toNat_natCast]
    unfold laws_toLeaf laws_toAngle
    simp only [Option.bind_some]
    rw [tab_set hn, w64_succ (by omega)]
    congr 3
    apply Prod.ext
    · apply tab_ext
      intro p hp
      by_cases e : p = n
      · subst e; simp
      · by_cases e2 : p < n
        · have : p < n + 1 := by omega
          simp [e, e2, this]
        · have : ¬ p < n + 1 := by omega
          simp [e, e2, this]
    · rfl) (by simp only [laws_toLeafS_l0, nltb (Nat.lt_irrefl L.length), cond_false]) 0 (Nat.zero_le _)
  have e0 : tab (fun p => if p < 0 then L.getD p dLf else dLf) L.length = tab (fun _ => dLf) L.length := tab_ext fun p hp => by simp
  rw [e0] at this
  have t2 : loop laws_toLeafS_l0 (L, tab (fun _ => dLf) L.length, (0 : Int), ()) = some (tab (fun p => if p < L.length then L.getD p dLf else dLf) L.length, ()) := this
  rw [t2]
  simp only [Option.bind_some]
  congr 1
  refine Eq.trans ?_ (tab_self (d := dLf) L)
  exact tab_ext fun p hp => by simp [hp]
theorem eq_angle (a : Ang) : laws_eqAngle a a = some true := by
  unfold laws_eqAngle; simp
theorem eq_angleS {a : List Ang} (h : a.length ≤ 1048576) : laws_eqAngleS a a = some true := by
  unfold laws_eqAngleS
  simp only [bne_self_eq_false, cond_false]
  have := loop_count (step := laws_eqAngleS_l0) (fun n => (a, a, (n : Int), ())) a.length (.inr ()) (by
    intro n hn
    simp only [laws_eqAngleS_l0, ltb hn, nn, Bool.and_self, cond_true, Int.toNat_natCast]
    rw [eq_angle]
    simp only [Option.bind_some, Bool.not_true, cond_false]
    rw [w64_succ (by omega)]) (by simp only [laws_eqAngleS_l0, nltb (Nat.lt_irrefl a.length), cond_false]) 0 (Nat.zero_le _)
  have t2 : loop laws_eqAngleS_l0 (a, a, (0 : Int), ()) = some (.inr ()) := this
  rw [t2]
  rfl
theorem eq_angleSS {a : List (List Ang)} (h : a.length ≤ 1048576) (hc : ∀ c ∈ a, c.length ≤ 1048576) : laws_eqAngleSS a a = some true := by
  unfold laws_eqAngleSS
  simp only [bne_self_eq_false, cond_false]
  have := loop_count (step := laws_eqAngleSS_l0) (fun n => (a, a, (n : Int), ())) a.length (.inr ()) (by
    intro n hn
    simp only [laws_eqAngleSS_l0, ltb hn, nn, Bool.and_self, cond_true, Int.toNat_natCast]
    rw [eq_angleS (by rw [getD_at hn]; exact hc _ (List.getElem_mem hn))]
    simp only [Option.bind_some, Bool.not_true, cond_false]
    rw [w64_succ (by omega)]) (by simp only [laws_eqAngleSS_l0, nltb (Nat.lt_irrefl a.length), cond_false]) 0 (Nat.zero_le _)
  have t2 : loop laws_eqAngleSS_l0 (a, a, (0 : Int), ()) = some (.inr ()) := this
  rw [t2]
  rfl
theorem eq_leafS {a : List Lf} (h : a.length ≤ 1048576) : laws_eqLeafS a a = some true := by
  unfold laws_eqLeafS
  simp only [bne_self_eq_false, cond_false]
  have := loop_count (step := laws_eqLeafS_l0) (fun n => (a, a, (n : Int), ())) a.length (.inr ()) (by
    intro n hn
    simp only [laws_eqLeafS_l0, ltb hn, nn, Bool.and_self, cond_true, Int.toNat_natCast]
    unfold laws_eqLeaf
    rw [eq_angle, eq_angle]
    simp only [Option.bind_some, Bool.not_true, cond_false]
    rw [w64_succ (by omega)]) (by simp only [laws_eqLeafS_l0, nltb (Nat.lt_irrefl a.length), cond_false]) 0 (Nat.zero_le _)
  have t2 : loop laws_eqLeafS_l0 (a, a, (0 : Int), ()) = some (.inr ()) := this
  rw [t2]
  rfl
theorem w64_add1 {n : Int} (h1 : 0 ≤ n) (h2 : n ≤ 1000000000000) : w64 (n + 1) = n + 1 := w64_id (by omega) (by omega)
theorem mark_leaves {L : List Lf} (h : L.length ≤ 1048576) : ∃ r, laws_markLeafS L 1 = some r ∧ 0 ≤ r.1 := by
  unfold laws_markLeafS
  obtain ⟨r, h1, h2⟩ := loop_inv (step := laws_markLeafS_l0) (fun s => ∃ (n : Nat) (a : List Lf), n ≤ L.length ∧ s = (a, (1 : Int) + 4 * (n : Int), (n : Int), ()) ∧ a.length = L.length) (fun s => L.length - s.2.2.1.toNat) (fun r => 0 ≤ r.2.1) (by
    rintro _ ⟨n, a, hn, rfl, ha⟩
    by_cases hlt : n < L.length
    · right
      have hla : n < a.length := by omega
      have hstep : ∃ a' : List Lf, laws_markLeafS_l0 (a, (1 : Int) + 4 * (n : Int), (n : Int), ()) = some (.next (a', (1 : Int) + 4 * ((n + 1 : Nat) : Int), ((n + 1 : Nat) : Int), ())) ∧ a'.length = a.length := by
        simp only [laws_markLeafS_l0, List.length_set, ltb hla, nn, Bool.and_self, cond_true, Int.toNat_natCast]
        rw [w64_add1 (n := 1 + 4 * (n : Int)) (by omega) (by omega), w64_add1 (n := 1 + 4 * (n : Int) + 1) (by omega) (by omega), w64_add1 (n := 1 + 4 * (n : Int) + 1 + 1) (by omega) (by omega), w64_add1 (n := 1 + 4 * (n : Int) + 1 + 1 + 1) (by omega) (by omega), w64_succ (by omega)]
        rw [show 1 + 4 * (n : Int) + 1 + 1 + 1 + 1 = 1 + 4 * ((n + 1 : Nat) : Int) by omega]
        exact ⟨_, rfl, by simp⟩
      obtain ⟨a', s1, s2⟩ := hstep
      exact ⟨_, s1, ⟨n + 1, a', by omega, rfl, by omega⟩, by simp; omega⟩
    · left
      refine ⟨(a, 1 + 4 * (n : Int), ()), by simp only [laws_markLeafS_l0, nltb (show ¬ n < a.length by omega), cond_false], ?_⟩
      show (0 : Int) ≤ 1 + 4 * (n : Int)
      omega) (L, (1 : Int), (0 : Int), ()) ⟨0, L, by omega, rfl, rfl⟩
  rw [h1]
  exact ⟨_, rfl, h2⟩
end Go.K.Pure

/- Plain laws, part U: marks; the law of EndClasses. -/
set_option linter.unusedVariables false
set_option linter.unusedSimpArgs false
namespace Go.K.Pure
open Classical

def mk (k : Int) (n : Nat) : List Ang := tab (fun p => (k + 2 * (p : Int), k + 2 * (p : Int) + 1, ())) n
theorem mark_angles {a : List Ang} {k : Int} (h : a.length ≤ 1000) (h1 : 0 ≤ k) (h2 : k ≤ 100000000) : laws_markAngleS a k = some (k + 2 * (a.length : Int), mk k a.length) := by
  unfold laws_markAngleS
  have := loop_count (step := laws_markAngleS_l0) (fun n => (tab (fun p => if p < n then ((k + 2 * (p : Int), k + 2 * (p : Int) + 1, ()) : Ang) else a.getD p dA) a.length, k + 2 * (n : Int), (n : Int), ())) a.length (tab (fun p => if p < a.length then ((k + 2 * (p : Int), k + 2 * (p : Int) + 1, ()) : Ang) else a.getD p dA) a.length, k + 2 * (a.length : Int), ()) (by
    intro n hn
    simp only [laws_markAngleS_l0, List.length_set, tab_len, ltb hn, nn, Bool.and_self, cond_true, Int.toNat_natCast]
    rw [w64_add1 (n := k + 2 * (n : Int)) (by omega) (by omega), w64_add1 (n := k + 2 * (n : Int) + 1) (by omega) (by omega), w64_succ (by omega)]
    rw [tab_set hn]
    simp only [tab_at hn, if_true, Nat.lt_irrefl, if_false]
    rw [tab_set hn, show k + 2 * (n : Int) + 1 + 1 = k + 2 * ((n + 1 : Nat) : Int) by omega]
    congr 3
    apply tab_ext
    intro p hp
    by_cases e : p = n
    · subst e; simp
    · by_cases e2 : p < n
      · have : p < n + 1 := by omega
        simp [e, e2, this]
      · have : ¬ p < n + 1 := by omega
        simp [e, e2, this]) (by simp only [laws_markAngleS_l0, tab_len, nltb (Nat.lt_irrefl a.length), cond_false]) 0 (Nat.zero_le _)
  have e0 : tab (fun p => if p < 0 then ((k + 2 * (p : Int), k + 2 * (p : Int) + 1, ()) : Ang) else a.getD p dA) a.length = a := (tab_ext fun p hp => by simp).trans (tab_self (d := dA) a)
  rw [e0] at this
  have t2 : loop laws_markAngleS_l0 (a, k, (0 : Int), ()) = some (tab (fun p => if p < a.length then ((k + 2 * (p : Int), k + 2 * (p : Int) + 1, ()) : Ang) else a.getD p dA) a.length, k + 2 * (a.length : Int), ()) := by
    rw [← this]; congr 2; simp
  rw [t2]
  simp only [Option.bind_some]
  congr 2
  exact tab_ext fun p hp => by simp [hp]
theorem held_angles {k : Int} {N : Nat} (h : N ≤ 1000) (h1 : 0 ≤ k) (h2 : k ≤ 100000000) : laws_heldAngleS (mk k N) k = some (k + 2 * (N : Int)) := by
  unfold laws_heldAngleS
  have := loop_count (step := laws_heldAngleS_l0) (fun n => (mk k N, k + 2 * (n : Int), (n : Int), ())) N (.inr (k + 2 * (N : Int), ())) (by
    intro n hn
    unfold mk
    simp only [laws_heldAngleS_l0, tab_len, ltb hn, nn, Bool.and_self, cond_true, Int.toNat_natCast]
    rw [w64_add1 (n := k + 2 * (n : Int)) (by omega) (by omega), w64_add1 (n := k + 2 * (n : Int) + 1) (by omega) (by omega), w64_succ (by omega)]
    rw [tab_at hn]
    simp only [bne_self_eq_false, cond_false]
    rw [show k + 2 * (n : Int) + 1 + 1 = k + 2 * ((n + 1 : Nat) : Int) by omega]) (by
    unfold mk
    simp only [laws_heldAngleS_l0, tab_len, nltb (Nat.lt_irrefl N), cond_false]) 0 (Nat.zero_le _)
  have t2 : loop laws_heldAngleS_l0 (mk k N, k, (0 : Int), ()) = some (.inr (k + 2 * (N : Int), ())) := by
    rw [← this]; congr 2; simp
  rw [t2]
  rfl
def off (k : Int) (ls : List (List Ang)) : Nat → Int
  | 0 => k
  | n + 1 => off k ls n + 2 * ((ls.getD n []).length : Int)
theorem off_bnd {k : Int} {ls : List (List Ang)} (hk : 0 ≤ k) (hc : ∀ c ∈ ls, c.length ≤ 400) : ∀ n, n ≤ ls.length → 0 ≤ off k ls n ∧ off k ls n ≤ k + 800 * (n : Int)
  | 0, _ => by simp only [off]; omega
  | n + 1, h => by
    have ih := off_bnd hk hc n (by omega)
    have : (ls.getD n []).length ≤ 400 := by rw [getD_at (by omega)]; exact hc _ (List.getElem_mem _)
    simp only [off]
    omega
def mks (k : Int) (ls : List (List Ang)) : List (List Ang) := tab (fun p => mk (off k ls p) (ls.getD p []).length) ls.length
theorem mark_lists {ls : List (List Ang)} (hl : ls.length ≤ 400) (hc : ∀ c ∈ ls, c.length ≤ 400) : laws_markAngleSS ls 1 = some (off 1 ls ls.length, mks 1 ls) := by
  unfold laws_markAngleSS
  have := loop_count (step := laws_markAngleSS_l0) (fun n => (tab (fun p => if p < n then mk (off 1 ls p) (ls.getD p []).length else ls.getD p []) ls.length, off 1 ls n, (n : Int), ())) ls.length (tab (fun p => if p < ls.length then mk (off 1 ls p) (ls.getD p []).length else ls.getD p []) ls.length, off 1 ls ls.length, ()) (by
    intro n hn
    have hb := off_bnd (k := 1) (by omega) hc n (by omega)
    have hln : (ls.getD n []).length ≤ 400 := by rw [getD_at hn]; exact hc _ (List.getElem_mem _)
    simp only [laws_markAngleSS_l0, tab_len, ltb hn, nn, Bool.and_self, cond_true, Int.toNat_natCast]
    rw [tab_at hn]
    simp only [Nat.lt_irrefl, if_false]
    rw [mark_angles (by omega) (by omega) (by omega)]
    simp only [Option.bind_some]
    rw [tab_set hn, w64_succ (by omega)]
    congr 3
    apply tab_ext
    intro p hp
    by_cases e : p = n
    · subst e; simp
    · by_cases e2 : p < n
      · have : p < n + 1 := by omega
        simp [e, e2, this]
      · have : ¬ p < n + 1 := by omega
        simp [e, e2, this]) (by simp only [laws_markAngleSS_l0, tab_len, nltb (Nat.lt_irrefl ls.length), cond_false]) 0 (Nat.zero_le _)
  have e0 : tab (fun p => if p < 0 then mk (off 1 ls p) (ls.getD p []).length else ls.getD p []) ls.length = ls := (tab_ext fun p hp => by simp).trans (tab_self (d := []) ls)
  rw [e0] at this
  have t2 : loop laws_markAngleSS_l0 (ls, (1 : Int), (0 : Int), ()) = some (tab (fun p => if p < ls.length then mk (off 1 ls p) (ls.getD p []).length else ls.getD p []) ls.length, off 1 ls ls.length, ()) := this
  rw [t2]
  simp only [Option.bind_some]
  congr 2
  exact tab_ext fun p hp => by simp [hp]
theorem held_lists {ls : List (List Ang)} (hl : ls.length ≤ 400) (hc : ∀ c ∈ ls, c.length ≤ 400) : laws_heldAngleSS (mks 1 ls) 1 = some (off 1 ls ls.length) := by
  unfold laws_heldAngleSS
  have := loop_count (step := laws_heldAngleSS_l0) (fun n => (mks 1 ls, off 1 ls n, (n : Int), ())) ls.length (.inr (off 1 ls ls.length, ())) (by
    intro n hn
    have hb := off_bnd (k := 1) (by omega) hc n (by omega)
    have hln : (ls.getD n []).length ≤ 400 := by rw [getD_at hn]; exact hc _ (List.getElem_mem _)
    unfold mks
    simp only [laws_heldAngleSS_l0, tab_len, ltb hn, nn, Bool.and_self, cond_true, Int.toNat_natCast]
    rw [tab_at hn, held_angles (by omega) (by omega) (by omega)]
    simp only [Option.bind_some]
    have : decide (off 1 ls n + 2 * ((ls.getD n []).length : Int) < 0) = false := decide_eq_false (by omega)
    rw [this, cond_false, w64_succ (by omega)]
    rfl) (by
    unfold mks
    simp only [laws_heldAngleSS_l0, tab_len, nltb (Nat.lt_irrefl ls.length), cond_false]) 0 (Nat.zero_le _)
  have t2 : loop laws_heldAngleSS_l0 (mks 1 ls, (1 : Int), (0 : Int), ()) = some (.inr (off 1 ls ls.length, ())) := this
  rw [t2]
  rfl
/-- The plain law. -/
theorem law_EndClasses {L : List Lf} (hL : ∀ l ∈ L, InL l) (hlen : L.length < 9223372036854775808) : laws_FnExactEndClasses L = some true := by
  unfold laws_FnExactEndClasses laws_szLeafS
  rw [w64_id (n := 1048576 - (L.length : Int)) (by omega) (by omega)]
  by_cases hs : L.length ≤ 1048576
  rotate_left
  · have e : decide (1048576 - ((L.length : Nat) : Int) < 0) = true := decide_eq_true (by omega)
    rw [e]
    rfl
  have e : decide (1048576 - ((L.length : Nat) : Int) < 0) = false := decide_eq_false (by omega)
  rw [e, cond_false]
  simp only [Option.bind_some]
  rw [e, cond_false, to_leaves hs]
  obtain ⟨r, r1, r2, r3, r4⟩ := endClasses_same hL
  simp only [Option.bind_some]
  rw [r1]
  simp only [Option.bind_some]
  rw [r2]
  simp only [Option.bind_some]
  rw [eq_angleSS (by omega) (fun c hc => by have := r4 c hc; omega)]
  simp only [Option.bind_some, Bool.not_true, cond_false, bne_self_eq_false]
  rw [eq_leafS hs]
  obtain ⟨m, m1, m2⟩ := mark_leaves hs
  simp only [Option.bind_some, Bool.not_true, cond_false]
  rw [m1]
  have e2 : decide (m.1 < 0) = false := decide_eq_false (by omega)
  simp only [Option.bind_some]
  rw [e2, cond_false, mark_lists r3 r4]
  simp only [Option.bind_some]
  rw [held_lists r3 r4]
  have hb := off_bnd (k := 1) (ls := r.1) (by omega) r4 r.1.length (Nat.le_refl _)
  have e3 : decide (off 1 r.1 r.1.length < 0) = false := decide_eq_false (by omega)
  simp only [Option.bind_some]
  rw [e3]
  simp only [cond_false, bne_self_eq_false]
end Go.K.Pure

