/- Part 1 of the plain law: the functions of the program as plain functions on lists and numbers, and what is shown of them; no condition. -/
import Derived.Test.YtephljhjgceclaaS1
set_option linter.all false
set_option linter.all false
set_option maxRecDepth 100000
namespace Go.K.Pure
abbrev w64 (n : Int) : Int := IntKind.wrap .i64 n
abbrev wi32 (n : Int) : Int := IntKind.wrap .i32 n
abbrev wu8 (n : Int) : Int := IntKind.wrap .u8 n
abbrev wu32 (n : Int) : Int := IntKind.wrap .u32 n
abbrev wu64 (n : Int) : Int := IntKind.wrap .u64 n
noncomputable def laws_toAngle (a : (Int × (Int × Unit))) : Option ((Int × (Int × Unit))) :=
  some ((a.1, a.2.1, ()))
noncomputable def spec_l01In (n : Int) (low : Int) (high : Int) : Option (Bool) :=
  bif (decide (n ≥ low)) then
   some ((decide (n ≤ high)))
  else some (false)
noncomputable def spec_l01Divisor_l0 : Int × Int × Unit → Option (Ctl (Int × Int × Unit) ((Int × Unit)))
  | (a, (b, ())) =>
    bif (decide (b > (0 : Int))) then
   bif (!(b == (0 : Int))) then
    some (.next (b, ((a.tmod b), ())))
   else none
  else some (.stop ((a, ())))
noncomputable def spec_l01Divisor (a : Int) (b : Int) : Option (Int) :=
  (loop spec_l01Divisor_l0 (a, b, ())).bind fun r0 =>
  some (r0.1)
noncomputable def spec_l01Is (a : (Int × (Int × Unit))) : Option (Bool) :=
  (spec_l01In a.2.1 (1 : Int) (8191 : Int)).bind fun r0 =>
  bif r0 then
   (spec_l01In a.1 (0 : Int) (w64 (a.2.1 - (1 : Int)))).bind fun r1 =>
   bif r1 then
    (spec_l01Divisor a.1 a.2.1).bind fun r2 =>
    some ((r2 == (1 : Int)))
   else some (false)
  else some (false)
noncomputable def spec_l01Orbit_l0 : ((Int × (Int × Unit))) × Int × Int × Unit → Option (Ctl (((Int × (Int × Unit))) × Int × Int × Unit) ((((Int × (Int × Unit))) × Int × Unit)))
  | (a, (pre, (den, ()))) =>
    bif (!((2 : Int) == (0 : Int))) then
   bif ((den.tmod (2 : Int)) == (0 : Int)) then
    bif (!((2 : Int) == (0 : Int))) then
     some (.next (a, ((w64 (pre + (1 : Int))), ((w64 (den.tdiv (2 : Int))), ()))))
    else none
   else some (.stop ((a, (pre, ()))))
  else none
noncomputable def spec_l01Of (num : Int) (den : Int) : Option ((Int × (Int × Unit))) :=
  bif (!(den == (0 : Int))) then
   bif (!(den == (0 : Int))) then
    (spec_l01Divisor ((w64 ((num.tmod den) + den)).tmod den) den).bind fun r0 =>
    bif (!(r0 == (0 : Int))) then
     bif (!(r0 == (0 : Int))) then
      some (((w64 (((w64 ((num.tmod den) + den)).tmod den).tdiv r0)), (w64 (den.tdiv r0)), ()))
     else none
    else none
   else none
  else none
noncomputable def spec_l01Double (a : (Int × (Int × Unit))) : Option ((Int × (Int × Unit))) :=
  (spec_l01Of (w64 ((2 : Int) * a.1)) a.2.1).bind fun r0 =>
  some (r0)
noncomputable def spec_l01Orbit_l1 : Int × (List (Int × (Int × Unit))) × ((Int × (Int × Unit))) × Unit → Option (Ctl (Int × (List (Int × (Int × Unit))) × ((Int × (Int × Unit))) × Unit) ((Int × Bool × (List (Int × (Int × Unit))) × Unit) ⊕ ((List (Int × (Int × Unit))) × Int × Bool × (List (Int × (Int × Unit))) × Unit)))
  | (pre, (out, (x, ()))) =>
    bif (decide (((out.length : Nat) : Int) > pre)) then
   bif ((decide ((0 : Int) ≤ pre)) && (decide (pre < ((out.length : Nat) : Int)))) then
    bif ((x.1 == (out.getD pre.toNat ((0 : Int), (0 : Int), ())).1) && ((x.2.1 == (out.getD pre.toNat ((0 : Int), (0 : Int), ())).2.1) && true)) then
     some (.stop (.inl (pre, (true, (out, ())))))
    else bif (((out.length : Nat) : Int) == (64 : Int)) then
      some (.stop (.inr ((([] : List (Int × (Int × Unit))), ((0 : Int), (false, (out, ())))))))
     else bif (decide (((out.length + [x].length) * 16) ≤ 140737488355328)) then
       (spec_l01Double x).bind fun r0 =>
       some (.next (pre, ((out ++ [x]), (r0, ()))))
      else none
   else none
  else bif (((out.length : Nat) : Int) == (64 : Int)) then
    some (.stop (.inr ((([] : List (Int × (Int × Unit))), ((0 : Int), (false, (out, ())))))))
   else bif (decide (((out.length + [x].length) * 16) ≤ 140737488355328)) then
     (spec_l01Double x).bind fun r1 =>
     some (.next (pre, ((out ++ [x]), (r1, ()))))
    else none
noncomputable def spec_l01Orbit (a : (Int × (Int × Unit))) : Option ((List (Int × (Int × Unit))) × Int × Bool) :=
  (loop spec_l01Orbit_l0 (a, (0 : Int), a.2.1, ())).bind fun r0 =>
  (loop spec_l01Orbit_l1 (r0.2.1, ([] : List (Int × (Int × Unit))), r0.1, ())).bind fun r1 =>
  alt r1 (fun r2 =>
   some (r2.2.2.1, r2.1, r2.2.1))
   (fun r3 =>
   some (r3.1, r3.2.1, r3.2.2.1))
noncomputable def spec_l01Less (a : (Int × (Int × Unit))) (b : (Int × (Int × Unit))) : Option (Bool) :=
  some ((decide ((w64 (a.1 * b.2.1)) < (w64 (b.1 * a.2.1)))))
noncomputable def spec_l01Insert_l0 : (List (Int × (Int × Unit))) × ((Int × (Int × Unit))) × Int × Unit → Option (Ctl ((List (Int × (Int × Unit))) × ((Int × (Int × Unit))) × Int × Unit) (((List (Int × (Int × Unit))) × ((Int × (Int × Unit))) × Int × Unit)))
  | (list, (a, (at', ()))) =>
    bif (decide (at' < ((list.length : Nat) : Int))) then
   bif ((decide ((0 : Int) ≤ at')) && (decide (at' < ((list.length : Nat) : Int)))) then
    (spec_l01Less (list.getD at'.toNat ((0 : Int), (0 : Int), ())) a).bind fun r0 =>
    bif r0 then
     some (.next (list, (a, ((w64 (at' + (1 : Int))), ()))))
    else some (.stop ((list, (a, (at', ())))))
   else none
  else some (.stop ((list, (a, (at', ())))))
noncomputable def spec_l01Insert (list : List (Int × (Int × Unit))) (a : (Int × (Int × Unit))) : Option ((List (Int × (Int × Unit)))) :=
  (loop spec_l01Insert_l0 (list, a, (0 : Int), ())).bind fun r0 =>
  bif (decide (r0.2.2.1 < ((r0.1.length : Nat) : Int))) then
   bif ((decide ((0 : Int) ≤ r0.2.2.1)) && (decide (r0.2.2.1 < ((r0.1.length : Nat) : Int)))) then
    bif (((r0.1.getD r0.2.2.1.toNat ((0 : Int), (0 : Int), ())).1 == r0.2.1.1) && (((r0.1.getD r0.2.2.1.toNat ((0 : Int), (0 : Int), ())).2.1 == r0.2.1.2.1) && true)) then
     some (r0.1)
    else bif (((decide ((0 : Int) ≤ r0.2.2.1)) && (decide (r0.2.2.1 ≤ ((r0.1.length : Nat) : Int)))) && (decide (((r0.1.length : Nat) : Int) ≤ ((r0.1.length : Nat) : Int)))) then
      bif (decide ((([r0.2.1].length + ((r0.1.take ((r0.1.length : Nat) : Int).toNat).drop r0.2.2.1.toNat).length) * 16) ≤ 140737488355328)) then
       bif (((decide ((0 : Int) ≤ (0 : Int))) && (decide ((0 : Int) ≤ r0.2.2.1))) && (decide (r0.2.2.1 ≤ ((r0.1.length : Nat) : Int)))) then
        bif (decide (((([] : List (Int × (Int × Unit))).length + ((r0.1.take r0.2.2.1.toNat).drop (0 : Int).toNat).length) * 16) ≤ 140737488355328)) then
         bif (decide ((((([] : List (Int × (Int × Unit))) ++ ((r0.1.take r0.2.2.1.toNat).drop (0 : Int).toNat)).length + ([r0.2.1] ++ ((r0.1.take ((r0.1.length : Nat) : Int).toNat).drop r0.2.2.1.toNat)).length) * 16) ≤ 140737488355328)) then
          some (((([] : List (Int × (Int × Unit))) ++ ((r0.1.take r0.2.2.1.toNat).drop (0 : Int).toNat)) ++ ([r0.2.1] ++ ((r0.1.take ((r0.1.length : Nat) : Int).toNat).drop r0.2.2.1.toNat))))
         else none
        else none
       else none
      else none
     else none
   else none
  else bif (((decide ((0 : Int) ≤ r0.2.2.1)) && (decide (r0.2.2.1 ≤ ((r0.1.length : Nat) : Int)))) && (decide (((r0.1.length : Nat) : Int) ≤ ((r0.1.length : Nat) : Int)))) then
    bif (decide ((([r0.2.1].length + ((r0.1.take ((r0.1.length : Nat) : Int).toNat).drop r0.2.2.1.toNat).length) * 16) ≤ 140737488355328)) then
     bif (((decide ((0 : Int) ≤ (0 : Int))) && (decide ((0 : Int) ≤ r0.2.2.1))) && (decide (r0.2.2.1 ≤ ((r0.1.length : Nat) : Int)))) then
      bif (decide (((([] : List (Int × (Int × Unit))).length + ((r0.1.take r0.2.2.1.toNat).drop (0 : Int).toNat).length) * 16) ≤ 140737488355328)) then
       bif (decide ((((([] : List (Int × (Int × Unit))) ++ ((r0.1.take r0.2.2.1.toNat).drop (0 : Int).toNat)).length + ([r0.2.1] ++ ((r0.1.take ((r0.1.length : Nat) : Int).toNat).drop r0.2.2.1.toNat)).length) * 16) ≤ 140737488355328)) then
        some (((([] : List (Int × (Int × Unit))) ++ ((r0.1.take r0.2.2.1.toNat).drop (0 : Int).toNat)) ++ ([r0.2.1] ++ ((r0.1.take ((r0.1.length : Nat) : Int).toNat).drop r0.2.2.1.toNat))))
       else none
      else none
     else none
    else none
   else none
noncomputable def spec_l07Place_l0 : (List (Int × (Int × Unit))) × ((Int × (Int × Unit))) × Int × Unit → Option (Ctl ((List (Int × (Int × Unit))) × ((Int × (Int × Unit))) × Int × Unit) ((Int × Unit) ⊕ (Unit)))
  | (set, (a, (i, ()))) =>
    bif (decide (i < ((set.length : Nat) : Int))) then
   bif ((decide ((0 : Int) ≤ i)) && (decide (i < ((set.length : Nat) : Int)))) then
    bif (((set.getD i.toNat ((0 : Int), (0 : Int), ())).1 == a.1) && (((set.getD i.toNat ((0 : Int), (0 : Int), ())).2.1 == a.2.1) && true)) then
     some (.stop (.inl (i, ())))
    else some (.next (set, (a, ((w64 (i + (1 : Int))), ()))))
   else none
  else some (.stop (.inr (())))
noncomputable def spec_l07Place (set : List (Int × (Int × Unit))) (a : (Int × (Int × Unit))) : Option (Int) :=
  (loop spec_l07Place_l0 (set, a, (0 : Int), ())).bind fun r0 =>
  alt r0 (fun r1 =>
   some (r1.1))
   (fun r2 =>
   some ((-1 : Int)))
noncomputable def spec_l07Joined_l2 : (List (Int × (Int × Unit))) × (List (Int × (Int × Unit))) × (List (List (Int × (Int × Unit)))) × Int × (List (Int × (Int × Unit))) × (List (List (Int × (Int × Unit)))) × Int × Int × Unit → Option (Ctl ((List (Int × (Int × Unit))) × (List (Int × (Int × Unit))) × (List (List (Int × (Int × Unit)))) × Int × (List (Int × (Int × Unit))) × (List (List (Int × (Int × Unit)))) × Int × Int × Unit) (((List (Int × (Int × Unit))) × (List (Int × (Int × Unit))) × (List (List (Int × (Int × Unit)))) × Int × (List (Int × (Int × Unit))) × (List (List (Int × (Int × Unit)))) × Int × Unit)))
  | (one, (two, (sets, (i, (own, (rest, (k, (j, ())))))))) =>
    bif ((decide ((0 : Int) ≤ k)) && (decide (k < ((sets.length : Nat) : Int)))) then
   bif (decide (j < (((sets.getD k.toNat ([] : List (Int × (Int × Unit)))).length : Nat) : Int))) then
    bif ((decide ((0 : Int) ≤ k)) && (decide (k < ((sets.length : Nat) : Int)))) then
     bif ((decide ((0 : Int) ≤ j)) && (decide (j < (((sets.getD k.toNat ([] : List (Int × (Int × Unit)))).length : Nat) : Int)))) then
      (spec_l01Insert own ((sets.getD k.toNat ([] : List (Int × (Int × Unit)))).getD j.toNat ((0 : Int), (0 : Int), ()))).bind fun r0 =>
      some (.next (one, (two, (sets, (i, (r0, (rest, (k, ((w64 (j + (1 : Int))), ())))))))))
     else none
    else none
   else some (.stop ((one, (two, (sets, (i, (own, (rest, (k, ())))))))))
  else none
noncomputable def spec_l07Joined_l1 : (List (Int × (Int × Unit))) × (List (Int × (Int × Unit))) × (List (List (Int × (Int × Unit)))) × Int × (List (Int × (Int × Unit))) × (List (List (Int × (Int × Unit)))) × Int × Unit → Option (Ctl ((List (Int × (Int × Unit))) × (List (Int × (Int × Unit))) × (List (List (Int × (Int × Unit)))) × Int × (List (Int × (Int × Unit))) × (List (List (Int × (Int × Unit)))) × Int × Unit) (((List (Int × (Int × Unit))) × (List (Int × (Int × Unit))) × Int × (List (Int × (Int × Unit))) × (List (List (Int × (Int × Unit)))) × Unit)))
  | (one, (two, (sets, (i, (own, (rest, (k, ()))))))) =>
    bif (decide (k < ((sets.length : Nat) : Int))) then
   bif ((decide ((0 : Int) ≤ k)) && (decide (k < ((sets.length : Nat) : Int)))) then
    bif ((decide ((0 : Int) ≤ i)) && (decide (i < ((one.length : Nat) : Int)))) then
     (spec_l07Place (sets.getD k.toNat ([] : List (Int × (Int × Unit)))) (one.getD i.toNat ((0 : Int), (0 : Int), ()))).bind fun r0 =>
     bif (decide (r0 < (0 : Int))) then
      bif ((decide ((0 : Int) ≤ k)) && (decide (k < ((sets.length : Nat) : Int)))) then
       bif ((decide ((0 : Int) ≤ i)) && (decide (i < ((two.length : Nat) : Int)))) then
        (spec_l07Place (sets.getD k.toNat ([] : List (Int × (Int × Unit)))) (two.getD i.toNat ((0 : Int), (0 : Int), ()))).bind fun r1 =>
        bif (decide (r1 < (0 : Int))) then
         bif ((decide ((0 : Int) ≤ k)) && (decide (k < ((sets.length : Nat) : Int)))) then
          bif (decide (((rest.length + [(sets.getD k.toNat ([] : List (Int × (Int × Unit))))].length) * 24) ≤ 140737488355328)) then
           some (.next (one, (two, (sets, (i, (own, ((rest ++ [(sets.getD k.toNat ([] : List (Int × (Int × Unit))))]), ((w64 (k + (1 : Int))), ()))))))))
          else none
         else none
        else (loop spec_l07Joined_l2 (one, two, sets, i, own, rest, k, (0 : Int), ())).bind fun r2 =>
         some (.next (r2.1, (r2.2.1, (r2.2.2.1, (r2.2.2.2.1, (r2.2.2.2.2.1, (r2.2.2.2.2.2.1, ((w64 (r2.2.2.2.2.2.2.1 + (1 : Int))), ()))))))))
       else none
      else none
     else (loop spec_l07Joined_l2 (one, two, sets, i, own, rest, k, (0 : Int), ())).bind fun r3 =>
      some (.next (r3.1, (r3.2.1, (r3.2.2.1, (r3.2.2.2.1, (r3.2.2.2.2.1, (r3.2.2.2.2.2.1, ((w64 (r3.2.2.2.2.2.2.1 + (1 : Int))), ()))))))))
    else none
   else none
  else some (.stop ((one, (two, (i, (own, (rest, ())))))))
noncomputable def spec_l07Joined_l0 : (List (Int × (Int × Unit))) × (List (Int × (Int × Unit))) × (List (List (Int × (Int × Unit)))) × Int × Unit → Option (Ctl ((List (Int × (Int × Unit))) × (List (Int × (Int × Unit))) × (List (List (Int × (Int × Unit)))) × Int × Unit) (((List (Int × (Int × Unit))) × (List (List (Int × (Int × Unit)))) × Unit)))
  | (one, (two, (sets, (i, ())))) =>
    bif (decide (i < ((one.length : Nat) : Int))) then
   bif ((decide ((0 : Int) ≤ i)) && (decide (i < ((one.length : Nat) : Int)))) then
    (spec_l01Insert ([] : List (Int × (Int × Unit))) (one.getD i.toNat ((0 : Int), (0 : Int), ()))).bind fun r0 =>
    bif ((decide ((0 : Int) ≤ i)) && (decide (i < ((two.length : Nat) : Int)))) then
     (spec_l01Insert r0 (two.getD i.toNat ((0 : Int), (0 : Int), ()))).bind fun r1 =>
     (loop spec_l07Joined_l1 (one, two, sets, i, r1, ([] : List (List (Int × (Int × Unit)))), (0 : Int), ())).bind fun r2 =>
     bif (decide (((r2.2.2.2.2.1.length + [r2.2.2.2.1].length) * 24) ≤ 140737488355328)) then
      some (.next (r2.1, (r2.2.1, ((r2.2.2.2.2.1 ++ [r2.2.2.2.1]), ((w64 (r2.2.2.1 + (1 : Int))), ())))))
     else none
    else none
   else none
  else some (.stop ((one, (sets, ()))))
noncomputable def spec_l07Joined_l4 : (List (List (Int × (Int × Unit)))) × (List (List (Int × (Int × Unit)))) × ((Int × (Int × Unit))) × Int × Unit → Option (Ctl ((List (List (Int × (Int × Unit)))) × (List (List (Int × (Int × Unit)))) × ((Int × (Int × Unit))) × Int × Unit) (((List (List (Int × (Int × Unit)))) × Unit) ⊕ ((List (List (Int × (Int × Unit)))) × (List (List (Int × (Int × Unit)))) × ((Int × (Int × Unit))) × Unit)))
  | (sets, (out, (x, (i, ())))) =>
    bif (decide (i < ((out.length : Nat) : Int))) then
   bif ((decide ((0 : Int) ≤ i)) && (decide (i < ((out.length : Nat) : Int)))) then
    (spec_l07Place (out.getD i.toNat ([] : List (Int × (Int × Unit)))) x).bind fun r0 =>
    bif (decide (r0 ≥ (0 : Int))) then
     some (.stop (.inl (out, ())))
    else some (.next (sets, (out, (x, ((w64 (i + (1 : Int))), ())))))
   else none
  else some (.stop (.inr ((sets, (out, (x, ()))))))
noncomputable def spec_l07Joined_l5 : (List (List (Int × (Int × Unit)))) × (List (List (Int × (Int × Unit)))) × ((Int × (Int × Unit))) × Int × Unit → Option (Ctl ((List (List (Int × (Int × Unit)))) × (List (List (Int × (Int × Unit)))) × ((Int × (Int × Unit))) × Int × Unit) (((List (List (Int × (Int × Unit)))) × (List (List (Int × (Int × Unit)))) × ((Int × (Int × Unit))) × Unit)))
  | (sets, (out, (x, (i, ())))) =>
    bif (decide (i < ((sets.length : Nat) : Int))) then
   bif ((decide ((0 : Int) ≤ i)) && (decide (i < ((sets.length : Nat) : Int)))) then
    (spec_l07Place (sets.getD i.toNat ([] : List (Int × (Int × Unit)))) x).bind fun r0 =>
    bif (decide (r0 ≥ (0 : Int))) then
     bif ((decide ((0 : Int) ≤ i)) && (decide (i < ((sets.length : Nat) : Int)))) then
      bif (decide (((out.length + [(sets.getD i.toNat ([] : List (Int × (Int × Unit))))].length) * 24) ≤ 140737488355328)) then
       some (.next (sets, ((out ++ [(sets.getD i.toNat ([] : List (Int × (Int × Unit))))]), (x, ((w64 (i + (1 : Int))), ())))))
      else none
     else none
    else some (.next (sets, (out, (x, ((w64 (i + (1 : Int))), ())))))
   else none
  else some (.stop ((sets, (out, (x, ())))))
noncomputable def spec_l07Joined_l3 : (List (List (Int × (Int × Unit)))) × (List (List (Int × (Int × Unit)))) × ((Int × (Int × Unit))) × Unit → Option (Ctl ((List (List (Int × (Int × Unit)))) × (List (List (Int × (Int × Unit)))) × ((Int × (Int × Unit))) × Unit) (((List (List (Int × (Int × Unit)))) × Unit)))
  | (sets, (out, (x, ()))) =>
    (loop spec_l07Joined_l4 (sets, out, x, (0 : Int), ())).bind fun r0 =>
  alt r0 (fun r1 =>
   some (.stop ((r1.1, ()))))
   (fun r2 =>
   (loop spec_l07Joined_l5 (r2.1, r2.2.1, r2.2.2.1, (0 : Int), ())).bind fun r3 =>
   (spec_l01Double r3.2.2.1).bind fun r4 =>
   some (.next (r3.1, (r3.2.1, (r4, ())))))
noncomputable def spec_l07Joined (one : List (Int × (Int × Unit))) (two : List (Int × (Int × Unit))) : Option ((List (List (Int × (Int × Unit))))) :=
  (loop spec_l07Joined_l0 (one, two, ([] : List (List (Int × (Int × Unit)))), (0 : Int), ())).bind fun r0 =>
  bif ((decide ((0 : Int) ≤ (0 : Int))) && (decide ((0 : Int) < ((r0.1.length : Nat) : Int)))) then
   (loop spec_l07Joined_l3 (r0.2.1, ([] : List (List (Int × (Int × Unit)))), (r0.1.getD (0 : Int).toNat ((0 : Int), (0 : Int), ())), ())).bind fun r1 =>
   some (r1.1)
  else none
noncomputable def spec_l07Lists_l1 : (List (List (Int × (Int × Unit)))) × Int × Int × Int × Unit → Option (Ctl ((List (List (Int × (Int × Unit)))) × Int × Int × Int × Unit) ((Int × Unit) ⊕ ((List (List (Int × (Int × Unit)))) × Int × Int × Unit)))
  | (sets, (count, (i, (k, ())))) =>
    bif ((decide ((0 : Int) ≤ i)) && (decide (i < ((sets.length : Nat) : Int)))) then
   bif (decide (k < (((sets.getD i.toNat ([] : List (Int × (Int × Unit)))).length : Nat) : Int))) then
    bif ((decide ((0 : Int) ≤ i)) && (decide (i < ((sets.length : Nat) : Int)))) then
     bif ((decide ((0 : Int) ≤ k)) && (decide (k < (((sets.getD i.toNat ([] : List (Int × (Int × Unit)))).length : Nat) : Int)))) then
      (spec_l01Is ((sets.getD i.toNat ([] : List (Int × (Int × Unit)))).getD k.toNat ((0 : Int), (0 : Int), ()))).bind fun r0 =>
      bif (!r0) then
       some (.stop (.inl ((1 : Int), ())))
      else some (.next (sets, (count, (i, ((w64 (k + (1 : Int))), ())))))
     else none
    else none
   else some (.stop (.inr ((sets, (count, (i, ()))))))
  else none
noncomputable def spec_l07Lists_l0 : (List (List (Int × (Int × Unit)))) × Int × Int × Unit → Option (Ctl ((List (List (Int × (Int × Unit)))) × Int × Int × Unit) ((Int × Unit) ⊕ ((List (List (Int × (Int × Unit)))) × Int × Unit)))
  | (sets, (count, (i, ()))) =>
    bif (decide (i < ((sets.length : Nat) : Int))) then
   (loop spec_l07Lists_l1 (sets, count, i, (0 : Int), ())).bind fun r0 =>
   alt r0 (fun r1 =>
    some (.stop (.inl (r1.1, ()))))
    (fun r2 =>
    bif ((decide ((0 : Int) ≤ r2.2.2.1)) && (decide (r2.2.2.1 < ((r2.1.length : Nat) : Int)))) then
     some (.next (r2.1, ((w64 (r2.2.1 + (((r2.1.getD r2.2.2.1.toNat ([] : List (Int × (Int × Unit)))).length : Nat) : Int))), ((w64 (r2.2.2.1 + (1 : Int))), ()))))
    else none)
  else some (.stop (.inr ((sets, (count, ())))))
noncomputable def spec_l03Ascending_l0 : (List (Int × (Int × Unit))) × Int × Unit → Option (Ctl ((List (Int × (Int × Unit))) × Int × Unit) ((Bool × Unit) ⊕ (Unit)))
  | (list, (i, ())) =>
    bif (decide (i < ((list.length : Nat) : Int))) then
   bif ((decide ((0 : Int) ≤ (w64 (i - (1 : Int))))) && (decide ((w64 (i - (1 : Int))) < ((list.length : Nat) : Int)))) then
    bif ((decide ((0 : Int) ≤ i)) && (decide (i < ((list.length : Nat) : Int)))) then
     (spec_l01Less (list.getD (w64 (i - (1 : Int))).toNat ((0 : Int), (0 : Int), ())) (list.getD i.toNat ((0 : Int), (0 : Int), ()))).bind fun r0 =>
     bif (!r0) then
      some (.stop (.inl (false, ())))
     else some (.next (list, ((w64 (i + (1 : Int))), ())))
    else none
   else none
  else some (.stop (.inr (())))
noncomputable def spec_l03Ascending (list : List (Int × (Int × Unit))) : Option (Bool) :=
  (loop spec_l03Ascending_l0 (list, (1 : Int), ())).bind fun r0 =>
  alt r0 (fun r1 =>
   some (r1.1))
   (fun r2 =>
   some (true))
noncomputable def spec_l07Lists_l2 : (List (List (Int × (Int × Unit)))) × Int × Unit → Option (Ctl ((List (List (Int × (Int × Unit)))) × Int × Unit) ((Int × Unit) ⊕ (Unit)))
  | (sets, (i, ())) =>
    bif (decide (i < ((sets.length : Nat) : Int))) then
   bif ((decide ((0 : Int) ≤ i)) && (decide (i < ((sets.length : Nat) : Int)))) then
    bif ((((sets.getD i.toNat ([] : List (Int × (Int × Unit)))).length : Nat) : Int) == (0 : Int)) then
     some (.stop (.inl ((2 : Int), ())))
    else bif ((decide ((0 : Int) ≤ i)) && (decide (i < ((sets.length : Nat) : Int)))) then
      (spec_l03Ascending (sets.getD i.toNat ([] : List (Int × (Int × Unit))))).bind fun r0 =>
      bif (!r0) then
       some (.stop (.inl ((2 : Int), ())))
      else some (.next (sets, ((w64 (i + (1 : Int))), ())))
     else none
   else none
  else some (.stop (.inr (())))
noncomputable def spec_l07Lists (sets : List (List (Int × (Int × Unit)))) : Option (Int) :=
  (loop spec_l07Lists_l0 (sets, (0 : Int), (0 : Int), ())).bind fun r0 =>
  alt r0 (fun r1 =>
   some (r1.1))
   (fun r2 =>
   bif (decide (((r2.1.length : Nat) : Int) < (1 : Int))) then
    some ((2 : Int))
   else bif (decide (((r2.1.length : Nat) : Int) > (12 : Int))) then
     some ((2 : Int))
    else bif (decide (r2.2.1 > (64 : Int))) then
      some ((2 : Int))
     else (loop spec_l07Lists_l2 (r2.1, (0 : Int), ())).bind fun r3 =>
      alt r3 (fun r4 =>
       some (r4.1))
       (fun r5 =>
       some ((0 : Int))))
noncomputable def spec_l07Apart_l2 : (List (List (Int × (Int × Unit)))) × Int × Int × Int × Unit → Option (Ctl ((List (List (Int × (Int × Unit)))) × Int × Int × Int × Unit) ((Bool × Unit) ⊕ ((List (List (Int × (Int × Unit)))) × Int × Int × Unit)))
  | (sets, (i, (k, (j, ())))) =>
    bif ((decide ((0 : Int) ≤ i)) && (decide (i < ((sets.length : Nat) : Int)))) then
   bif (decide (j < (((sets.getD i.toNat ([] : List (Int × (Int × Unit)))).length : Nat) : Int))) then
    bif ((decide ((0 : Int) ≤ k)) && (decide (k < ((sets.length : Nat) : Int)))) then
     bif ((decide ((0 : Int) ≤ i)) && (decide (i < ((sets.length : Nat) : Int)))) then
      bif ((decide ((0 : Int) ≤ j)) && (decide (j < (((sets.getD i.toNat ([] : List (Int × (Int × Unit)))).length : Nat) : Int)))) then
       (spec_l07Place (sets.getD k.toNat ([] : List (Int × (Int × Unit)))) ((sets.getD i.toNat ([] : List (Int × (Int × Unit)))).getD j.toNat ((0 : Int), (0 : Int), ()))).bind fun r0 =>
       bif (decide (r0 ≥ (0 : Int))) then
        some (.stop (.inl (false, ())))
       else some (.next (sets, (i, (k, ((w64 (j + (1 : Int))), ())))))
      else none
     else none
    else none
   else some (.stop (.inr ((sets, (i, (k, ()))))))
  else none
noncomputable def spec_l07Apart_l1 : (List (List (Int × (Int × Unit)))) × Int × Int × Unit → Option (Ctl ((List (List (Int × (Int × Unit)))) × Int × Int × Unit) ((Bool × Unit) ⊕ ((List (List (Int × (Int × Unit)))) × Int × Unit)))
  | (sets, (i, (k, ()))) =>
    bif (decide (k < i)) then
   (loop spec_l07Apart_l2 (sets, i, k, (0 : Int), ())).bind fun r0 =>
   alt r0 (fun r1 =>
    some (.stop (.inl (r1.1, ()))))
    (fun r2 =>
    some (.next (r2.1, (r2.2.1, ((w64 (r2.2.2.1 + (1 : Int))), ())))))
  else some (.stop (.inr ((sets, (i, ())))))
noncomputable def spec_l07Apart_l0 : (List (List (Int × (Int × Unit)))) × Int × Unit → Option (Ctl ((List (List (Int × (Int × Unit)))) × Int × Unit) ((Bool × Unit) ⊕ (Unit)))
  | (sets, (i, ())) =>
    bif (decide (i < ((sets.length : Nat) : Int))) then
   (loop spec_l07Apart_l1 (sets, i, (0 : Int), ())).bind fun r0 =>
   alt r0 (fun r1 =>
    some (.stop (.inl (r1.1, ()))))
    (fun r2 =>
    some (.next (r2.1, ((w64 (r2.2.1 + (1 : Int))), ()))))
  else some (.stop (.inr (())))
noncomputable def spec_l07Apart (sets : List (List (Int × (Int × Unit)))) : Option (Bool) :=
  (loop spec_l07Apart_l0 (sets, (0 : Int), ())).bind fun r0 =>
  alt r0 (fun r1 =>
   some (r1.1))
   (fun r2 =>
   some (true))
noncomputable def spec_l07Led_l0 : (List (Int × (Int × Unit))) × (List (Int × (Int × Unit))) × (List Bool) × Int × Unit → Option (Ctl ((List (Int × (Int × Unit))) × (List (Int × (Int × Unit))) × (List Bool) × Int × Unit) ((Bool × Unit) ⊕ ((List (Int × (Int × Unit))) × (List (Int × (Int × Unit))) × Unit)))
  | (set, (next', (met, (i, ())))) =>
    bif (decide (i < ((set.length : Nat) : Int))) then
   bif ((decide ((0 : Int) ≤ i)) && (decide (i < ((set.length : Nat) : Int)))) then
    (spec_l01Double (set.getD i.toNat ((0 : Int), (0 : Int), ()))).bind fun r0 =>
    (spec_l07Place next' r0).bind fun r1 =>
    bif (decide (r1 < (0 : Int))) then
     some (.stop (.inl (false, ())))
    else bif ((decide ((0 : Int) ≤ r1)) && (decide (r1 < ((met.length : Nat) : Int)))) then
      bif (met.getD r1.toNat false) then
       some (.stop (.inl (false, ())))
      else bif ((decide ((0 : Int) ≤ r1)) && (decide (r1 < ((met.length : Nat) : Int)))) then
        some (.next (set, (next', ((met.set r1.toNat true), ((w64 (i + (1 : Int))), ())))))
       else none
     else none
   else none
  else some (.stop (.inr ((set, (next', ())))))
noncomputable def spec_l07Led (set : List (Int × (Int × Unit))) (next' : List (Int × (Int × Unit))) : Option (Bool) :=
  bif (((decide ((0 : Int) ≤ ((next'.length : Nat) : Int))) && (decide (((next'.length : Nat) : Int) ≤ ((next'.length : Nat) : Int)))) && (decide ((((next'.length : Nat) : Int) * ((1 : Nat) : Int)) ≤ (140737488355328 : Int)))) then
   (loop spec_l07Led_l0 (set, next', (List.replicate ((next'.length : Nat) : Int).toNat false), (0 : Int), ())).bind fun r0 =>
   alt r0 (fun r1 =>
    some (r1.1))
    (fun r2 =>
    some ((((r2.1.length : Nat) : Int) == ((r2.2.1.length : Nat) : Int))))
  else none
noncomputable def spec_l07Fails_l0 : (List (List (Int × (Int × Unit)))) × Int × Int × Unit → Option (Ctl ((List (List (Int × (Int × Unit)))) × Int × Int × Unit) ((Int × Unit) ⊕ ((List (List (Int × (Int × Unit)))) × Int × Unit)))
  | (sets, (p, (i, ()))) =>
    bif (decide (i < p)) then
   bif ((decide ((0 : Int) ≤ i)) && (decide (i < ((sets.length : Nat) : Int)))) then
    bif (!(p == (0 : Int))) then
     bif ((decide ((0 : Int) ≤ ((w64 (i + (1 : Int))).tmod p))) && (decide (((w64 (i + (1 : Int))).tmod p) < ((sets.length : Nat) : Int)))) then
      (spec_l07Led (sets.getD i.toNat ([] : List (Int × (Int × Unit)))) (sets.getD ((w64 (i + (1 : Int))).tmod p).toNat ([] : List (Int × (Int × Unit))))).bind fun r0 =>
      bif (!r0) then
       some (.stop (.inl ((2 : Int), ())))
      else some (.next (sets, (p, ((w64 (i + (1 : Int))), ()))))
     else none
    else none
   else none
  else some (.stop (.inr ((sets, (p, ())))))
noncomputable def spec_l07Ordered_l0 : (List (Int × (Int × Unit))) × (List (Int × (Int × Unit))) × Int × Int × Unit → Option (Ctl ((List (Int × (Int × Unit))) × (List (Int × (Int × Unit))) × Int × Int × Unit) ((Bool × Unit) ⊕ (Unit)))
  | (set, (next', (n, (i, ())))) =>
    bif (decide (i < n)) then
   bif ((decide ((0 : Int) ≤ i)) && (decide (i < ((set.length : Nat) : Int)))) then
    (spec_l01Double (set.getD i.toNat ((0 : Int), (0 : Int), ()))).bind fun r0 =>
    (spec_l07Place next' r0).bind fun r1 =>
    bif (!(n == (0 : Int))) then
     bif ((decide ((0 : Int) ≤ ((w64 (i + (1 : Int))).tmod n))) && (decide (((w64 (i + (1 : Int))).tmod n) < ((set.length : Nat) : Int)))) then
      (spec_l01Double (set.getD ((w64 (i + (1 : Int))).tmod n).toNat ((0 : Int), (0 : Int), ()))).bind fun r2 =>
      (spec_l07Place next' r2).bind fun r3 =>
      bif (!(n == (0 : Int))) then
       bif (r3 != ((w64 (r1 + (1 : Int))).tmod n)) then
        some (.stop (.inl (false, ())))
       else some (.next (set, (next', (n, ((w64 (i + (1 : Int))), ())))))
      else none
     else none
    else none
   else none
  else some (.stop (.inr (())))
noncomputable def spec_l07Ordered (set : List (Int × (Int × Unit))) (next' : List (Int × (Int × Unit))) : Option (Bool) :=
  (loop spec_l07Ordered_l0 (set, next', ((set.length : Nat) : Int), (0 : Int), ())).bind fun r0 =>
  alt r0 (fun r1 =>
   some (r1.1))
   (fun r2 =>
   some (true))
noncomputable def spec_l07Fails_l1 : (List (List (Int × (Int × Unit)))) × Int × Int × Unit → Option (Ctl ((List (List (Int × (Int × Unit)))) × Int × Int × Unit) ((Int × Unit) ⊕ ((List (List (Int × (Int × Unit)))) × Int × Unit)))
  | (sets, (p, (i, ()))) =>
    bif (decide (i < p)) then
   bif ((decide ((0 : Int) ≤ i)) && (decide (i < ((sets.length : Nat) : Int)))) then
    bif (!(p == (0 : Int))) then
     bif ((decide ((0 : Int) ≤ ((w64 (i + (1 : Int))).tmod p))) && (decide (((w64 (i + (1 : Int))).tmod p) < ((sets.length : Nat) : Int)))) then
      (spec_l07Ordered (sets.getD i.toNat ([] : List (Int × (Int × Unit)))) (sets.getD ((w64 (i + (1 : Int))).tmod p).toNat ([] : List (Int × (Int × Unit))))).bind fun r0 =>
      bif (!r0) then
       some (.stop (.inl ((3 : Int), ())))
      else some (.next (sets, (p, ((w64 (i + (1 : Int))), ()))))
     else none
    else none
   else none
  else some (.stop (.inr ((sets, (p, ())))))
noncomputable def spec_l07Fails_l3 : (List (List (Int × (Int × Unit)))) × Int × Int × Int × Int × Unit → Option (Ctl ((List (List (Int × (Int × Unit)))) × Int × Int × Int × Int × Unit) ((Int × Unit) ⊕ ((List (List (Int × (Int × Unit)))) × Int × Int × Int × Unit)))
  | (sets, (p, (period, (i, (k, ()))))) =>
    bif ((decide ((0 : Int) ≤ i)) && (decide (i < ((sets.length : Nat) : Int)))) then
   bif (decide (k < (((sets.getD i.toNat ([] : List (Int × (Int × Unit)))).length : Nat) : Int))) then
    bif ((decide ((0 : Int) ≤ i)) && (decide (i < ((sets.length : Nat) : Int)))) then
     bif ((decide ((0 : Int) ≤ k)) && (decide (k < (((sets.getD i.toNat ([] : List (Int × (Int × Unit)))).length : Nat) : Int)))) then
      (spec_l01Orbit ((sets.getD i.toNat ([] : List (Int × (Int × Unit)))).getD k.toNat ((0 : Int), (0 : Int), ()))).bind fun r0 =>
      bif (!r0.2.2) then
       some (.stop (.inl ((4 : Int), ())))
      else bif (r0.2.1 != (0 : Int)) then
        some (.stop (.inl ((4 : Int), ())))
       else bif (decide (period > (0 : Int))) then
         bif (((r0.1.length : Nat) : Int) != period) then
          some (.stop (.inl ((4 : Int), ())))
         else some (.next (sets, (p, (((r0.1.length : Nat) : Int), (i, ((w64 (k + (1 : Int))), ()))))))
        else some (.next (sets, (p, (((r0.1.length : Nat) : Int), (i, ((w64 (k + (1 : Int))), ()))))))
     else none
    else none
   else some (.stop (.inr ((sets, (p, (period, (i, ())))))))
  else none
noncomputable def spec_l07Fails_l2 : (List (List (Int × (Int × Unit)))) × Int × Int × Int × Unit → Option (Ctl ((List (List (Int × (Int × Unit)))) × Int × Int × Int × Unit) ((Int × Unit) ⊕ ((List (List (Int × (Int × Unit)))) × Int × Unit)))
  | (sets, (p, (period, (i, ())))) =>
    bif (decide (i < p)) then
   (loop spec_l07Fails_l3 (sets, p, period, i, (0 : Int), ())).bind fun r0 =>
   alt r0 (fun r1 =>
    some (.stop (.inl (r1.1, ()))))
    (fun r2 =>
    some (.next (r2.1, (r2.2.1, (r2.2.2.1, ((w64 (r2.2.2.2.1 + (1 : Int))), ()))))))
  else some (.stop (.inr ((sets, (p, ())))))
noncomputable def spec_l01Within (x : (Int × (Int × Unit))) (a : (Int × (Int × Unit))) (b : (Int × (Int × Unit))) : Option (Bool) :=
  (spec_l01Less a b).bind fun r0 =>
  bif r0 then
   (spec_l01Less a x).bind fun r1 =>
   bif r1 then
    (spec_l01Less x b).bind fun r2 =>
    some (r2)
   else some (false)
  else (spec_l01Less a x).bind fun r3 =>
   bif r3 then
    some (true)
   else (spec_l01Less x b).bind fun r4 =>
    some (r4)
noncomputable def spec_l07Linked_l1 : (List (Int × (Int × Unit))) × (List (Int × (Int × Unit))) × Int × Int × Int × Int × Unit → Option (Ctl ((List (Int × (Int × Unit))) × (List (Int × (Int × Unit))) × Int × Int × Int × Int × Unit) (((List (Int × (Int × Unit))) × (List (Int × (Int × Unit))) × Int × Int × Int × Unit)))
  | (set, (other, (n, (i, (count, (k, ())))))) =>
    bif (decide (k < ((set.length : Nat) : Int))) then
   bif ((decide ((0 : Int) ≤ k)) && (decide (k < ((set.length : Nat) : Int)))) then
    bif ((decide ((0 : Int) ≤ i)) && (decide (i < ((other.length : Nat) : Int)))) then
     bif (!(n == (0 : Int))) then
      bif ((decide ((0 : Int) ≤ ((w64 (i + (1 : Int))).tmod n))) && (decide (((w64 (i + (1 : Int))).tmod n) < ((other.length : Nat) : Int)))) then
       (spec_l01Within (set.getD k.toNat ((0 : Int), (0 : Int), ())) (other.getD i.toNat ((0 : Int), (0 : Int), ())) (other.getD ((w64 (i + (1 : Int))).tmod n).toNat ((0 : Int), (0 : Int), ()))).bind fun r0 =>
       bif r0 then
        some (.next (set, (other, (n, (i, ((w64 (count + (1 : Int))), ((w64 (k + (1 : Int))), ())))))))
       else some (.next (set, (other, (n, (i, (count, ((w64 (k + (1 : Int))), ())))))))
      else none
     else none
    else none
   else none
  else some (.stop ((set, (other, (n, (i, (count, ())))))))
noncomputable def spec_l07Linked_l0 : (List (Int × (Int × Unit))) × (List (Int × (Int × Unit))) × Int × Int × Unit → Option (Ctl ((List (Int × (Int × Unit))) × (List (Int × (Int × Unit))) × Int × Int × Unit) ((Bool × Unit) ⊕ (Unit)))
  | (set, (other, (n, (i, ())))) =>
    bif (decide (i < n)) then
   (loop spec_l07Linked_l1 (set, other, n, i, (0 : Int), (0 : Int), ())).bind fun r0 =>
   bif (decide (r0.2.2.2.2.1 > (0 : Int))) then
    bif (decide (r0.2.2.2.2.1 < ((r0.1.length : Nat) : Int))) then
     some (.stop (.inl (true, ())))
    else some (.next (r0.1, (r0.2.1, (r0.2.2.1, ((w64 (r0.2.2.2.1 + (1 : Int))), ())))))
   else some (.next (r0.1, (r0.2.1, (r0.2.2.1, ((w64 (r0.2.2.2.1 + (1 : Int))), ())))))
  else some (.stop (.inr (())))
noncomputable def spec_l07Linked (set : List (Int × (Int × Unit))) (other : List (Int × (Int × Unit))) : Option (Bool) :=
  bif (((other.length : Nat) : Int) == (1 : Int)) then
   some (false)
  else (loop spec_l07Linked_l0 (set, other, ((other.length : Nat) : Int), (0 : Int), ())).bind fun r0 =>
   alt r0 (fun r1 =>
    some (r1.1))
    (fun r2 =>
    some (false))
noncomputable def spec_l07Fails_l5 : (List (List (Int × (Int × Unit)))) × Int × Int × Int × Unit → Option (Ctl ((List (List (Int × (Int × Unit)))) × Int × Int × Int × Unit) ((Int × Unit) ⊕ ((List (List (Int × (Int × Unit)))) × Int × Int × Unit)))
  | (sets, (p, (i, (k, ())))) =>
    bif (decide (k < p)) then
   bif (i != k) then
    bif ((decide ((0 : Int) ≤ i)) && (decide (i < ((sets.length : Nat) : Int)))) then
     bif ((decide ((0 : Int) ≤ k)) && (decide (k < ((sets.length : Nat) : Int)))) then
      (spec_l07Linked (sets.getD i.toNat ([] : List (Int × (Int × Unit)))) (sets.getD k.toNat ([] : List (Int × (Int × Unit))))).bind fun r0 =>
      bif r0 then
       some (.stop (.inl ((5 : Int), ())))
      else some (.next (sets, (p, (i, ((w64 (k + (1 : Int))), ())))))
     else none
    else none
   else some (.next (sets, (p, (i, ((w64 (k + (1 : Int))), ())))))
  else some (.stop (.inr ((sets, (p, (i, ()))))))
noncomputable def spec_l07Fails_l4 : (List (List (Int × (Int × Unit)))) × Int × Int × Unit → Option (Ctl ((List (List (Int × (Int × Unit)))) × Int × Int × Unit) ((Int × Unit) ⊕ (Unit)))
  | (sets, (p, (i, ()))) =>
    bif (decide (i < p)) then
   (loop spec_l07Fails_l5 (sets, p, i, (0 : Int), ())).bind fun r0 =>
   alt r0 (fun r1 =>
    some (.stop (.inl (r1.1, ()))))
    (fun r2 =>
    some (.next (r2.1, (r2.2.1, ((w64 (r2.2.2.1 + (1 : Int))), ())))))
  else some (.stop (.inr (())))
noncomputable def spec_l07Fails (sets : List (List (Int × (Int × Unit)))) : Option (Int) :=
  (spec_l07Apart sets).bind fun r0 =>
  bif (!r0) then
   some ((1 : Int))
  else (loop spec_l07Fails_l0 (sets, ((sets.length : Nat) : Int), (0 : Int), ())).bind fun r1 =>
   alt r1 (fun r2 =>
    some (r2.1))
    (fun r3 =>
    (loop spec_l07Fails_l1 (r3.1, r3.2.1, (0 : Int), ())).bind fun r4 =>
    alt r4 (fun r5 =>
     some (r5.1))
     (fun r6 =>
     (loop spec_l07Fails_l2 (r6.1, r6.2.1, (0 : Int), (0 : Int), ())).bind fun r7 =>
     alt r7 (fun r8 =>
      some (r8.1))
      (fun r9 =>
      (loop spec_l07Fails_l4 (r9.1, r9.2.1, (0 : Int), ())).bind fun r10 =>
      alt r10 (fun r11 =>
       some (r11.1))
       (fun r12 =>
       some ((0 : Int))))))
noncomputable def spec_l07Is (sets : List (List (Int × (Int × Unit)))) : Option (Bool) :=
  (spec_l07Lists sets).bind fun r0 =>
  bif (r0 == (0 : Int)) then
   (spec_l07Fails sets).bind fun r1 =>
   some ((r1 == (0 : Int)))
  else some (false)
noncomputable def spec_PortraitOf_l0 : (List (List (Int × (Int × Unit)))) × Int × Int × Unit → Option (Ctl ((List (List (Int × (Int × Unit)))) × Int × Int × Unit) (((List (List (Int × (Int × Unit)))) × Int × Unit)))
  | (out, (count, (i, ()))) =>
    bif (decide (i < ((out.length : Nat) : Int))) then
   bif ((decide ((0 : Int) ≤ i)) && (decide (i < ((out.length : Nat) : Int)))) then
    some (.next (out, ((w64 (count + (((out.getD i.toNat ([] : List (Int × (Int × Unit)))).length : Nat) : Int))), ((w64 (i + (1 : Int))), ()))))
   else none
  else some (.stop ((out, (count, ()))))
noncomputable def spec_PortraitOf (a : (Int × (Int × Unit))) (b : (Int × (Int × Unit))) : Option ((List (List (Int × (Int × Unit)))) × Int) :=
  (spec_l01Is a).bind fun r0 =>
  bif (!r0) then
   some (([] : List (List (Int × (Int × Unit)))), (1 : Int))
  else (spec_l01Is b).bind fun r1 =>
   bif (!r1) then
    some (([] : List (List (Int × (Int × Unit)))), (1 : Int))
   else (spec_l01Orbit a).bind fun r2 =>
    (spec_l01Orbit b).bind fun r3 =>
    bif (!r2.2.2) then
     some (([] : List (List (Int × (Int × Unit)))), (3 : Int))
    else bif (!r3.2.2) then
      some (([] : List (List (Int × (Int × Unit)))), (3 : Int))
     else bif ((a.1 == b.1) && ((a.2.1 == b.2.1) && true)) then
       some (([] : List (List (Int × (Int × Unit)))), (5 : Int))
      else bif (r2.2.1 != (0 : Int)) then
        some (([] : List (List (Int × (Int × Unit)))), (5 : Int))
       else bif (r3.2.1 != (0 : Int)) then
         some (([] : List (List (Int × (Int × Unit)))), (5 : Int))
        else bif (((r2.1.length : Nat) : Int) != ((r3.1.length : Nat) : Int)) then
          some (([] : List (List (Int × (Int × Unit)))), (5 : Int))
         else (spec_l07Joined r2.1 r3.1).bind fun r4 =>
          (loop spec_PortraitOf_l0 (r4, (0 : Int), (0 : Int), ())).bind fun r5 =>
          bif (decide (((r5.1.length : Nat) : Int) > (12 : Int))) then
           some (([] : List (List (Int × (Int × Unit)))), (3 : Int))
          else bif (decide (r5.2.1 > (64 : Int))) then
            some (([] : List (List (Int × (Int × Unit)))), (3 : Int))
           else (spec_l07Is r5.1).bind fun r6 =>
            bif (!r6) then
             some (([] : List (List (Int × (Int × Unit)))), (5 : Int))
            else some (r5.1, (0 : Int))
noncomputable def impl_within (n : Int) (low : Int) (high : Int) : Option (Bool) :=
  bif (decide (low ≤ n)) then
   some ((decide (n ≤ high)))
  else some (false)
noncomputable def impl_divisor_l0 : Int × Int × Unit → Option (Ctl (Int × Int × Unit) ((Int × Unit)))
  | (a, (b, ())) =>
    bif (b != (0 : Int)) then
   bif (!(b == (0 : Int))) then
    some (.next (b, ((a.tmod b), ())))
   else none
  else some (.stop ((a, ())))
noncomputable def impl_divisor (a : Int) (b : Int) : Option (Int) :=
  (loop impl_divisor_l0 (a, b, ())).bind fun r0 =>
  some (r0.1)
noncomputable def impl_IsAngle (a : (Int × (Int × Unit))) : Option (Bool) :=
  (impl_within a.2.1 (1 : Int) (8191 : Int)).bind fun r0 =>
  bif r0 then
   (impl_within a.1 (0 : Int) (w64 (a.2.1 - (1 : Int)))).bind fun r1 =>
   bif r1 then
    (impl_divisor a.2.1 a.1).bind fun r2 =>
    some ((r2 == (1 : Int)))
   else some (false)
  else some (false)
noncomputable def impl_areAll_impl_Angle_f1 (x : (Int × (Int × Unit))) : Option (Bool) :=
  (impl_IsAngle x).bind fun r0 =>
  some ((!r0))
noncomputable def slices_IndexFunc__impl_Angle_impl_Angle_l0 : (List (Int × (Int × Unit))) × Unit × ((Unit × Unit) × Unit) × Int × Int × Unit → Option (Ctl ((List (Int × (Int × Unit))) × Unit × ((Unit × Unit) × Unit) × Int × Int × Unit) ((Int × Unit) ⊕ (Unit)))
  | (s, ((), (((), ()), ()), (t7, (t8, ())))) =>
    bif (decide (t8 < t7)) then
   bif ((decide ((0 : Int) ≤ t8)) && (decide (t8 < ((s.length : Nat) : Int)))) then
    (impl_areAll_impl_Angle_f1 (s.getD t8.toNat ((0 : Int), (0 : Int), ()))).bind fun r0 =>
    bif r0 then
     some (.stop (.inl (t8, ())))
    else some (.next (s, ((), (((), ()), ()), (t7, ((w64 (t8 + (1 : Int))), ())))))
   else none
  else some (.stop (.inr (())))
noncomputable def slices_IndexFunc__impl_Angle_impl_Angle (s : List (Int × (Int × Unit))) : Option (Int) :=
  (loop slices_IndexFunc__impl_Angle_impl_Angle_l0 (s, (), (((), ()), ()), ((s.length : Nat) : Int), (0 : Int), ())).bind fun r0 =>
  alt r0 (fun r1 =>
   some (r1.1))
   (fun r2 =>
   some ((-1 : Int)))
noncomputable def slices_ContainsFunc__impl_Angle_impl_Angle (s : List (Int × (Int × Unit))) : Option (Bool) :=
  (slices_IndexFunc__impl_Angle_impl_Angle s).bind fun r0 =>
  some ((decide (r0 ≥ (0 : Int))))
noncomputable def impl_areAll_impl_Angle (list : List (Int × (Int × Unit))) : Option (Bool) :=
  (slices_ContainsFunc__impl_Angle_impl_Angle list).bind fun r0 =>
  some ((!r0))
noncomputable def impl_anglesCode (list : List (Int × (Int × Unit))) : Option (Int) :=
  (impl_areAll_impl_Angle list).bind fun r0 =>
  bif (!r0) then
   some ((1 : Int))
  else some ((0 : Int))
noncomputable def slices_Index__impl_Angle_impl_Angle_l0 : (List (Int × (Int × Unit))) × ((Int × (Int × Unit))) × Int × Int × Unit → Option (Ctl ((List (Int × (Int × Unit))) × ((Int × (Int × Unit))) × Int × Int × Unit) ((Int × Unit) ⊕ (Unit)))
  | (s, (v, (t7, (t8, ())))) =>
    bif (decide (t8 < t7)) then
   bif ((decide ((0 : Int) ≤ t8)) && (decide (t8 < ((s.length : Nat) : Int)))) then
    bif ((v.1 == (s.getD t8.toNat ((0 : Int), (0 : Int), ())).1) && ((v.2.1 == (s.getD t8.toNat ((0 : Int), (0 : Int), ())).2.1) && true)) then
     some (.stop (.inl (t8, ())))
    else some (.next (s, (v, (t7, ((w64 (t8 + (1 : Int))), ())))))
   else none
  else some (.stop (.inr (())))
noncomputable def slices_Index__impl_Angle_impl_Angle (s : List (Int × (Int × Unit))) (v : (Int × (Int × Unit))) : Option (Int) :=
  (loop slices_Index__impl_Angle_impl_Angle_l0 (s, v, ((s.length : Nat) : Int), (0 : Int), ())).bind fun r0 =>
  alt r0 (fun r1 =>
   some (r1.1))
   (fun r2 =>
   some ((-1 : Int)))
noncomputable def impl_angle (num : Int) (den : Int) : Option ((Int × (Int × Unit))) :=
  bif (!(den == (0 : Int))) then
   bif (!(den == (0 : Int))) then
    (impl_divisor den ((w64 ((num.tmod den) + den)).tmod den)).bind fun r0 =>
    bif (!(r0 == (0 : Int))) then
     bif (!(r0 == (0 : Int))) then
      some (((w64 (((w64 ((num.tmod den) + den)).tmod den).tdiv r0)), (w64 (den.tdiv r0)), ()))
     else none
    else none
   else none
  else none
noncomputable def impl_Angle_double (a : (Int × (Int × Unit))) : Option ((Int × (Int × Unit))) :=
  (impl_angle (w64 ((2 : Int) * a.1)) a.2.1).bind fun r0 =>
  some (r0)
noncomputable def impl_Angle_orbit_l0 : ((Int × (Int × Unit))) × (List (Int × (Int × Unit))) × Unit → Option (Ctl (((Int × (Int × Unit))) × (List (Int × (Int × Unit))) × Unit) ((Int × Bool × (List (Int × (Int × Unit))) × Unit) ⊕ ((List (Int × (Int × Unit))) × Int × Bool × (List (Int × (Int × Unit))) × Unit)))
  | (a, (list, ())) =>
    (slices_Index__impl_Angle_impl_Angle list a).bind fun r0 =>
  bif (decide (r0 ≥ (0 : Int))) then
   some (.stop (.inl (r0, (true, (list, ())))))
  else bif (((list.length : Nat) : Int) == (64 : Int)) then
    some (.stop (.inr ((([] : List (Int × (Int × Unit))), ((0 : Int), (false, (list, ())))))))
   else bif (decide (((list.length + [a].length) * 16) ≤ 140737488355328)) then
     (impl_Angle_double a).bind fun r1 =>
     some (.next (r1, ((list ++ [a]), ())))
    else none
noncomputable def impl_Angle_orbit (a : (Int × (Int × Unit))) : Option ((List (Int × (Int × Unit))) × Int × Bool) :=
  (loop impl_Angle_orbit_l0 (a, ([] : List (Int × (Int × Unit))), ())).bind fun r0 =>
  alt r0 (fun r1 =>
   some (r1.2.2.1, r1.1, r1.2.1))
   (fun r2 =>
   some (r2.1, r2.2.1, r2.2.2.1))
noncomputable def impl_preperiods (a : (Int × (Int × Unit))) : Option (Int × Int) :=
  (impl_Angle_orbit a).bind fun r0 =>
  bif (!r0.2.2) then
   some ((-1 : Int), (0 : Int))
  else some (r0.2.1, (w64 (((r0.1.length : Nat) : Int) - r0.2.1)))
noncomputable def impl_periodic_f1 (a : (Int × (Int × Unit))) (t1 : Int) : Option (Bool) :=
  (impl_preperiods a).bind fun r0 =>
  bif (r0.1 == (0 : Int)) then
   some ((r0.2 == t1))
  else some (false)
noncomputable def impl_areAll_impl_Angle_f1_v3 (x : (Int × (Int × Unit))) (t1_0 : Int) : Option (Bool) :=
  (impl_periodic_f1 x t1_0).bind fun r0 =>
  some ((!r0))
noncomputable def slices_IndexFunc__impl_Angle_impl_Angle_v3_l0 : (List (Int × (Int × Unit))) × Unit × ((Unit × (Int × Unit)) × Unit) × Int × Int × Unit → Option (Ctl ((List (Int × (Int × Unit))) × Unit × ((Unit × (Int × Unit)) × Unit) × Int × Int × Unit) ((Int × Unit) ⊕ (Unit)))
  | (s, ((), (((), (f, ())), ()), (t7, (t8, ())))) =>
    bif (decide (t8 < t7)) then
   bif ((decide ((0 : Int) ≤ t8)) && (decide (t8 < ((s.length : Nat) : Int)))) then
    (impl_areAll_impl_Angle_f1_v3 (s.getD t8.toNat ((0 : Int), (0 : Int), ())) f).bind fun r0 =>
    bif r0 then
     some (.stop (.inl (t8, ())))
    else some (.next (s, ((), (((), (f, ())), ()), (t7, ((w64 (t8 + (1 : Int))), ())))))
   else none
  else some (.stop (.inr (())))
noncomputable def slices_IndexFunc__impl_Angle_impl_Angle_v3 (s : List (Int × (Int × Unit))) (f_0_1 : Int) : Option (Int) :=
  (loop slices_IndexFunc__impl_Angle_impl_Angle_v3_l0 (s, (), (((), f_0_1, ()), ()), ((s.length : Nat) : Int), (0 : Int), ())).bind fun r0 =>
  alt r0 (fun r1 =>
   some (r1.1))
   (fun r2 =>
   some ((-1 : Int)))
noncomputable def slices_ContainsFunc__impl_Angle_impl_Angle_v3 (s : List (Int × (Int × Unit))) (f_0_1 : Int) : Option (Bool) :=
  (slices_IndexFunc__impl_Angle_impl_Angle_v3 s f_0_1).bind fun r0 =>
  some ((decide (r0 ≥ (0 : Int))))
noncomputable def impl_areAll_impl_Angle_v3 (list : List (Int × (Int × Unit))) (is'_0 : Int) : Option (Bool) :=
  (slices_ContainsFunc__impl_Angle_impl_Angle_v3 list is'_0).bind fun r0 =>
  some ((!r0))
noncomputable def impl_periodic (list : List (Int × (Int × Unit))) : Option (Bool) :=
  bif ((decide ((0 : Int) ≤ (0 : Int))) && (decide ((0 : Int) < ((list.length : Nat) : Int)))) then
   (impl_preperiods (list.getD (0 : Int).toNat ((0 : Int), (0 : Int), ()))).bind fun r0 =>
   (impl_areAll_impl_Angle_v3 list r0.2).bind fun r1 =>
   some (r1)
  else none
noncomputable def impl_PortraitOf_l0 : (List (Int × (Int × Unit))) × (List (Int × (Int × Unit))) × (List (List (Int × (Int × Unit)))) × Int × Int × Unit → Option (Ctl ((List (Int × (Int × Unit))) × (List (Int × (Int × Unit))) × (List (List (Int × (Int × Unit)))) × Int × Int × Unit) (((List (Int × (Int × Unit))) × (List (List (Int × (Int × Unit)))) × Unit)))
  | (x, (y, (pairs, (t57, (t58, ()))))) =>
    bif (decide (t58 < t57)) then
   bif ((decide ((0 : Int) ≤ t58)) && (decide (t58 < ((x.length : Nat) : Int)))) then
    bif ((decide ((0 : Int) ≤ t58)) && (decide (t58 < ((y.length : Nat) : Int)))) then
     bif (decide (((pairs.length + [[(x.getD t58.toNat ((0 : Int), (0 : Int), ())), (y.getD t58.toNat ((0 : Int), (0 : Int), ()))]].length) * 32) ≤ 140737488355328)) then
      some (.next (x, (y, ((pairs ++ [[(x.getD t58.toNat ((0 : Int), (0 : Int), ())), (y.getD t58.toNat ((0 : Int), (0 : Int), ()))]]), (t57, ((w64 (t58 + (1 : Int))), ()))))))
     else none
    else none
   else none
  else some (.stop ((x, (pairs, ()))))
noncomputable def slices_Contains__impl_Angle_impl_Angle (s : List (Int × (Int × Unit))) (v : (Int × (Int × Unit))) : Option (Bool) :=
  (slices_Index__impl_Angle_impl_Angle s v).bind fun r0 =>
  some ((decide (r0 ≥ (0 : Int))))
noncomputable def impl_PortraitOf_f1 (set : List (Int × (Int × Unit))) (t1 : (Int × (Int × Unit))) : Option (Bool) :=
  (slices_Contains__impl_Angle_impl_Angle set t1).bind fun r0 =>
  some (r0)
noncomputable def slices_IndexFunc___impl_Angle__impl_Angle_v2_l0 : (List (List (Int × (Int × Unit)))) × Unit × ((Int × (Int × Unit)) × Unit) × Int × Int × Unit → Option (Ctl ((List (List (Int × (Int × Unit)))) × Unit × ((Int × (Int × Unit)) × Unit) × Int × Int × Unit) ((Int × Unit) ⊕ (Unit)))
  | (s, ((), (f, ()), (t7, (t8, ())))) =>
    bif (decide (t8 < t7)) then
   bif ((decide ((0 : Int) ≤ t8)) && (decide (t8 < ((s.length : Nat) : Int)))) then
    (impl_PortraitOf_f1 (s.getD t8.toNat ([] : List (Int × (Int × Unit)))) f).bind fun r0 =>
    bif r0 then
     some (.stop (.inl (t8, ())))
    else some (.next (s, ((), (f, ()), (t7, ((w64 (t8 + (1 : Int))), ())))))
   else none
  else some (.stop (.inr (())))
noncomputable def slices_IndexFunc___impl_Angle__impl_Angle_v2 (s : List (List (Int × (Int × Unit)))) (f_0 : (Int × (Int × Unit))) : Option (Int) :=
  (loop slices_IndexFunc___impl_Angle__impl_Angle_v2_l0 (s, (), (f_0, ()), ((s.length : Nat) : Int), (0 : Int), ())).bind fun r0 =>
  alt r0 (fun r1 =>
   some (r1.1))
   (fun r2 =>
   some ((-1 : Int)))
noncomputable def slices_ContainsFunc___impl_Angle__impl_Angle_v2 (s : List (List (Int × (Int × Unit)))) (f_0 : (Int × (Int × Unit))) : Option (Bool) :=
  (slices_IndexFunc___impl_Angle__impl_Angle_v2 s f_0).bind fun r0 =>
  some ((decide (r0 ≥ (0 : Int))))
noncomputable def impl_hang_l2 : (List (List (Int × (Int × Unit)))) × (List (Int × (Int × Unit))) × Int × (List (Int × (Int × Unit))) × (List (List (Int × (Int × Unit)))) × Int × Int × (List (Int × (Int × Unit))) × Int × Unit → Option (Ctl ((List (List (Int × (Int × Unit)))) × (List (Int × (Int × Unit))) × Int × (List (Int × (Int × Unit))) × (List (List (Int × (Int × Unit)))) × Int × Int × (List (Int × (Int × Unit))) × Int × Unit) (((List (List (Int × (Int × Unit)))) × (List (Int × (Int × Unit))) × Int × (List (List (Int × (Int × Unit)))) × Int × Int × Unit)))
  | (pairs, (out, (i, (p, (t19, (t20, (t21, (t25, (t26, ()))))))))) =>
    bif (decide (t26 < (2 : Int))) then
   bif ((decide ((0 : Int) ≤ t26)) && (decide (t26 < ((2 : Nat) : Int)))) then
    bif ((decide ((0 : Int) ≤ i)) && (decide (i < ((out.length : Nat) : Int)))) then
     bif (((t25.getD t26.toNat ((0 : Int), (0 : Int), ())).1 == (out.getD i.toNat ((0 : Int), (0 : Int), ())).1) && (((t25.getD t26.toNat ((0 : Int), (0 : Int), ())).2.1 == (out.getD i.toNat ((0 : Int), (0 : Int), ())).2.1) && true)) then
      bif ((decide ((0 : Int) ≤ (w64 ((1 : Int) - t26)))) && (decide ((w64 ((1 : Int) - t26)) < ((2 : Nat) : Int)))) then
       (slices_Contains__impl_Angle_impl_Angle out (p.getD (w64 ((1 : Int) - t26)).toNat ((0 : Int), (0 : Int), ()))).bind fun r0 =>
       bif (!r0) then
        bif ((decide ((0 : Int) ≤ (w64 ((1 : Int) - t26)))) && (decide ((w64 ((1 : Int) - t26)) < ((2 : Nat) : Int)))) then
         bif (decide (((out.length + [(p.getD (w64 ((1 : Int) - t26)).toNat ((0 : Int), (0 : Int), ()))].length) * 16) ≤ 140737488355328)) then
          some (.next (pairs, ((out ++ [(p.getD (w64 ((1 : Int) - t26)).toNat ((0 : Int), (0 : Int), ()))]), (i, (p, (t19, (t20, (t21, (t25, ((w64 (t26 + (1 : Int))), ()))))))))))
         else none
        else none
       else some (.next (pairs, (out, (i, (p, (t19, (t20, (t21, (t25, ((w64 (t26 + (1 : Int))), ()))))))))))
      else none
     else some (.next (pairs, (out, (i, (p, (t19, (t20, (t21, (t25, ((w64 (t26 + (1 : Int))), ()))))))))))
    else none
   else none
  else some (.stop ((pairs, (out, (i, (t19, (t20, (t21, ()))))))))
noncomputable def impl_hang_l1 : (List (List (Int × (Int × Unit)))) × (List (Int × (Int × Unit))) × Int × (List (List (Int × (Int × Unit)))) × Int × Int × Unit → Option (Ctl ((List (List (Int × (Int × Unit)))) × (List (Int × (Int × Unit))) × Int × (List (List (Int × (Int × Unit)))) × Int × Int × Unit) (((List (List (Int × (Int × Unit)))) × (List (Int × (Int × Unit))) × Int × Unit)))
  | (pairs, (out, (i, (t19, (t20, (t21, ())))))) =>
    bif (decide (t21 < t20)) then
   bif ((decide ((0 : Int) ≤ t21)) && (decide (t21 < ((t19.length : Nat) : Int)))) then
    (loop impl_hang_l2 (pairs, out, i, (t19.getD t21.toNat (List.replicate 2 ((0 : Int), (0 : Int), ()))), t19, t20, t21, (t19.getD t21.toNat (List.replicate 2 ((0 : Int), (0 : Int), ()))), (0 : Int), ())).bind fun r0 =>
    some (.next (r0.1, (r0.2.1, (r0.2.2.1, (r0.2.2.2.1, (r0.2.2.2.2.1, ((w64 (r0.2.2.2.2.2.1 + (1 : Int))), ())))))))
   else none
  else some (.stop ((pairs, (out, (i, ())))))
noncomputable def impl_hang_l0 : (List (List (Int × (Int × Unit)))) × (List (Int × (Int × Unit))) × Int × Unit → Option (Ctl ((List (List (Int × (Int × Unit)))) × (List (Int × (Int × Unit))) × Int × Unit) (((List (Int × (Int × Unit))) × Unit)))
  | (pairs, (out, (i, ()))) =>
    bif (decide (i < ((out.length : Nat) : Int))) then
   (loop impl_hang_l1 (pairs, out, i, pairs, ((pairs.length : Nat) : Int), (0 : Int), ())).bind fun r0 =>
   some (.next (r0.1, (r0.2.1, ((w64 (r0.2.2.1 + (1 : Int))), ()))))
  else some (.stop ((out, ())))
noncomputable def slices_Values__impl_Angle_impl_Angle (s : List (Int × (Int × Unit))) : Option ((List (Int × (Int × Unit)))) :=
  some (s)
noncomputable def slices_Collect_impl_Angle (xs : List (Int × (Int × Unit))) : Option (List (Int × (Int × Unit))) :=
  collectOf xs
noncomputable def cmp_isNaN_int64 (x : Int) : Option (Bool) :=
  some ((x != x))
noncomputable def cmp_Compare_int64 (x : Int) (y : Int) : Option (Int) :=
  (cmp_isNaN_int64 x).bind fun r0 =>
  (cmp_isNaN_int64 y).bind fun r1 =>
  bif r0 then
   bif r1 then
    some ((0 : Int))
   else some ((-1 : Int))
  else bif r1 then
    some ((1 : Int))
   else bif (decide (x < y)) then
     some ((-1 : Int))
    else bif (decide (x > y)) then
      some ((1 : Int))
     else some ((0 : Int))
noncomputable def impl_Angle_compare (a : (Int × (Int × Unit))) (b : (Int × (Int × Unit))) : Option (Int) :=
  (cmp_Compare_int64 (w64 (a.1 * b.2.1)) (w64 (b.1 * a.2.1))).bind fun r0 =>
  some (r0)
noncomputable def slices_SortFunc__impl_Angle_impl_Angle (xs : List (Int × (Int × Unit)))  : Option (List (Int × (Int × Unit))) :=
  sortOf (fun x y => impl_Angle_compare x y ) xs
noncomputable def slices_SortedFunc_impl_Angle (seq_0 : List (Int × (Int × Unit))) : Option ((List (Int × (Int × Unit)))) :=
  (slices_Collect_impl_Angle seq_0).bind fun r0 =>
  (slices_SortFunc__impl_Angle_impl_Angle r0).bind fun r1 =>
  some (r1)
noncomputable def slices_Compact__impl_Angle_impl_Angle_l1 : (List (Int × (Int × Unit))) × Int × Nat × Nat × Int × Nat × Nat × Unit → Option (Ctl ((List (Int × (Int × Unit))) × Int × Nat × Nat × Int × Nat × Nat × Unit) (((List (Int × (Int × Unit))) × Int × Unit)))
  | (s, (k, (s2_0, s2_1, (k2, (t28_0, t28_1, ()))))) =>
    bif (decide (k2 < ((((s.take s2_1).drop s2_0).length : Nat) : Int))) then
   bif ((decide ((0 : Int) ≤ k2)) && (decide (k2 < ((((s.take s2_1).drop s2_0).length : Nat) : Int)))) then
    bif ((decide ((0 : Int) ≤ (w64 (k2 - (1 : Int))))) && (decide ((w64 (k2 - (1 : Int))) < ((((s.take s2_1).drop s2_0).length : Nat) : Int)))) then
     bif (!(((s.getD (s2_0 + k2.toNat) ((0 : Int), (0 : Int), ())).1 == (s.getD (s2_0 + (w64 (k2 - (1 : Int))).toNat) ((0 : Int), (0 : Int), ())).1) && (((s.getD (s2_0 + k2.toNat) ((0 : Int), (0 : Int), ())).2.1 == (s.getD (s2_0 + (w64 (k2 - (1 : Int))).toNat) ((0 : Int), (0 : Int), ())).2.1) && true))) then
      bif ((decide ((0 : Int) ≤ k2)) && (decide (k2 < ((((s.take s2_1).drop s2_0).length : Nat) : Int)))) then
       bif ((decide ((0 : Int) ≤ k)) && (decide (k < ((s.length : Nat) : Int)))) then
        some (.next ((s.set k.toNat (s.getD (s2_0 + k2.toNat) ((0 : Int), (0 : Int), ()))), ((w64 (k + (1 : Int))), (s2_0, s2_1, ((w64 (k2 + (1 : Int))), (t28_0, t28_1, ()))))))
       else none
      else none
     else some (.next (s, (k, (s2_0, s2_1, ((w64 (k2 + (1 : Int))), (t28_0, t28_1, ()))))))
    else none
   else none
  else some (.stop ((s, (k, ()))))
noncomputable def slices_Compact__impl_Angle_impl_Angle_l0 : (List (Int × (Int × Unit))) × Int × Unit → Option (Ctl ((List (Int × (Int × Unit))) × Int × Unit) (((List (Int × (Int × Unit))) × Nat × Nat × Nat × Nat × Unit) ⊕ ((List (Int × (Int × Unit))) × Unit)))
  | (s, (k, ())) =>
    bif (decide (k < ((s.length : Nat) : Int))) then
   bif ((decide ((0 : Int) ≤ k)) && (decide (k < ((s.length : Nat) : Int)))) then
    bif ((decide ((0 : Int) ≤ (w64 (k - (1 : Int))))) && (decide ((w64 (k - (1 : Int))) < ((s.length : Nat) : Int)))) then
     bif (((s.getD k.toNat ((0 : Int), (0 : Int), ())).1 == (s.getD (w64 (k - (1 : Int))).toNat ((0 : Int), (0 : Int), ())).1) && (((s.getD k.toNat ((0 : Int), (0 : Int), ())).2.1 == (s.getD (w64 (k - (1 : Int))).toNat ((0 : Int), (0 : Int), ())).2.1) && true)) then
      bif (((decide ((0 : Int) ≤ k)) && (decide (k ≤ ((s.length : Nat) : Int)))) && (decide (((s.length : Nat) : Int) ≤ ((s.length : Nat) : Int)))) then
       (loop slices_Compact__impl_Angle_impl_Angle_l1 (s, k, k.toNat, ((s.length : Nat) : Int).toNat, (1 : Int), k.toNat, ((s.length : Nat) : Int).toNat, ())).bind fun r0 =>
       bif (((decide ((0 : Int) ≤ r0.2.1)) && (decide (r0.2.1 ≤ ((r0.1.length : Nat) : Int)))) && (decide (((r0.1.length : Nat) : Int) ≤ ((r0.1.length : Nat) : Int)))) then
        bif (((decide ((0 : Int) ≤ (0 : Int))) && (decide ((0 : Int) ≤ r0.2.1))) && (decide (r0.2.1 ≤ (((Go.K.cleared r0.1 ((0 : Int), (0 : Int), ()) r0.2.1.toNat ((r0.1.length : Nat) : Int).toNat).length : Nat) : Int)))) then
         some (.stop (.inl ((Go.K.cleared r0.1 ((0 : Int), (0 : Int), ()) r0.2.1.toNat ((r0.1.length : Nat) : Int).toNat), ((0 : Int).toNat, r0.2.1.toNat, ((0 : Int).toNat, r0.2.1.toNat, ())))))
        else none
       else none
      else none
     else some (.next (s, ((w64 (k + (1 : Int))), ())))
    else none
   else none
  else some (.stop (.inr ((s, ()))))
noncomputable def slices_Compact__impl_Angle_impl_Angle (s : List (Int × (Int × Unit))) : Option ((List (Int × (Int × Unit)))) :=
  bif (decide (((s.length : Nat) : Int) < (2 : Int))) then
   some (s)
  else (loop slices_Compact__impl_Angle_impl_Angle_l0 (s, (1 : Int), ())).bind fun r0 =>
   alt r0 (fun r1 =>
    bif (Nat.beq r1.2.1 0) then
     some ((r1.1.take r1.2.2.1))
    else none)
    (fun r2 =>
    some (r2.1))
noncomputable def impl_sorted (list : List (Int × (Int × Unit))) : Option ((List (Int × (Int × Unit)))) :=
  (slices_Values__impl_Angle_impl_Angle list).bind fun r0 =>
  (slices_SortedFunc_impl_Angle r0).bind fun r1 =>
  (slices_Compact__impl_Angle_impl_Angle r1).bind fun r2 =>
  some (r2)
noncomputable def impl_hang (a : (Int × (Int × Unit))) (pairs : List (List (Int × (Int × Unit)))) : Option ((List (Int × (Int × Unit)))) :=
  (loop impl_hang_l0 (pairs, [a], (0 : Int), ())).bind fun r0 =>
  (impl_sorted r0.1).bind fun r1 =>
  some (r1)
noncomputable def impl_PortraitOf_l1 : (List (Int × (Int × Unit))) × (List (List (Int × (Int × Unit)))) × (List (List (Int × (Int × Unit)))) × Int × Int × Int × Unit → Option (Ctl ((List (Int × (Int × Unit))) × (List (List (Int × (Int × Unit)))) × (List (List (Int × (Int × Unit)))) × Int × Int × Int × Unit) (((List (List (Int × (Int × Unit)))) × Int × Unit)))
  | (x, (pairs, (sets, (all, (t75, (t76, ())))))) =>
    bif (decide (t76 < t75)) then
   bif ((decide ((0 : Int) ≤ t76)) && (decide (t76 < ((x.length : Nat) : Int)))) then
    (slices_ContainsFunc___impl_Angle__impl_Angle_v2 sets (x.getD t76.toNat ((0 : Int), (0 : Int), ()))).bind fun r0 =>
    bif r0 then
     some (.stop ((sets, (all, ()))))
    else (impl_hang (x.getD t76.toNat ((0 : Int), (0 : Int), ())) pairs).bind fun r1 =>
     bif (decide (((sets.length + [r1].length) * 24) ≤ 140737488355328)) then
      bif ((decide ((0 : Int) ≤ (w64 ((((sets ++ [r1]).length : Nat) : Int) - (1 : Int))))) && (decide ((w64 ((((sets ++ [r1]).length : Nat) : Int) - (1 : Int))) < (((sets ++ [r1]).length : Nat) : Int)))) then
       some (.next (x, (pairs, ((sets ++ [r1]), ((w64 (all + ((((sets ++ [r1]).getD (w64 ((((sets ++ [r1]).length : Nat) : Int) - (1 : Int))).toNat ([] : List (Int × (Int × Unit)))).length : Nat) : Int))), (t75, ((w64 (t76 + (1 : Int))), ())))))))
      else none
     else none
   else none
  else some (.stop ((sets, (all, ()))))
noncomputable def slices_Concat__impl_Angle_impl_Angle_l0 : (List (List (Int × (Int × Unit)))) × Int × (List (List (Int × (Int × Unit)))) × Int × Int × Unit → Option (Ctl ((List (List (Int × (Int × Unit)))) × Int × (List (List (Int × (Int × Unit)))) × Int × Int × Unit) (((List (List (Int × (Int × Unit)))) × Int × Unit)))
  | (slices, (size, (t9, (t10, (t11, ()))))) =>
    bif (decide (t11 < t10)) then
   bif ((decide ((0 : Int) ≤ t11)) && (decide (t11 < ((t9.length : Nat) : Int)))) then
    bif (decide ((w64 (size + (((t9.getD t11.toNat ([] : List (Int × (Int × Unit)))).length : Nat) : Int))) < (0 : Int))) then
     none
    else some (.next (slices, ((w64 (size + (((t9.getD t11.toNat ([] : List (Int × (Int × Unit)))).length : Nat) : Int))), (t9, (t10, ((w64 (t11 + (1 : Int))), ()))))))
   else none
  else some (.stop ((slices, (size, ()))))
noncomputable def slices_Grow__impl_Angle_impl_Angle (xs : List (Int × (Int × Unit))) (n : Int) : Option (List (Int × (Int × Unit))) :=
  growOf 16 xs n
noncomputable def slices_Concat__impl_Angle_impl_Angle_l1 : (List (List (Int × (Int × Unit)))) × (List (Int × (Int × Unit))) × (List (List (Int × (Int × Unit)))) × Int × Int × Unit → Option (Ctl ((List (List (Int × (Int × Unit)))) × (List (Int × (Int × Unit))) × (List (List (Int × (Int × Unit)))) × Int × Int × Unit) (((List (Int × (Int × Unit))) × Unit)))
  | (slices, (newslice, (t25, (t26, (t27, ()))))) =>
    bif (decide (t27 < t26)) then
   bif ((decide ((0 : Int) ≤ t27)) && (decide (t27 < ((t25.length : Nat) : Int)))) then
    bif (decide (((newslice.length + (t25.getD t27.toNat ([] : List (Int × (Int × Unit)))).length) * 16) ≤ 140737488355328)) then
     some (.next (slices, ((newslice ++ (t25.getD t27.toNat ([] : List (Int × (Int × Unit))))), (t25, (t26, ((w64 (t27 + (1 : Int))), ()))))))
    else none
   else none
  else some (.stop ((newslice, ())))
noncomputable def slices_Concat__impl_Angle_impl_Angle (slices : List (List (Int × (Int × Unit)))) : Option ((List (Int × (Int × Unit)))) :=
  (loop slices_Concat__impl_Angle_impl_Angle_l0 (slices, (0 : Int), slices, ((slices.length : Nat) : Int), (0 : Int), ())).bind fun r0 =>
  (slices_Grow__impl_Angle_impl_Angle ([] : List (Int × (Int × Unit))) r0.2.1).bind fun r1 =>
  (loop slices_Concat__impl_Angle_impl_Angle_l1 (r0.1, r1, r0.1, ((r0.1.length : Nat) : Int), (0 : Int), ())).bind fun r2 =>
  some (r2.1)
noncomputable def impl_areSets_l0 : (List (List (Int × (Int × Unit)))) × Int × (List (List (Int × (Int × Unit)))) × Int × Int × Unit → Option (Ctl ((List (List (Int × (Int × Unit)))) × Int × (List (List (Int × (Int × Unit)))) × Int × Int × Unit) (((List (List (Int × (Int × Unit)))) × Int × Unit)))
  | (sets, (all, (t6, (t7, (t8, ()))))) =>
    bif (decide (t8 < t7)) then
   bif ((decide ((0 : Int) ≤ t8)) && (decide (t8 < ((t6.length : Nat) : Int)))) then
    some (.next (sets, ((w64 (all + (((t6.getD t8.toNat ([] : List (Int × (Int × Unit)))).length : Nat) : Int))), (t6, (t7, ((w64 (t8 + (1 : Int))), ()))))))
   else none
  else some (.stop ((sets, (all, ()))))
noncomputable def impl_length__impl_Angle (list : List (List (Int × (Int × Unit)))) : Option (Int) :=
  some (((list.length : Nat) : Int))
noncomputable def impl_areAscending_l0 : (List (Int × (Int × Unit))) × Int × Unit → Option (Ctl ((List (Int × (Int × Unit))) × Int × Unit) ((Bool × Unit) ⊕ (Unit)))
  | (list, (i, ())) =>
    bif (decide (i < ((list.length : Nat) : Int))) then
   bif ((decide ((0 : Int) ≤ (w64 (i - (1 : Int))))) && (decide ((w64 (i - (1 : Int))) < ((list.length : Nat) : Int)))) then
    bif ((decide ((0 : Int) ≤ i)) && (decide (i < ((list.length : Nat) : Int)))) then
     (impl_Angle_compare (list.getD (w64 (i - (1 : Int))).toNat ((0 : Int), (0 : Int), ())) (list.getD i.toNat ((0 : Int), (0 : Int), ()))).bind fun r0 =>
     bif (decide (r0 ≥ (0 : Int))) then
      some (.stop (.inl (false, ())))
     else some (.next (list, ((w64 (i + (1 : Int))), ())))
    else none
   else none
  else some (.stop (.inr (())))
noncomputable def impl_areAscending (list : List (Int × (Int × Unit))) : Option (Bool) :=
  (loop impl_areAscending_l0 (list, (1 : Int), ())).bind fun r0 =>
  alt r0 (fun r1 =>
   some (r1.1))
   (fun r2 =>
   some (true))
noncomputable def impl_areSets_f1 (set : List (Int × (Int × Unit))) : Option (Bool) :=
  bif (decide (((set.length : Nat) : Int) > (0 : Int))) then
   (impl_areAscending set).bind fun r0 =>
   some (r0)
  else some (false)
noncomputable def impl_areAll__impl_Angle_f1 (x : List (Int × (Int × Unit))) : Option (Bool) :=
  (impl_areSets_f1 x).bind fun r0 =>
  some ((!r0))
noncomputable def slices_IndexFunc___impl_Angle__impl_Angle_l0 : (List (List (Int × (Int × Unit)))) × Unit × ((Unit × Unit) × Unit) × Int × Int × Unit → Option (Ctl ((List (List (Int × (Int × Unit)))) × Unit × ((Unit × Unit) × Unit) × Int × Int × Unit) ((Int × Unit) ⊕ (Unit)))
  | (s, ((), (((), ()), ()), (t7, (t8, ())))) =>
    bif (decide (t8 < t7)) then
   bif ((decide ((0 : Int) ≤ t8)) && (decide (t8 < ((s.length : Nat) : Int)))) then
    (impl_areAll__impl_Angle_f1 (s.getD t8.toNat ([] : List (Int × (Int × Unit))))).bind fun r0 =>
    bif r0 then
     some (.stop (.inl (t8, ())))
    else some (.next (s, ((), (((), ()), ()), (t7, ((w64 (t8 + (1 : Int))), ())))))
   else none
  else some (.stop (.inr (())))
noncomputable def slices_IndexFunc___impl_Angle__impl_Angle (s : List (List (Int × (Int × Unit)))) : Option (Int) :=
  (loop slices_IndexFunc___impl_Angle__impl_Angle_l0 (s, (), (((), ()), ()), ((s.length : Nat) : Int), (0 : Int), ())).bind fun r0 =>
  alt r0 (fun r1 =>
   some (r1.1))
   (fun r2 =>
   some ((-1 : Int)))
noncomputable def slices_ContainsFunc___impl_Angle__impl_Angle (s : List (List (Int × (Int × Unit)))) : Option (Bool) :=
  (slices_IndexFunc___impl_Angle__impl_Angle s).bind fun r0 =>
  some ((decide (r0 ≥ (0 : Int))))
noncomputable def impl_areAll__impl_Angle (list : List (List (Int × (Int × Unit)))) : Option (Bool) :=
  (slices_ContainsFunc___impl_Angle__impl_Angle list).bind fun r0 =>
  some ((!r0))
noncomputable def impl_areSets (sets : List (List (Int × (Int × Unit)))) : Option (Bool) :=
  (loop impl_areSets_l0 (sets, (0 : Int), sets, ((sets.length : Nat) : Int), (0 : Int), ())).bind fun r0 =>
  (impl_length__impl_Angle r0.1).bind fun r1 =>
  (impl_within r1 (1 : Int) (12 : Int)).bind fun r2 =>
  bif r2 then
   bif (decide (r0.2.1 ≤ (64 : Int))) then
    (impl_areAll__impl_Angle r0.1).bind fun r3 =>
    some (r3)
   else some (false)
  else some (false)
noncomputable def slices_Clone___impl_Angle__impl_Angle (xs : List (List (Int × (Int × Unit)))) : Option (List (List (Int × (Int × Unit)))) :=
  cloneOf 24 xs
noncomputable def impl_leads_l0 : (List (Int × (Int × Unit))) × (List (Int × (Int × Unit))) × (List (Int × (Int × Unit))) × (List (Int × (Int × Unit))) × Int × Int × Unit → Option (Ctl ((List (Int × (Int × Unit))) × (List (Int × (Int × Unit))) × (List (Int × (Int × Unit))) × (List (Int × (Int × Unit))) × Int × Int × Unit) (((List (Int × (Int × Unit))) × (List (Int × (Int × Unit))) × (List (Int × (Int × Unit))) × Unit)))
  | (set, (next', (images, (t8, (t9, (t10, ())))))) =>
    bif (decide (t10 < t9)) then
   bif ((decide ((0 : Int) ≤ t10)) && (decide (t10 < ((t8.length : Nat) : Int)))) then
    (impl_Angle_double (t8.getD t10.toNat ((0 : Int), (0 : Int), ()))).bind fun r0 =>
    bif (decide (((images.length + [r0].length) * 16) ≤ 140737488355328)) then
     some (.next (set, (next', ((images ++ [r0]), (t8, (t9, ((w64 (t10 + (1 : Int))), ())))))))
    else none
   else none
  else some (.stop ((set, (next', (images, ())))))
noncomputable def impl_leads_f1 (a : (Int × (Int × Unit))) (t1 : List (Int × (Int × Unit))) : Option (Bool) :=
  (slices_Contains__impl_Angle_impl_Angle t1 a).bind fun r0 =>
  some (r0)
noncomputable def impl_areAll_impl_Angle_f1_v2 (x : (Int × (Int × Unit))) (t1_0 : List (Int × (Int × Unit))) : Option (Bool) :=
  (impl_leads_f1 x t1_0).bind fun r0 =>
  some ((!r0))
noncomputable def slices_IndexFunc__impl_Angle_impl_Angle_v2_l0 : (List (Int × (Int × Unit))) × Unit × ((Unit × (List (Int × (Int × Unit)) × Unit)) × Unit) × Int × Int × Unit → Option (Ctl ((List (Int × (Int × Unit))) × Unit × ((Unit × (List (Int × (Int × Unit)) × Unit)) × Unit) × Int × Int × Unit) ((Int × Unit) ⊕ (Unit)))
  | (s, ((), (((), (f, ())), ()), (t7, (t8, ())))) =>
    bif (decide (t8 < t7)) then
   bif ((decide ((0 : Int) ≤ t8)) && (decide (t8 < ((s.length : Nat) : Int)))) then
    (impl_areAll_impl_Angle_f1_v2 (s.getD t8.toNat ((0 : Int), (0 : Int), ())) f).bind fun r0 =>
    bif r0 then
     some (.stop (.inl (t8, ())))
    else some (.next (s, ((), (((), (f, ())), ()), (t7, ((w64 (t8 + (1 : Int))), ())))))
   else none
  else some (.stop (.inr (())))
noncomputable def slices_IndexFunc__impl_Angle_impl_Angle_v2 (s : List (Int × (Int × Unit))) (f_0_1 : List (Int × (Int × Unit))) : Option (Int) :=
  (loop slices_IndexFunc__impl_Angle_impl_Angle_v2_l0 (s, (), (((), f_0_1, ()), ()), ((s.length : Nat) : Int), (0 : Int), ())).bind fun r0 =>
  alt r0 (fun r1 =>
   some (r1.1))
   (fun r2 =>
   some ((-1 : Int)))
noncomputable def slices_ContainsFunc__impl_Angle_impl_Angle_v2 (s : List (Int × (Int × Unit))) (f_0_1 : List (Int × (Int × Unit))) : Option (Bool) :=
  (slices_IndexFunc__impl_Angle_impl_Angle_v2 s f_0_1).bind fun r0 =>
  some ((decide (r0 ≥ (0 : Int))))
noncomputable def impl_areAll_impl_Angle_v2 (list : List (Int × (Int × Unit))) (is'_0 : List (Int × (Int × Unit))) : Option (Bool) :=
  (slices_ContainsFunc__impl_Angle_impl_Angle_v2 list is'_0).bind fun r0 =>
  some ((!r0))
noncomputable def impl_leads (set : List (Int × (Int × Unit))) (next' : List (Int × (Int × Unit))) : Option (Bool) :=
  (loop impl_leads_l0 (set, next', ([] : List (Int × (Int × Unit))), set, ((set.length : Nat) : Int), (0 : Int), ())).bind fun r0 =>
  (impl_areAll_impl_Angle_v2 r0.2.2.1 r0.2.1).bind fun r1 =>
  bif r1 then
   (impl_sorted r0.2.2.1).bind fun r2 =>
   some ((((r2.length : Nat) : Int) == ((r0.1.length : Nat) : Int)))
  else some (false)
noncomputable def impl_fails_l0 : (List (List (Int × (Int × Unit)))) × (List (Int × (Int × Unit))) × (List (List (Int × (Int × Unit)))) × (List (List (Int × (Int × Unit)))) × Int × Int × Unit → Option (Ctl ((List (List (Int × (Int × Unit)))) × (List (Int × (Int × Unit))) × (List (List (Int × (Int × Unit)))) × (List (List (Int × (Int × Unit)))) × Int × Int × Unit) ((Int × Unit) ⊕ ((List (List (Int × (Int × Unit)))) × (List (Int × (Int × Unit))) × (List (List (Int × (Int × Unit)))) × Unit)))
  | (sets, (all, (next', (t29, (t30, (t31, ())))))) =>
    bif (decide (t31 < t30)) then
   bif ((decide ((0 : Int) ≤ t31)) && (decide (t31 < ((t29.length : Nat) : Int)))) then
    bif ((decide ((0 : Int) ≤ t31)) && (decide (t31 < ((next'.length : Nat) : Int)))) then
     (impl_leads (t29.getD t31.toNat ([] : List (Int × (Int × Unit)))) (next'.getD t31.toNat ([] : List (Int × (Int × Unit))))).bind fun r0 =>
     bif (!r0) then
      some (.stop (.inl ((2 : Int), ())))
     else some (.next (sets, (all, (next', (t29, (t30, ((w64 (t31 + (1 : Int))), ())))))))
    else none
   else none
  else some (.stop (.inr ((sets, (all, (next', ()))))))
noncomputable def impl_at (set : List (Int × (Int × Unit))) (i : Int) : Option ((Int × (Int × Unit))) :=
  bif (!(((set.length : Nat) : Int) == (0 : Int))) then
   bif ((decide ((0 : Int) ≤ (i.tmod ((set.length : Nat) : Int)))) && (decide ((i.tmod ((set.length : Nat) : Int)) < ((set.length : Nat) : Int)))) then
    some ((set.getD (i.tmod ((set.length : Nat) : Int)).toNat ((0 : Int), (0 : Int), ())))
   else none
  else none
noncomputable def impl_keeps_l0 : (List (Int × (Int × Unit))) × (List (Int × (Int × Unit))) × (List (Int × (Int × Unit))) × Int × Int × Unit → Option (Ctl ((List (Int × (Int × Unit))) × (List (Int × (Int × Unit))) × (List (Int × (Int × Unit))) × Int × Int × Unit) ((Bool × Unit) ⊕ (Unit)))
  | (set, (next', (t7, (t8, (t9, ()))))) =>
    bif (decide (t9 < t8)) then
   bif ((decide ((0 : Int) ≤ t9)) && (decide (t9 < ((t7.length : Nat) : Int)))) then
    (impl_at set (w64 (t9 + (1 : Int)))).bind fun r0 =>
    (impl_Angle_double r0).bind fun r1 =>
    (impl_Angle_double (t7.getD t9.toNat ((0 : Int), (0 : Int), ()))).bind fun r2 =>
    (slices_Index__impl_Angle_impl_Angle next' r2).bind fun r3 =>
    (impl_at next' (w64 (r3 + (1 : Int)))).bind fun r4 =>
    bif (!((r1.1 == r4.1) && ((r1.2.1 == r4.2.1) && true))) then
     some (.stop (.inl (false, ())))
    else some (.next (set, (next', (t7, (t8, ((w64 (t9 + (1 : Int))), ()))))))
   else none
  else some (.stop (.inr (())))
noncomputable def impl_keeps (set : List (Int × (Int × Unit))) (next' : List (Int × (Int × Unit))) : Option (Bool) :=
  (loop impl_keeps_l0 (set, next', set, ((set.length : Nat) : Int), (0 : Int), ())).bind fun r0 =>
  alt r0 (fun r1 =>
   some (r1.1))
   (fun r2 =>
   some (true))
noncomputable def impl_fails_l1 : (List (List (Int × (Int × Unit)))) × (List (Int × (Int × Unit))) × (List (List (Int × (Int × Unit)))) × (List (List (Int × (Int × Unit)))) × Int × Int × Unit → Option (Ctl ((List (List (Int × (Int × Unit)))) × (List (Int × (Int × Unit))) × (List (List (Int × (Int × Unit)))) × (List (List (Int × (Int × Unit)))) × Int × Int × Unit) ((Int × Unit) ⊕ ((List (List (Int × (Int × Unit)))) × (List (Int × (Int × Unit))) × Unit)))
  | (sets, (all, (next', (t44, (t45, (t46, ())))))) =>
    bif (decide (t46 < t45)) then
   bif ((decide ((0 : Int) ≤ t46)) && (decide (t46 < ((t44.length : Nat) : Int)))) then
    bif ((decide ((0 : Int) ≤ t46)) && (decide (t46 < ((next'.length : Nat) : Int)))) then
     (impl_keeps (t44.getD t46.toNat ([] : List (Int × (Int × Unit)))) (next'.getD t46.toNat ([] : List (Int × (Int × Unit))))).bind fun r0 =>
     bif (!r0) then
      some (.stop (.inl ((3 : Int), ())))
     else some (.next (sets, (all, (next', (t44, (t45, ((w64 (t46 + (1 : Int))), ())))))))
    else none
   else none
  else some (.stop (.inr ((sets, (all, ())))))
noncomputable def impl_Angle_minus (a : (Int × (Int × Unit))) (b : (Int × (Int × Unit))) : Option ((Int × (Int × Unit))) :=
  (impl_angle (w64 ((w64 (a.1 * b.2.1)) - (w64 (b.1 * a.2.1)))) (w64 (a.2.1 * b.2.1))).bind fun r0 =>
  some (r0)
noncomputable def impl_order (a : (Int × (Int × Unit))) (b : (Int × (Int × Unit))) (c : (Int × (Int × Unit))) : Option (Int) :=
  bif ((a.1 == b.1) && ((a.2.1 == b.2.1) && true)) then
   some ((0 : Int))
  else bif ((b.1 == c.1) && ((b.2.1 == c.2.1) && true)) then
    some ((0 : Int))
   else bif ((a.1 == c.1) && ((a.2.1 == c.2.1) && true)) then
     some ((0 : Int))
    else (impl_Angle_minus b a).bind fun r0 =>
     (impl_Angle_minus c a).bind fun r1 =>
     (impl_Angle_compare r0 r1).bind fun r2 =>
     bif (decide (r2 < (0 : Int))) then
      some ((1 : Int))
     else some ((-1 : Int))
noncomputable def impl_areUnlinked_f1 (x : (Int × (Int × Unit))) (t1 : (Int × (Int × Unit))) (t2 : (Int × (Int × Unit))) : Option (Bool) :=
  (impl_order t1 x t2).bind fun r0 =>
  some ((r0 == (1 : Int)))
noncomputable def impl_areAll_impl_Angle_f1_v4 (x : (Int × (Int × Unit))) (t1_0 : (Int × (Int × Unit))) (t1_1 : (Int × (Int × Unit))) : Option (Bool) :=
  (impl_areUnlinked_f1 x t1_0 t1_1).bind fun r0 =>
  some ((!r0))
noncomputable def slices_IndexFunc__impl_Angle_impl_Angle_v4_l0 : (List (Int × (Int × Unit))) × Unit × ((Unit × ((Int × (Int × Unit)) × ((Int × (Int × Unit)) × Unit))) × Unit) × Int × Int × Unit → Option (Ctl ((List (Int × (Int × Unit))) × Unit × ((Unit × ((Int × (Int × Unit)) × ((Int × (Int × Unit)) × Unit))) × Unit) × Int × Int × Unit) ((Int × Unit) ⊕ (Unit)))
  | (s, ((), (((), (f_0, (f_1, ()))), ()), (t7, (t8, ())))) =>
    bif (decide (t8 < t7)) then
   bif ((decide ((0 : Int) ≤ t8)) && (decide (t8 < ((s.length : Nat) : Int)))) then
    (impl_areAll_impl_Angle_f1_v4 (s.getD t8.toNat ((0 : Int), (0 : Int), ())) f_0 f_1).bind fun r0 =>
    bif r0 then
     some (.stop (.inl (t8, ())))
    else some (.next (s, ((), (((), (f_0, (f_1, ()))), ()), (t7, ((w64 (t8 + (1 : Int))), ())))))
   else none
  else some (.stop (.inr (())))
noncomputable def slices_IndexFunc__impl_Angle_impl_Angle_v4 (s : List (Int × (Int × Unit))) (f_0_1 : (Int × (Int × Unit))) (f_0_2 : (Int × (Int × Unit))) : Option (Int) :=
  (loop slices_IndexFunc__impl_Angle_impl_Angle_v4_l0 (s, (), (((), f_0_1, f_0_2, ()), ()), ((s.length : Nat) : Int), (0 : Int), ())).bind fun r0 =>
  alt r0 (fun r1 =>
   some (r1.1))
   (fun r2 =>
   some ((-1 : Int)))
noncomputable def slices_ContainsFunc__impl_Angle_impl_Angle_v4 (s : List (Int × (Int × Unit))) (f_0_1 : (Int × (Int × Unit))) (f_0_2 : (Int × (Int × Unit))) : Option (Bool) :=
  (slices_IndexFunc__impl_Angle_impl_Angle_v4 s f_0_1 f_0_2).bind fun r0 =>
  some ((decide (r0 ≥ (0 : Int))))
noncomputable def impl_areAll_impl_Angle_v4 (list : List (Int × (Int × Unit))) (is'_0 : (Int × (Int × Unit))) (is'_1 : (Int × (Int × Unit))) : Option (Bool) :=
  (slices_ContainsFunc__impl_Angle_impl_Angle_v4 list is'_0 is'_1).bind fun r0 =>
  some ((!r0))
noncomputable def impl_areUnlinked_l0 : (List (Int × (Int × Unit))) × (List (Int × (Int × Unit))) × (List (Int × (Int × Unit))) × Int × Int × Unit → Option (Ctl ((List (Int × (Int × Unit))) × (List (Int × (Int × Unit))) × (List (Int × (Int × Unit))) × Int × Int × Unit) ((Bool × Unit) ⊕ (Unit)))
  | (set, (other, (t11, (t12, (t13, ()))))) =>
    bif (decide (t13 < t12)) then
   bif ((decide ((0 : Int) ≤ t13)) && (decide (t13 < ((t11.length : Nat) : Int)))) then
    (impl_at other (w64 (t13 + (1 : Int)))).bind fun r0 =>
    (impl_areAll_impl_Angle_v4 set (t11.getD t13.toNat ((0 : Int), (0 : Int), ())) r0).bind fun r1 =>
    bif r1 then
     some (.stop (.inl (true, ())))
    else some (.next (set, (other, (t11, (t12, ((w64 (t13 + (1 : Int))), ()))))))
   else none
  else some (.stop (.inr (())))
noncomputable def impl_areUnlinked (set : List (Int × (Int × Unit))) (other : List (Int × (Int × Unit))) : Option (Bool) :=
  bif (((other.length : Nat) : Int) == (1 : Int)) then
   some (true)
  else (loop impl_areUnlinked_l0 (set, other, other, ((other.length : Nat) : Int), (0 : Int), ())).bind fun r0 =>
   alt r0 (fun r1 =>
    some (r1.1))
    (fun r2 =>
    some (false))
noncomputable def impl_fails_l3 : (List (List (Int × (Int × Unit)))) × Int × (List (Int × (Int × Unit))) × (List (List (Int × (Int × Unit)))) × Int × Int × (List (Int × (Int × Unit))) × (List (Int × (Int × Unit))) × (List (List (Int × (Int × Unit)))) × Int × Int × Unit → Option (Ctl ((List (List (Int × (Int × Unit)))) × Int × (List (Int × (Int × Unit))) × (List (List (Int × (Int × Unit)))) × Int × Int × (List (Int × (Int × Unit))) × (List (Int × (Int × Unit))) × (List (List (Int × (Int × Unit)))) × Int × Int × Unit) ((Int × Unit) ⊕ ((List (List (Int × (Int × Unit)))) × (List (List (Int × (Int × Unit)))) × Int × Int × Unit)))
  | (sets, (i, (set, (t62, (t63, (t64, (t67, (t68, (t69, (t70, (t71, ()))))))))))) =>
    bif (decide (t71 < t70)) then
   bif ((decide ((0 : Int) ≤ t71)) && (decide (t71 < ((t69.length : Nat) : Int)))) then
    bif (i != t71) then
     (impl_areUnlinked set (t69.getD t71.toNat ([] : List (Int × (Int × Unit))))).bind fun r0 =>
     bif (!r0) then
      some (.stop (.inl ((5 : Int), ())))
     else some (.next (sets, (i, (set, (t62, (t63, (t64, (t67, (t68, (t69, (t70, ((w64 (t71 + (1 : Int))), ()))))))))))))
    else some (.next (sets, (i, (set, (t62, (t63, (t64, (t67, (t68, (t69, (t70, ((w64 (t71 + (1 : Int))), ()))))))))))))
   else none
  else some (.stop (.inr ((sets, (t62, (t63, (t64, ())))))))
noncomputable def impl_fails_l2 : (List (List (Int × (Int × Unit)))) × (List (List (Int × (Int × Unit)))) × Int × Int × Unit → Option (Ctl ((List (List (Int × (Int × Unit)))) × (List (List (Int × (Int × Unit)))) × Int × Int × Unit) ((Int × Unit) ⊕ (Unit)))
  | (sets, (t62, (t63, (t64, ())))) =>
    bif (decide (t64 < t63)) then
   bif ((decide ((0 : Int) ≤ t64)) && (decide (t64 < ((t62.length : Nat) : Int)))) then
    (loop impl_fails_l3 (sets, t64, (t62.getD t64.toNat ([] : List (Int × (Int × Unit)))), t62, t63, t64, (t62.getD t64.toNat ([] : List (Int × (Int × Unit)))), (t62.getD t64.toNat ([] : List (Int × (Int × Unit)))), sets, ((sets.length : Nat) : Int), (0 : Int), ())).bind fun r0 =>
    alt r0 (fun r1 =>
     some (.stop (.inl (r1.1, ()))))
     (fun r2 =>
     some (.next (r2.1, (r2.2.1, (r2.2.2.1, ((w64 (r2.2.2.2.1 + (1 : Int))), ()))))))
   else none
  else some (.stop (.inr (())))
noncomputable def impl_fails (sets : List (List (Int × (Int × Unit)))) : Option (Int) :=
  (slices_Concat__impl_Angle_impl_Angle sets).bind fun r0 =>
  (impl_sorted r0).bind fun r1 =>
  bif (((r1.length : Nat) : Int) != ((r0.length : Nat) : Int)) then
   some ((1 : Int))
  else bif (((decide ((0 : Int) ≤ (1 : Int))) && (decide ((1 : Int) ≤ ((sets.length : Nat) : Int)))) && (decide (((sets.length : Nat) : Int) ≤ ((sets.length : Nat) : Int)))) then
    (slices_Clone___impl_Angle__impl_Angle ((sets.take ((sets.length : Nat) : Int).toNat).drop (1 : Int).toNat)).bind fun r2 =>
    bif ((decide ((0 : Int) ≤ (0 : Int))) && (decide ((0 : Int) < ((sets.length : Nat) : Int)))) then
     bif (decide (((r2.length + [(sets.getD (0 : Int).toNat ([] : List (Int × (Int × Unit))))].length) * 24) ≤ 140737488355328)) then
      (loop impl_fails_l0 (sets, r0, (r2 ++ [(sets.getD (0 : Int).toNat ([] : List (Int × (Int × Unit))))]), sets, ((sets.length : Nat) : Int), (0 : Int), ())).bind fun r3 =>
      alt r3 (fun r4 =>
       some (r4.1))
       (fun r5 =>
       (loop impl_fails_l1 (r5.1, r5.2.1, r5.2.2.1, r5.1, ((r5.1.length : Nat) : Int), (0 : Int), ())).bind fun r6 =>
       alt r6 (fun r7 =>
        some (r7.1))
        (fun r8 =>
        (impl_periodic r8.2.1).bind fun r9 =>
        bif (!r9) then
         some ((4 : Int))
        else (loop impl_fails_l2 (r8.1, r8.1, ((r8.1.length : Nat) : Int), (0 : Int), ())).bind fun r10 =>
         alt r10 (fun r11 =>
          some (r11.1))
          (fun r12 =>
          some ((0 : Int)))))
     else none
    else none
   else none
noncomputable def impl_PortraitThatFails (sets : List (List (Int × (Int × Unit)))) : Option (Int × Int) :=
  (slices_Concat__impl_Angle_impl_Angle sets).bind fun r0 =>
  (impl_anglesCode r0).bind fun r1 =>
  bif (r1 != (0 : Int)) then
   some ((0 : Int), r1)
  else (impl_areSets sets).bind fun r2 =>
   bif (!r2) then
    some ((0 : Int), (2 : Int))
   else (impl_fails sets).bind fun r3 =>
    some (r3, (0 : Int))
noncomputable def impl_IsPortrait (sets : List (List (Int × (Int × Unit)))) : Option (Bool) :=
  (impl_PortraitThatFails sets).bind fun r0 =>
  bif (r0.2 == (0 : Int)) then
   some ((r0.1 == (0 : Int)))
  else some (false)
noncomputable def impl_PortraitOf (a : (Int × (Int × Unit))) (b : (Int × (Int × Unit))) : Option ((List (List (Int × (Int × Unit)))) × Int) :=
  (impl_anglesCode [a, b]).bind fun r0 =>
  bif (r0 != (0 : Int)) then
   some (([] : List (List (Int × (Int × Unit)))), r0)
  else (impl_Angle_orbit a).bind fun r1 =>
   (impl_Angle_orbit b).bind fun r2 =>
   bif (!r1.2.2) then
    some (([] : List (List (Int × (Int × Unit)))), (3 : Int))
   else bif (!r2.2.2) then
     some (([] : List (List (Int × (Int × Unit)))), (3 : Int))
    else bif ((a.1 == b.1) && ((a.2.1 == b.2.1) && true)) then
      some (([] : List (List (Int × (Int × Unit)))), (5 : Int))
     else (impl_periodic [a, b]).bind fun r3 =>
      bif (!r3) then
       some (([] : List (List (Int × (Int × Unit)))), (5 : Int))
      else (loop impl_PortraitOf_l0 (r1.1, r2.1, ([] : List (List (Int × (Int × Unit)))), ((r1.1.length : Nat) : Int), (0 : Int), ())).bind fun r4 =>
       (loop impl_PortraitOf_l1 (r4.1, r4.2.1, ([] : List (List (Int × (Int × Unit)))), (0 : Int), ((r4.1.length : Nat) : Int), (0 : Int), ())).bind fun r5 =>
       bif (decide (((r5.1.length : Nat) : Int) > (12 : Int))) then
        some (([] : List (List (Int × (Int × Unit)))), (3 : Int))
       else bif (decide (r5.2.1 > (64 : Int))) then
         some (([] : List (List (Int × (Int × Unit)))), (3 : Int))
        else (impl_IsPortrait r5.1).bind fun r6 =>
         bif (!r6) then
          some (([] : List (List (Int × (Int × Unit)))), (5 : Int))
         else some (r5.1, (0 : Int))
noncomputable def laws_eqAngle (a : (Int × (Int × Unit))) (b : (Int × (Int × Unit))) : Option (Bool) :=
  bif (a.1 != b.1) then
   some (false)
  else bif (a.2.1 != b.2.1) then
    some (false)
   else some (true)
noncomputable def laws_eqAngleS_l0 : (List (Int × (Int × Unit))) × (List (Int × (Int × Unit))) × Int × Unit → Option (Ctl ((List (Int × (Int × Unit))) × (List (Int × (Int × Unit))) × Int × Unit) ((Bool × Unit) ⊕ (Unit)))
  | (a, (b, (i, ()))) =>
    bif (decide (i < ((a.length : Nat) : Int))) then
   bif ((decide ((0 : Int) ≤ i)) && (decide (i < ((a.length : Nat) : Int)))) then
    bif ((decide ((0 : Int) ≤ i)) && (decide (i < ((b.length : Nat) : Int)))) then
     (laws_eqAngle (a.getD i.toNat ((0 : Int), (0 : Int), ())) (b.getD i.toNat ((0 : Int), (0 : Int), ()))).bind fun r0 =>
     bif (!r0) then
      some (.stop (.inl (false, ())))
     else some (.next (a, (b, ((w64 (i + (1 : Int))), ()))))
    else none
   else none
  else some (.stop (.inr (())))
noncomputable def laws_eqAngleS (a : List (Int × (Int × Unit))) (b : List (Int × (Int × Unit))) : Option (Bool) :=
  bif (((a.length : Nat) : Int) != ((b.length : Nat) : Int)) then
   some (false)
  else (loop laws_eqAngleS_l0 (a, b, (0 : Int), ())).bind fun r0 =>
   alt r0 (fun r1 =>
    some (r1.1))
    (fun r2 =>
    some (true))
noncomputable def laws_eqAngleSS_l0 : (List (List (Int × (Int × Unit)))) × (List (List (Int × (Int × Unit)))) × Int × Unit → Option (Ctl ((List (List (Int × (Int × Unit)))) × (List (List (Int × (Int × Unit)))) × Int × Unit) ((Bool × Unit) ⊕ (Unit)))
  | (a, (b, (i, ()))) =>
    bif (decide (i < ((a.length : Nat) : Int))) then
   bif ((decide ((0 : Int) ≤ i)) && (decide (i < ((a.length : Nat) : Int)))) then
    bif ((decide ((0 : Int) ≤ i)) && (decide (i < ((b.length : Nat) : Int)))) then
     (laws_eqAngleS (a.getD i.toNat ([] : List (Int × (Int × Unit)))) (b.getD i.toNat ([] : List (Int × (Int × Unit))))).bind fun r0 =>
     bif (!r0) then
      some (.stop (.inl (false, ())))
     else some (.next (a, (b, ((w64 (i + (1 : Int))), ()))))
    else none
   else none
  else some (.stop (.inr (())))
noncomputable def laws_eqAngleSS (a : List (List (Int × (Int × Unit)))) (b : List (List (Int × (Int × Unit)))) : Option (Bool) :=
  bif (((a.length : Nat) : Int) != ((b.length : Nat) : Int)) then
   some (false)
  else (loop laws_eqAngleSS_l0 (a, b, (0 : Int), ())).bind fun r0 =>
   alt r0 (fun r1 =>
    some (r1.1))
    (fun r2 =>
    some (true))
noncomputable def laws_markAngleS_l0 : (List (Int × (Int × Unit))) × Int × Int × Unit → Option (Ctl ((List (Int × (Int × Unit))) × Int × Int × Unit) (((List (Int × (Int × Unit))) × Int × Unit)))
  | (a, (k, (i, ()))) =>
    bif (decide (i < ((a.length : Nat) : Int))) then
   bif ((decide ((0 : Int) ≤ i)) && (decide (i < ((a.length : Nat) : Int)))) then
    bif ((decide ((0 : Int) ≤ i)) && (decide (i < (((a.set i.toNat (k, (a.getD i.toNat ((0 : Int), (0 : Int), ())).2)).length : Nat) : Int)))) then
     some (.next (((a.set i.toNat (k, (a.getD i.toNat ((0 : Int), (0 : Int), ())).2)).set i.toNat (((a.set i.toNat (k, (a.getD i.toNat ((0 : Int), (0 : Int), ())).2)).getD i.toNat ((0 : Int), (0 : Int), ())).1, (w64 (k + (1 : Int))), ((a.set i.toNat (k, (a.getD i.toNat ((0 : Int), (0 : Int), ())).2)).getD i.toNat ((0 : Int), (0 : Int), ())).2.2)), ((w64 ((w64 (k + (1 : Int))) + (1 : Int))), ((w64 (i + (1 : Int))), ()))))
    else none
   else none
  else some (.stop ((a, (k, ()))))
noncomputable def laws_markAngleS (a : List (Int × (Int × Unit))) (k : Int) : Option (Int × (List (Int × (Int × Unit)))) :=
  (loop laws_markAngleS_l0 (a, k, (0 : Int), ())).bind fun r0 =>
  some (r0.2.1, r0.1)
noncomputable def laws_markAngleSS_l0 : (List (List (Int × (Int × Unit)))) × Int × Int × Unit → Option (Ctl ((List (List (Int × (Int × Unit)))) × Int × Int × Unit) (((List (List (Int × (Int × Unit)))) × Int × Unit)))
  | (a, (k, (i, ()))) =>
    bif (decide (i < ((a.length : Nat) : Int))) then
   bif ((decide ((0 : Int) ≤ i)) && (decide (i < ((a.length : Nat) : Int)))) then
    (laws_markAngleS (a.getD i.toNat ([] : List (Int × (Int × Unit)))) k).bind fun r0 =>
    some (.next ((a.set i.toNat r0.2), (r0.1, ((w64 (i + (1 : Int))), ()))))
   else none
  else some (.stop ((a, (k, ()))))
noncomputable def laws_markAngleSS (a : List (List (Int × (Int × Unit)))) (k : Int) : Option (Int × (List (List (Int × (Int × Unit))))) :=
  (loop laws_markAngleSS_l0 (a, k, (0 : Int), ())).bind fun r0 =>
  some (r0.2.1, r0.1)
noncomputable def laws_heldAngleS_l0 : (List (Int × (Int × Unit))) × Int × Int × Unit → Option (Ctl ((List (Int × (Int × Unit))) × Int × Int × Unit) ((Int × Unit) ⊕ (Int × Unit)))
  | (a, (k, (i, ()))) =>
    bif (decide (i < ((a.length : Nat) : Int))) then
   bif ((decide ((0 : Int) ≤ i)) && (decide (i < ((a.length : Nat) : Int)))) then
    bif ((a.getD i.toNat ((0 : Int), (0 : Int), ())).1 != k) then
     some (.stop (.inl ((-1 : Int), ())))
    else bif ((decide ((0 : Int) ≤ i)) && (decide (i < ((a.length : Nat) : Int)))) then
      bif ((a.getD i.toNat ((0 : Int), (0 : Int), ())).2.1 != (w64 (k + (1 : Int)))) then
       some (.stop (.inl ((-1 : Int), ())))
      else some (.next (a, ((w64 ((w64 (k + (1 : Int))) + (1 : Int))), ((w64 (i + (1 : Int))), ()))))
     else none
   else none
  else some (.stop (.inr ((k, ()))))
noncomputable def laws_heldAngleS (a : List (Int × (Int × Unit))) (k : Int) : Option (Int) :=
  (loop laws_heldAngleS_l0 (a, k, (0 : Int), ())).bind fun r0 =>
  alt r0 (fun r1 =>
   some (r1.1))
   (fun r2 =>
   some (r2.1))
noncomputable def laws_heldAngleSS_l0 : (List (List (Int × (Int × Unit)))) × Int × Int × Unit → Option (Ctl ((List (List (Int × (Int × Unit)))) × Int × Int × Unit) ((Int × Unit) ⊕ (Int × Unit)))
  | (a, (k, (i, ()))) =>
    bif (decide (i < ((a.length : Nat) : Int))) then
   bif ((decide ((0 : Int) ≤ i)) && (decide (i < ((a.length : Nat) : Int)))) then
    (laws_heldAngleS (a.getD i.toNat ([] : List (Int × (Int × Unit)))) k).bind fun r0 =>
    bif (decide (r0 < (0 : Int))) then
     some (.stop (.inl ((-1 : Int), ())))
    else some (.next (a, (r0, ((w64 (i + (1 : Int))), ()))))
   else none
  else some (.stop (.inr ((k, ()))))
noncomputable def laws_heldAngleSS (a : List (List (Int × (Int × Unit)))) (k : Int) : Option (Int) :=
  (loop laws_heldAngleSS_l0 (a, k, (0 : Int), ())).bind fun r0 =>
  alt r0 (fun r1 =>
   some (r1.1))
   (fun r2 =>
   some (r2.1))
noncomputable def laws_FnExactPortraitOf (aA : (Int × (Int × Unit))) (aB : (Int × (Int × Unit))) : Option (Bool) :=
  (laws_toAngle aA).bind fun r0 =>
  (laws_toAngle aB).bind fun r1 =>
  (spec_PortraitOf r0 r1).bind fun r2 =>
  (laws_toAngle aA).bind fun r3 =>
  (laws_toAngle aB).bind fun r4 =>
  (impl_PortraitOf r3 r4).bind fun r5 =>
  (laws_eqAngleSS r5.1 r2.1).bind fun r6 =>
  bif (!r6) then
   some (false)
  else bif (r5.2 != r2.2) then
    some (false)
   else (laws_markAngleSS r5.1 (1 : Int)).bind fun r7 =>
    (laws_heldAngleSS r7.2 (1 : Int)).bind fun r8 =>
    bif (decide (r8 < (0 : Int))) then
     some (false)
    else bif (r8 != r7.1) then
      some (false)
     else (laws_toAngle aA).bind fun r9 =>
      (laws_toAngle aB).bind fun r10 =>
      (impl_PortraitOf r9 r10).bind fun r11 =>
      (laws_eqAngleSS r11.1 r2.1).bind fun r12 =>
      bif (!r12) then
       some (false)
      else bif (r11.2 != r2.2) then
        some (false)
       else (laws_heldAngleSS r7.2 (1 : Int)).bind fun r13 =>
        bif (decide (r13 < (0 : Int))) then
         some (false)
        else bif (r13 != r7.1) then
          some (false)
         else some (true)
end Go.K.Pure

/- Plain laws of portraits, part A: loops, words, angles, sorting (turned from the parts of EndClasses). -/
set_option linter.unusedVariables false
set_option linter.unusedSimpArgs false
namespace Go.K.Pure

theorem w64_id {n : Int} (h1 : -9223372036854775808 ≤ n) (h2 : n < 9223372036854775808) : w64 n = n := by
  simp [w64, IntKind.wrap, IntKind.bits, IntKind.signed]; omega
/-- A loop with an invariant and a measure. -/
theorem loop_inv {α β : Type} {step : α → Option (Ctl α β)} (I : α → Prop) (μ : α → Nat) (Q : β → Prop)
    (h : ∀ a, I a → (∃ b, step a = some (.stop b) ∧ Q b) ∨ ∃ a', step a = some (.next a') ∧ I a' ∧ μ a' < μ a) : ∀ a, I a → ∃ b, loop step a = some b ∧ Q b := by
  have key : ∀ n a, μ a ≤ n → I a → ∃ b, loop step a = some b ∧ Q b := by
    intro n
    induction n with
    | zero =>
      intro a hm ha
      rcases h a ha with ⟨b, h1, h2⟩ | ⟨a', _, _, h3⟩
      · exact ⟨b, by rw [loop_eq, h1], h2⟩
      · omega
    | succ n ih =>
      intro a hm ha
      rcases h a ha with ⟨b, h1, h2⟩ | ⟨a', h1, h2, h3⟩
      · exact ⟨b, by rw [loop_eq, h1], h2⟩
      · obtain ⟨b, h4, h5⟩ := ih a' (by omega) h2
        exact ⟨b, by rw [loop_eq, h1]; exact h4, h5⟩
  exact fun a ha => key (μ a) a (Nat.le_refl _) ha
/-- A counted loop: from state `s i` to `s (i + 1)` while `i < n`. -/
theorem loop_count {α β : Type} {step : α → Option (Ctl α β)} (s : Nat → α) (n : Nat) (b : β) (h1 : ∀ i, i < n → step (s i) = some (.next (s (i + 1)))) (h2 : step (s n) = some (.stop b)) : ∀ i, i ≤ n → loop step (s i) = some b := by
  have key : ∀ k i, n - i = k → i ≤ n → loop step (s i) = some b := by
    intro k
    induction k with
    | zero =>
      intro i hk hi
      have : i = n := by omega
      subst this
      rw [loop_eq, h2]
    | succ k ih =>
      intro i hk hi
      rw [loop_eq, h1 i (by omega)]
      exact ih (i + 1) (by omega) (by omega)
  exact fun i hi => key _ i rfl hi
/-- A counted loop that may stop early: it stops at the first `i` at which `stop i` gives something. -/
theorem loop_find {α β : Type} {step : α → Option (Ctl α β)} (s : Nat → α) (n : Nat) (b : β) (stop : Nat → Option β) (h1 : ∀ i, i < n → step (s i) = match stop i with | some c => some (.stop c) | none => some (.next (s (i + 1)))) (h2 : step (s n) = some (.stop b)) :
    ∀ i, i ≤ n → (loop step (s i) = some b ∧ ∀ j, i ≤ j → j < n → stop j = none) ∨ ∃ j c, i ≤ j ∧ j < n ∧ stop j = some c ∧ loop step (s i) = some c ∧ ∀ k, i ≤ k → k < j → stop k = none := by
  have key : ∀ k i, n - i = k → i ≤ n → (loop step (s i) = some b ∧ ∀ j, i ≤ j → j < n → stop j = none) ∨ ∃ j c, i ≤ j ∧ j < n ∧ stop j = some c ∧ loop step (s i) = some c ∧ ∀ k, i ≤ k → k < j → stop k = none := by
    intro k
    induction k with
    | zero =>
      intro i hk hi
      have : i = n := by omega
      subst this
      exact .inl ⟨by rw [loop_eq, h2], fun j h3 h4 => by omega⟩
    | succ k ih =>
      intro i hk hi
      have h3 := h1 i (by omega)
      cases hs : stop i with
      | some c =>
        rw [hs] at h3
        exact .inr ⟨i, c, Nat.le_refl _, by omega, hs, by rw [loop_eq, h3], fun k h4 h5 => by omega⟩
      | none =>
        rw [hs] at h3
        rcases ih (i + 1) (by omega) (by omega) with ⟨h4, h5⟩ | ⟨j, c, h4, h5, h6, h7, h8⟩
        · refine .inl ⟨by rw [loop_eq, h3]; exact h4, fun j h6 h7 => ?_⟩
          by_cases hj : j = i
          · subst hj; exact hs
          · exact h5 j (by omega) h7
        · refine .inr ⟨j, c, by omega, h5, h6, by rw [loop_eq, h3]; exact h7, fun k h9 h10 => ?_⟩
          by_cases hj : k = i
          · subst hj; exact hs
          · exact h8 k (by omega) h10
  exact fun i hi => key _ i rfl hi
theorem getD_at {α : Type} {l : List α} {i : Nat} {d : α} (h : i < l.length) : l.getD i d = l[i] := by
  simp [List.getD_eq_getElem?_getD, h]

abbrev Ang := Int × Int × Unit
abbrev Lf := Ang × Ang × Unit
abbrev InI (n : Int) : Prop := -9223372036854775808 ≤ n ∧ n < 9223372036854775808
theorem bif_pos {α : Type} {p : Prop} [Decidable p] (h : p) {x y : α} : (bif decide p then x else y) = x := by simp [h]
theorem bif_neg {α : Type} {p : Prop} [Decidable p] (h : ¬ p) {x y : α} : (bif decide p then x else y) = y := by simp [h]

abbrev InA (a : Ang) : Prop := InI a.1 ∧ InI a.2.1
abbrev isA (a : Ang) : Prop := 1 ≤ a.2.1 ∧ a.2.1 ≤ 8191 ∧ 0 ≤ a.1 ∧ a.1 < a.2.1 ∧ Int.gcd a.1 a.2.1 = 1
theorem gcd_step {x y : Int} (hx : 0 ≤ x) (hy : 0 < y) : Int.gcd y (x.tmod y) = Int.gcd x y := by
  rw [Int.tmod_eq_emod_of_nonneg hx]
  obtain ⟨x, rfl⟩ := Int.eq_ofNat_of_zero_le hx
  obtain ⟨y, rfl⟩ := Int.eq_ofNat_of_zero_le (Int.le_of_lt hy)
  show Nat.gcd y (x % y) = Nat.gcd x y
  rw [Nat.gcd_comm y, ← Nat.gcd_rec, Nat.gcd_comm]
theorem spec_div {a b : Int} (ha : 0 ≤ a) (hb : 0 ≤ b) : spec_l01Divisor a b = some (Int.gcd a b : Int) := by
  unfold spec_l01Divisor
  obtain ⟨r, h1, h2⟩ := loop_inv (step := spec_l01Divisor_l0) (fun s => 0 ≤ s.1 ∧ 0 ≤ s.2.1 ∧ Int.gcd s.1 s.2.1 = Int.gcd a b) (fun s => s.2.1.toNat) (fun r => r.1 = (Int.gcd a b : Int)) (by
    rintro ⟨x, y, ⟨⟩⟩ ⟨hx, hy, hg⟩
    simp only at hx hy hg
    by_cases h : y > 0
    · right
      refine ⟨(y, x.tmod y, ()), ?_, ⟨hy, Int.tmod_nonneg _ hx, ?_⟩, ?_⟩
      · have : ¬ y = 0 := by omega
        have e : (y == 0) = false := by simpa using this
        simp [spec_l01Divisor_l0, h, e]
      · rw [gcd_step hx h]; exact hg
      · have h1 := Int.tmod_lt_of_pos x h
        have h2 := Int.tmod_nonneg y hx
        simp only
        omega
    · left
      have : y = 0 := by omega
      subst this
      refine ⟨(x, ()), by simp [spec_l01Divisor_l0], ?_⟩
      simp only
      rw [← hg, Int.gcd_zero_right]
      omega) (a, b, ()) ⟨ha, hb, rfl⟩
  rw [h1]
  simp only [Option.bind_some]
  rw [h2]
theorem impl_div {a b : Int} (ha : 0 ≤ a) (hb : 0 ≤ b) : impl_divisor a b = some (Int.gcd a b : Int) := by
  unfold impl_divisor
  obtain ⟨r, h1, h2⟩ := loop_inv (step := impl_divisor_l0) (fun s => 0 ≤ s.1 ∧ 0 ≤ s.2.1 ∧ Int.gcd s.1 s.2.1 = Int.gcd a b) (fun s => s.2.1.toNat) (fun r => r.1 = (Int.gcd a b : Int)) (by
    rintro ⟨x, y, ⟨⟩⟩ ⟨hx, hy, hg⟩
    simp only at hx hy hg
    by_cases h : y > 0
    · right
      refine ⟨(y, x.tmod y, ()), ?_, ⟨hy, Int.tmod_nonneg _ hx, ?_⟩, ?_⟩
      · have : ¬ y = 0 := by omega
        have e : (y == 0) = false := by simpa using this
        have e2 : (y != 0) = true := by simpa using this
        simp [impl_divisor_l0, e, e2]
      · rw [gcd_step hx h]; exact hg
      · have h1 := Int.tmod_lt_of_pos x h
        have h2 := Int.tmod_nonneg y hx
        simp only
        omega
    · left
      have : y = 0 := by omega
      subst this
      refine ⟨(x, ()), by simp [impl_divisor_l0], ?_⟩
      simp only
      rw [← hg, Int.gcd_zero_right]
      omega) (a, b, ()) ⟨ha, hb, rfl⟩
  rw [h1]
  simp only [Option.bind_some]
  rw [h2]
theorem spec_in {n l h : Int} : spec_l01In n l h = some (decide (l ≤ n ∧ n ≤ h)) := by
  unfold spec_l01In
  by_cases h1 : n ≥ l
  · have : l ≤ n := h1
    simp [h1, this]
  · have : ¬ l ≤ n := h1
    simp [h1, this]
theorem impl_in {n l h : Int} : impl_within n l h = some (decide (l ≤ n ∧ n ≤ h)) := by
  unfold impl_within
  by_cases h1 : l ≤ n <;> simp [h1]
theorem spec_isA {a : Ang} (ha : InA a) : spec_l01Is a = some (decide (isA a)) := by
  obtain ⟨⟨a1, a2⟩, a3, a4⟩ := ha
  unfold spec_l01Is isA
  rw [spec_in]
  by_cases h1 : 1 ≤ a.2.1 ∧ a.2.1 ≤ 8191
  · rw [w64_id (by omega) (by omega)]
    simp only [Option.bind_some, h1, and_self, decide_true, cond_true, spec_in, true_and]
    by_cases h2 : 0 ≤ a.1 ∧ a.1 ≤ a.2.1 - 1
    · simp only [h2, and_self, decide_true, cond_true]
      rw [spec_div (by omega) (by omega)]
      have h3 : a.1 < a.2.1 := by omega
      simp only [Option.bind_some, h3, true_and]
      congr 1
      by_cases hg : Int.gcd a.1 a.2.1 = 1
      · simp [hg]
      · have : ¬ ((Int.gcd a.1 a.2.1 : Nat) : Int) = 1 := by omega
        simp [hg, this]
    · simp only [h2, decide_false, cond_false]
      congr 1
      symm
      exact decide_eq_false (by omega)
  · simp only [Option.bind_some, h1, decide_false, cond_false]
    congr 1
    symm
    exact decide_eq_false (by omega)
theorem impl_isA {a : Ang} (ha : InA a) : impl_IsAngle a = some (decide (isA a)) := by
  obtain ⟨⟨a1, a2⟩, a3, a4⟩ := ha
  unfold impl_IsAngle isA
  rw [impl_in]
  by_cases h1 : 1 ≤ a.2.1 ∧ a.2.1 ≤ 8191
  · rw [w64_id (by omega) (by omega)]
    simp only [Option.bind_some, h1, and_self, decide_true, cond_true, impl_in, true_and]
    by_cases h2 : 0 ≤ a.1 ∧ a.1 ≤ a.2.1 - 1
    · simp only [h2, and_self, decide_true, cond_true]
      rw [impl_div (by omega) (by omega), Int.gcd_comm]
      have h3 : a.1 < a.2.1 := by omega
      simp only [Option.bind_some, h3, true_and]
      congr 1
      by_cases hg : Int.gcd a.1 a.2.1 = 1
      · simp [hg]
      · have : ¬ ((Int.gcd a.1 a.2.1 : Nat) : Int) = 1 := by omega
        simp [hg, this]
    · simp only [h2, decide_false, cond_false]
      congr 1
      symm
      exact decide_eq_false (by omega)
  · simp only [Option.bind_some, h1, decide_false, cond_false]
    congr 1
    symm
    exact decide_eq_false (by omega)

theorem common : ∀ n : Nat, ∃ K : Int, 0 < K ∧ ∀ d : Int, 1 ≤ d → d ≤ n → d ∣ K
  | 0 => ⟨1, by omega, fun d h1 h2 => by omega⟩
  | n + 1 => by
    obtain ⟨K, h1, h2⟩ := common n
    refine ⟨K * (n + 1), Int.mul_pos h1 (by omega), fun d h3 h4 => ?_⟩
    by_cases h : d ≤ n
    · exact Int.dvd_trans (h2 d h3 h) ⟨(n : Int) + 1, rfl⟩
    · have : d = (n : Int) + 1 := by omega
      subst this
      exact ⟨K, by rw [Int.mul_comm]⟩
/-- A common multiple of all denominators. -/
noncomputable def KK : Int := Classical.choose (common 8191)
theorem KK_pos : 0 < KK := (Classical.choose_spec (common 8191)).1
theorem KK_dvd {d : Int} (h1 : 1 ≤ d) (h2 : d ≤ 8191) : d ∣ KK := (Classical.choose_spec (common 8191)).2 d h1 h2
/-- An angle's value, over the common denominator. -/
noncomputable def val (a : Ang) : Int := a.1 * (KK / a.2.1)
theorem KK_div {a : Ang} (h : isA a) : a.2.1 * (KK / a.2.1) = KK := Int.mul_ediv_cancel' (KK_dvd h.1 h.2.1)
theorem kd_pos {a : Ang} (h : isA a) : 0 < KK / a.2.1 := by
  have h1 := KK_div h
  have h2 := KK_pos
  have h3 := h.1
  by_cases h4 : 0 < KK / a.2.1
  · exact h4
  · exfalso
    have : a.2.1 * (KK / a.2.1) ≤ 0 := Int.mul_nonpos_of_nonneg_of_nonpos (by omega) (by omega)
    omega
theorem val_nonneg {a : Ang} (h : isA a) : 0 ≤ val a := Int.mul_nonneg h.2.2.1 (Int.le_of_lt (kd_pos h))
theorem val_lt_KK {a : Ang} (h : isA a) : val a < KK := by
  have h1 := Int.mul_lt_mul_of_pos_right h.2.2.2.1 (kd_pos h)
  rw [KK_div h] at h1
  exact h1
/-- The difference of two values. -/
theorem val_cross {a b : Ang} (ha : isA a) (hb : isA b) : (val b - val a) * (a.2.1 * b.2.1) = (b.1 * a.2.1 - a.1 * b.2.1) * KK := by
  have h1 := KK_div ha
  have h2 := KK_div hb
  unfold val
  generalize KK / a.2.1 = x at *
  generalize KK / b.2.1 = y at *
  have e1 : b.1 * y * (a.2.1 * b.2.1) = b.1 * a.2.1 * KK := by rw [← h2]; ac_rfl
  have e2 : a.1 * x * (a.2.1 * b.2.1) = a.1 * b.2.1 * KK := by rw [← h1]; ac_rfl
  rw [Int.sub_mul, Int.sub_mul, e1, e2]
def lt (a b : Ang) : Prop := a.1 * b.2.1 < b.1 * a.2.1
instance (a b : Ang) : Decidable (lt a b) := by unfold lt; infer_instance
theorem den_pos {a b : Ang} (ha : isA a) (hb : isA b) : 0 < a.2.1 * b.2.1 := Int.mul_pos (by have := ha.1; omega) (by have := hb.1; omega)
theorem lt_val {a b : Ang} (ha : isA a) (hb : isA b) : lt a b ↔ val a < val b := by
  have h1 := val_cross ha hb
  have h2 := den_pos ha hb
  have h3 := KK_pos
  unfold lt
  constructor
  · intro h
    have : 0 < (b.1 * a.2.1 - a.1 * b.2.1) * KK := Int.mul_pos (by omega) h3
    rw [← h1] at this
    have := Int.pos_of_mul_pos_left this h2
    omega
  · intro h
    have : 0 < (val b - val a) * (a.2.1 * b.2.1) := Int.mul_pos (by omega) h2
    rw [h1] at this
    have := Int.pos_of_mul_pos_left this h3
    omega
theorem dvd_of_gcd {a b c : Int} (h : a ∣ b * c) (g : Int.gcd a b = 1) : a ∣ c := by
  rw [← Int.natAbs_dvd_natAbs, Int.natAbs_mul] at h
  rw [← Int.natAbs_dvd_natAbs]
  exact Nat.Coprime.dvd_of_dvd_mul_left (show Nat.Coprime a.natAbs b.natAbs from g) h
theorem val_inj {a b : Ang} (ha : isA a) (hb : isA b) (h : val a = val b) : a = b := by
  have h1 := val_cross ha hb
  have h3 := KK_pos
  rw [h, Int.sub_self, Int.zero_mul] at h1
  have h4 : a.1 * b.2.1 = b.1 * a.2.1 := by
    rcases Int.mul_eq_zero.1 h1.symm with h5 | h5 <;> omega
  obtain ⟨a1, a2, ⟨⟩⟩ := a
  obtain ⟨b1, b2, ⟨⟩⟩ := b
  simp only [isA] at ha hb h4 ⊢
  obtain ⟨x1, x2, x3, x4, x5⟩ := ha
  obtain ⟨y1, y2, y3, y4, y5⟩ := hb
  have d1 : a2 ∣ b2 := by
    have : a2 ∣ a1 * b2 := ⟨b1, by rw [h4, Int.mul_comm]⟩
    exact dvd_of_gcd this (by rw [Int.gcd_comm]; exact x5)
  have d2 : b2 ∣ a2 := by
    have : b2 ∣ b1 * a2 := ⟨a1, by rw [← h4, Int.mul_comm]⟩
    exact dvd_of_gcd this (by rw [Int.gcd_comm]; exact y5)
  have e : a2 = b2 := Int.dvd_antisymm (by omega) (by omega) d1 d2
  subst e
  have : a1 = b1 := Int.eq_of_mul_eq_mul_right (by omega) h4
  rw [this]
theorem mul_bnd {x y : Int} (h1 : 0 ≤ x) (h2 : x ≤ 8191) (h3 : 0 ≤ y) (h4 : y ≤ 8191) : 0 ≤ x * y ∧ x * y ≤ 67092481 := by
  refine ⟨Int.mul_nonneg h1 h3, ?_⟩
  have := Int.mul_le_mul h2 h4 h3 (by omega)
  omega
theorem cross_bnd {a b : Ang} (ha : isA a) (hb : isA b) : 0 ≤ a.1 * b.2.1 ∧ a.1 * b.2.1 ≤ 67092481 := by
  obtain ⟨x1, x2, x3, x4, x5⟩ := ha
  obtain ⟨y1, y2, y3, y4, y5⟩ := hb
  exact mul_bnd (by omega) (by omega) (by omega) (by omega)
theorem spec_less {a b : Ang} (ha : isA a) (hb : isA b) : spec_l01Less a b = some (decide (lt a b)) := by
  unfold spec_l01Less lt
  have h1 := cross_bnd ha hb
  have h2 := cross_bnd hb ha
  rw [w64_id (by omega) (by omega), w64_id (by omega) (by omega)]
theorem impl_cmp {x y : Int} : cmp_Compare_int64 x y = some (if x < y then -1 else if y < x then 1 else 0) := by
  unfold cmp_Compare_int64 cmp_isNaN_int64
  simp only [Option.bind_some, bne_self_eq_false, cond_false]
  by_cases h1 : x < y
  · simp [h1]
  · by_cases h2 : y < x
    · have : x > y := h2
      simp [h1, this]
    · have : ¬ x > y := h2
      simp [h1, this]
def cmpA (a b : Ang) : Int := if lt a b then -1 else if lt b a then 1 else 0
theorem impl_compare {a b : Ang} (ha : isA a) (hb : isA b) : impl_Angle_compare a b = some (cmpA a b) := by
  unfold impl_Angle_compare cmpA lt
  have h1 := cross_bnd ha hb
  have h2 := cross_bnd hb ha
  rw [w64_id (by omega) (by omega), w64_id (by omega) (by omega), impl_cmp]
  rfl

theorem mul_lt_iff {x y c : Int} (hc : 0 < c) : x * c < y * c ↔ x < y := ⟨fun h => Int.lt_of_mul_lt_mul_right h (Int.le_of_lt hc), fun h => Int.mul_lt_mul_of_pos_right h hc⟩
theorem angle_ok {num den : Int} (h1 : 0 < den) (h2 : den ≤ 67092481) (h3 : -67092481 ≤ num) (h4 : num ≤ 67092481) :
    ∃ g n d : Int, 0 < g ∧ num % den = g * n ∧ den = g * d ∧ 0 ≤ n ∧ n < d ∧ d ≤ den ∧ impl_angle num den = some (n, d, ()) := by
  have e0 : (den == 0) = false := by simpa using (by omega : ¬ den = 0)
  have m1 : -den < num.tmod den := Int.lt_tmod_of_pos num h1
  have m2 : num.tmod den < den := Int.tmod_lt_of_pos num h1
  have e1 : (num.tmod den + den).tmod den = num % den := by
    rw [Int.tmod_eq_emod_of_nonneg (by omega), Int.add_emod_right, Int.emod_eq_emod_iff_emod_sub_eq_zero]
    have : num.tmod den - num = den * (-(num.tdiv den)) := by
      have := Int.mul_tdiv_add_tmod num den
      rw [Int.mul_neg]; omega
    rw [this]
    exact Int.mul_emod_right _ _
  have n1 := Int.emod_nonneg num (show den ≠ 0 by omega)
  have n2 := Int.emod_lt_of_pos num h1
  unfold impl_angle
  simp only [e0, Bool.not_false, cond_true]
  rw [w64_id (n := num.tmod den + den) (by omega) (by omega), e1]
  rw [impl_div (by omega) (by omega)]
  simp only [Option.bind_some]
  have g0 : 0 < Int.gcd den (num % den) := Int.gcd_pos_of_ne_zero_left _ (by omega)
  generalize hg : Int.gcd den (num % den) = g at g0
  have e2 : (((g : Nat) : Int) == 0) = false := by simpa using (by omega : ¬ (g : Int) = 0)
  simp only [e2, Bool.not_false, cond_true]
  obtain ⟨d, hd⟩ : (g : Int) ∣ den := by rw [← hg]; exact Int.gcd_dvd_left _ _
  obtain ⟨n, hn⟩ : (g : Int) ∣ num % den := by rw [← hg]; exact Int.gcd_dvd_right _ _
  have t1 : (num % den).tdiv (g : Int) = n := by rw [hn]; exact Int.mul_tdiv_cancel_left _ (by omega)
  have t2 : den.tdiv (g : Int) = d := by
    conv => lhs; rw [hd]
    exact Int.mul_tdiv_cancel_left _ (by omega)
  have hgp : (0 : Int) < g := by omega
  have d0 : 0 < d := by
    rw [hd] at h1
    exact Int.pos_of_mul_pos_right h1 hgp
  have n0 : 0 ≤ n := by
    rw [← t1]; exact Int.tdiv_nonneg n1 (by omega)
  have nd : n < d := by
    rw [hn] at n2
    have n2' : n * g < d * g := by rw [Int.mul_comm n, Int.mul_comm d, ← hd]; exact n2
    exact Int.lt_of_mul_lt_mul_right n2' (by omega)
  have dd : d ≤ den := by
    have : d * 1 ≤ d * g := Int.mul_le_mul_of_nonneg_left (by omega) (by omega)
    rw [hd, Int.mul_comm (g : Int)]; omega
  refine ⟨g, n, d, hgp, hn, hd, n0, nd, dd, ?_⟩
  rw [t1, t2, w64_id (by omega) (by omega), w64_id (by omega) (by omega)]
/-- How far it is from one to the other, ahead. -/
noncomputable def dv (x y : Ang) : Int := if val y ≤ val x then val x - val y else val x - val y + KK
theorem minus_ok {a b : Ang} (ha : isA a) (hb : isA b) : ∃ n d : Int, impl_Angle_minus b a = some (n, d, ()) ∧ 0 ≤ n ∧ n < d ∧ d ≤ 67092481 ∧ n * KK = dv b a * d := by
  have c1 := cross_bnd hb ha
  have c2 := cross_bnd ha hb
  have c3 := mul_bnd (show 0 ≤ b.2.1 by have := hb.1; omega) hb.2.1 (show 0 ≤ a.2.1 by have := ha.1; omega) ha.2.1
  have c4 := den_pos hb ha
  have hv := val_cross ha hb
  have v1 := val_nonneg ha
  have v2 := val_lt_KK ha
  have v3 := val_nonneg hb
  have v4 := val_lt_KK hb
  have hK := KK_pos
  have hlt := lt_val hb ha
  unfold impl_Angle_minus
  rw [w64_id (n := b.1 * a.2.1) (by omega) (by omega), w64_id (n := a.1 * b.2.1) (by omega) (by omega), w64_id (n := b.1 * a.2.1 - a.1 * b.2.1) (by omega) (by omega), w64_id (n := b.2.1 * a.2.1) (by omega) (by omega)]
  obtain ⟨g, n, d, h1, h2, h3, h4, h5, h6, h7⟩ := angle_ok (num := b.1 * a.2.1 - a.1 * b.2.1) (den := b.2.1 * a.2.1) c4 c3.2 (by omega) (by omega)
  refine ⟨n, d, by rw [h7]; rfl, h4, h5, by omega, ?_⟩
  -- the fractional part, over the common denominator
  have key : (b.1 * a.2.1 - a.1 * b.2.1) % (b.2.1 * a.2.1) * KK = dv b a * (b.2.1 * a.2.1) := by
    have hn1 := hb.2.2.2.1
    have hn2 := ha.2.2.2.1
    have p1 : b.1 * a.2.1 < b.2.1 * a.2.1 := Int.mul_lt_mul_of_pos_right hn1 (by have := ha.1; omega)
    have p2 : a.1 * b.2.1 < a.2.1 * b.2.1 := Int.mul_lt_mul_of_pos_right hn2 (by have := hb.1; omega)
    rw [Int.mul_comm a.2.1 b.2.1] at hv p2
    unfold lt at hlt
    unfold dv
    generalize b.2.1 * a.2.1 = D at *
    by_cases hc : val a ≤ val b
    · rw [if_pos hc, hv]
      have : ¬ (b.1 * a.2.1 < a.1 * b.2.1) := fun h => by have := hlt.1 h; omega
      rw [Int.emod_eq_of_lt (by omega) (by omega)]
    · rw [if_neg hc, Int.add_mul, hv]
      have : b.1 * a.2.1 < a.1 * b.2.1 := hlt.2 (by omega)
      rw [← Int.add_emod_right, Int.emod_eq_of_lt (by omega) (by omega), Int.add_mul, Int.mul_comm KK]
  rw [h2, h3] at key
  have key' : (n * KK) * g = (dv b a * d) * g := by
    calc (n * KK) * g = g * n * KK := by ac_rfl
      _ = dv b a * (g * d) := key
      _ = (dv b a * d) * g := by ac_rfl
  exact Int.eq_of_mul_eq_mul_right (by omega) key'
theorem impl_order_ok {a b c : Ang} (ha : isA a) (hb : isA b) (hc : isA c) : impl_order a b c = some (if a = b ∨ b = c ∨ a = c then 0 else if dv b a < dv c a then 1 else -1) := by
  have beqA : ∀ x y : Ang, ((x.1 == y.1) && ((x.2.1 == y.2.1) && true)) = decide (x = y) := by
    rintro ⟨x1, x2, ⟨⟩⟩ ⟨y1, y2, ⟨⟩⟩
    by_cases h1 : x1 = y1 <;> by_cases h2 : x2 = y2 <;> simp [h1, h2]
  unfold impl_order
  rw [beqA, beqA, beqA]
  by_cases h1 : a = b
  · simp [h1]
  · by_cases h2 : b = c
    · simp [h1, h2]
    · by_cases h3 : a = c
      · simp [h1, h2, h3]
      · simp only [h1, h2, h3, decide_false, cond_false, or_self, if_false]
        obtain ⟨n0, d0, e0, p1, p2, p3, p4⟩ := minus_ok ha hb
        obtain ⟨n1, d1, e1, q1, q2, q3, q4⟩ := minus_ok ha hc
        rw [e0, e1]
        simp only [Option.bind_some]
        have hK := KK_pos
        have b1 : 0 ≤ n0 * d1 ∧ n0 * d1 ≤ 67092481 * 67092481 := ⟨Int.mul_nonneg p1 (by omega), by
          have := Int.mul_le_mul (show n0 ≤ 67092481 by omega) q3 (by omega) (by omega); omega⟩
        have b2 : 0 ≤ n1 * d0 ∧ n1 * d0 ≤ 67092481 * 67092481 := ⟨Int.mul_nonneg q1 (by omega), by
          have := Int.mul_le_mul (show n1 ≤ 67092481 by omega) p3 (by omega) (by omega); omega⟩
        unfold impl_Angle_compare
        simp only
        rw [w64_id (n := n0 * d1) (by omega) (by omega), w64_id (n := n1 * d0) (by omega) (by omega), impl_cmp]
        have hiff : n0 * d1 < n1 * d0 ↔ dv b a < dv c a := by
          have k1 : n0 * d1 * KK = dv b a * (d0 * d1) := by
            calc n0 * d1 * KK = n0 * KK * d1 := by ac_rfl
              _ = dv b a * d0 * d1 := by rw [p4]
              _ = _ := by ac_rfl
          have k2 : n1 * d0 * KK = dv c a * (d0 * d1) := by
            calc n1 * d0 * KK = n1 * KK * d0 := by ac_rfl
              _ = dv c a * d1 * d0 := by rw [q4]
              _ = _ := by ac_rfl
          rw [← mul_lt_iff hK, k1, k2, mul_lt_iff (Int.mul_pos (by omega) (by omega))]
        simp only [Option.bind_some]
        by_cases h : n0 * d1 < n1 * d0
        · rw [if_pos h, if_pos (hiff.1 h)]; rfl
        · rw [if_neg h, if_neg (fun h' => h (hiff.2 h'))]
          split <;> rfl
theorem beqA (x y : Ang) : ((x.1 == y.1) && ((x.2.1 == y.2.1) && true)) = decide (x = y) := by
  obtain ⟨x1, x2, ⟨⟩⟩ := x
  obtain ⟨y1, y2, ⟨⟩⟩ := y
  by_cases h1 : x1 = y1 <;> by_cases h2 : x2 = y2 <;> simp [h1, h2]
theorem spec_within {x a b : Ang} (hx : isA x) (ha : isA a) (hb : isA b) (h : lt a b) : spec_l01Within x a b = some (decide (lt a x ∧ lt x b)) := by
  unfold spec_l01Within
  rw [spec_less ha hb, decide_eq_true h]
  simp only [Option.bind_some, cond_true]
  rw [spec_less ha hx]
  simp only [Option.bind_some]
  by_cases h1 : lt a x
  · rw [decide_eq_true h1, cond_true, spec_less hx hb]
    simp [h1]
  · rw [decide_eq_false h1, cond_false]
    simp [h1]
theorem inb {n m : Nat} (h : n < m) : (decide ((0 : Int) ≤ (n : Int)) && decide ((n : Int) < (m : Int))) = true := by
  simp only [Bool.and_eq_true, decide_eq_true_eq]; omega
theorem nn {n : Nat} : decide ((0 : Int) ≤ (n : Int)) = true := by simp only [decide_eq_true_eq]; omega
theorem ltb {n m : Nat} (h : n < m) : decide ((n : Int) < (m : Int)) = true := by simp only [decide_eq_true_eq]; omega
theorem nltb {n m : Nat} (h : ¬ n < m) : decide ((n : Int) < (m : Int)) = false := by simp only [decide_eq_false_iff_not]; omega
theorem w64_succ {n : Nat} (h : n < 4611686018427387904) : w64 ((n : Int) + 1) = ((n + 1 : Nat) : Int) := by rw [w64_id (by omega) (by omega)]; omega
theorem w64_pred {n : Nat} (h : n < 4611686018427387904) (h0 : 0 < n) : w64 ((n : Int) - 1) = ((n - 1 : Nat) : Int) := by rw [w64_id (by omega) (by omega)]; omega

open Classical
def Asc (xs : List Ang) : Prop := (∀ x ∈ xs, isA x) ∧ xs.Pairwise fun x y => val x < val y
theorem asc_ext {xs ys : List Ang} (hx : Asc xs) (hy : Asc ys) (h : ∀ a, a ∈ xs ↔ a ∈ ys) : xs = ys := by
  have n1 : xs.Nodup := hx.2.imp fun h e => by rw [e] at h; omega
  have n2 : ys.Nodup := hy.2.imp fun h e => by rw [e] at h; omega
  have hp : xs.Perm ys := (List.perm_ext_iff_of_nodup n1 n2).2 h
  exact List.Perm.eq_of_pairwise (le := fun x y => val x < val y) (fun a b _ _ h1 h2 => by omega) hx.2 hy.2 hp
abbrev dA : Ang := ((0 : Int), (0 : Int), ())
abbrev ea (xs : List Ang) (i : Nat) : Ang := xs.getD i dA
theorem ea_mem {xs : List Ang} {i : Nat} (h : i < xs.length) : ea xs i ∈ xs := by rw [ea, getD_at h]; exact List.getElem_mem h
/-- What is sorted: ascending, with repeats. -/
def Up (xs : List Ang) : Prop := (∀ x ∈ xs, isA x) ∧ ∀ i j, i < j → j < xs.length → val (ea xs i) ≤ val (ea xs j)
theorem ordered_ang {xs : List Ang} (h : ∀ x ∈ xs, isA x) (hl : xs.length < 4611686018427387904) : Ordered (fun x y => impl_Angle_compare x y) xs := by
  have key : ∀ x ∈ xs, ∀ y ∈ xs, ltO (fun x y => impl_Angle_compare x y) x y = decide (val x < val y) := by
    intro x hx y hy
    unfold ltO
    simp only [impl_compare (h x hx) (h y hy)]
    apply decide_eq_decide.2
    unfold cmpA
    rw [← lt_val (h x hx) (h y hy)]
    by_cases h1 : lt x y
    · simp [h1]
    · by_cases h2 : lt y x <;> simp [h1, h2]
  refine ⟨hl, fun x hx y hy => ⟨_, impl_compare (h x hx) (h y hy)⟩, fun x hx => ?_, fun x hx y hy z hz h1 h2 => ?_, fun x hx y hy z hz h1 h2 => ?_⟩
  · rw [key x hx x hx]; exact decide_eq_false (by omega)
  · rw [key x hx y hy, decide_eq_true_eq] at h1
    rw [key y hy z hz, decide_eq_true_eq] at h2
    rw [key x hx z hz, decide_eq_true_eq]; omega
  · rw [key x hx y hy, decide_eq_false_iff_not] at h1
    rw [key y hy z hz, decide_eq_false_iff_not] at h2
    rw [key x hx z hz, decide_eq_false_iff_not]; omega
theorem sort_ang {xs : List Ang} (h : ∀ x ∈ xs, isA x) (hl : xs.length < 4611686018427387904) : ∃ ys, sortOf (fun x y => impl_Angle_compare x y) xs = some ys ∧ ys.Perm xs ∧ Up ys := by
  obtain ⟨ys, h1, h2, h3⟩ := sortOf_ok (ordered_ang h hl)
  have hy : ∀ y ∈ ys, isA y := fun y hy => h y (h2.mem_iff.1 hy)
  refine ⟨ys, h1, h2, hy, fun i j hij hj => ?_⟩
  have h4 := (List.pairwise_iff_getElem.1 h3) i j (by omega) hj hij
  have e1 : ea ys i = ys[i] := getD_at (by omega)
  have e2 : ea ys j = ys[j] := getD_at hj
  rw [e1, e2]
  have i1 := hy _ (List.getElem_mem (l := ys) (n := i) (by omega))
  have i2 := hy _ (List.getElem_mem (l := ys) (n := j) hj)
  unfold ltO at h4
  simp only [impl_compare i2 i1, decide_eq_false_iff_not] at h4
  unfold cmpA at h4
  by_cases h5 : lt ys[j] ys[i]
  · simp [h5] at h4
  · have h6 : ¬ val ys[j] < val ys[i] := fun h => h5 ((lt_val i2 i1).2 h)
    omega
theorem ea_set {xs : List Ang} {i j : Nat} {x : Ang} : ea (xs.set i x) j = if i = j ∧ j < xs.length then x else ea xs j := by
  unfold ea
  simp only [List.getD_eq_getElem?_getD, List.getElem?_set]
  by_cases h : i = j
  · subst h
    by_cases h2 : i < xs.length
    · simp [h2]
    · simp [h2]
  · simp [h]
theorem ea_take {xs : List Ang} {n k : Nat} (hk : k < n) : ea (xs.take n) k = ea xs k := by
  unfold ea
  simp only [List.getD_eq_getElem?_getD, List.getElem?_take, hk, if_true]
/-- The first k are ascending, and are what the first m were. -/
def Part (xs ys : List Ang) (k m : Nat) : Prop := (∀ i j, i < j → j < k → val (ea ys i) < val (ea ys j)) ∧ (∀ j, j < k → ∃ i, i < m ∧ ea ys j = ea xs i) ∧ (∀ i, i < m → ∃ j, j < k ∧ ea ys j = ea xs i)
theorem part_done {xs ys : List Ang} {k : Nat} (hx : Up xs) (hk : k ≤ ys.length) (h : Part xs ys k xs.length) : Asc (ys.take k) ∧ ∀ b, b ∈ ys.take k ↔ b ∈ xs := by
  obtain ⟨h1, h2, h3⟩ := h
  have hl : (ys.take k).length = k := by simp; omega
  have hm : ∀ b, b ∈ ys.take k ↔ b ∈ xs := by
    intro b
    constructor
    · intro hb
      obtain ⟨j, hj, rfl⟩ := List.getElem_of_mem hb
      obtain ⟨i, hi, e⟩ := h2 j (by omega)
      rw [← getD_at (d := dA) hj]
      show ea (ys.take k) j ∈ xs
      rw [ea_take (by omega), e]
      exact ea_mem hi
    · intro hb
      obtain ⟨i, hi, rfl⟩ := List.getElem_of_mem hb
      obtain ⟨j, hj, e⟩ := h3 i hi
      rw [← getD_at (d := dA) hi]
      show ea xs i ∈ ys.take k
      rw [← e, ← ea_take hj]
      exact ea_mem (by omega)
  refine ⟨⟨fun x hx' => hx.1 x ((hm x).1 hx'), ?_⟩, hm⟩
  rw [List.pairwise_iff_getElem]
  intro i j hi hj hij
  have := h1 i j hij (by omega)
  rw [← ea_take (n := k) (by omega), ← ea_take (n := k) (show j < k by omega)] at this
  rwa [ea, ea, getD_at hi, getD_at hj] at this

theorem part_same {xs ys : List Ang} {k m : Nat} (h : Part xs ys k m) {i : Nat} (hi : i < k) (he : ea ys i = ea xs m) : Part xs ys k (m + 1) := by
  refine ⟨h.1, fun j hj => ?_, fun j hj => ?_⟩
  · obtain ⟨i', h1, h2⟩ := h.2.1 j hj
    exact ⟨i', by omega, h2⟩
  · by_cases e : j = m
    · subst e; exact ⟨i, hi, he⟩
    · exact h.2.2 j (by omega)
theorem part_new {xs ys : List Ang} {k m : Nat} (hx : Up xs) (hm : m < xs.length) (h : Part xs ys k m) (hk : 0 < k) (hlast : ea ys (k - 1) = ea xs (m - 1)) (h0 : 0 < m) (hne : ea xs m ≠ ea xs (m - 1)) (hky : k < ys.length) :
    Part xs (ys.set k (ea xs m)) (k + 1) (m + 1) := by
  have hold : ∀ j, j < k → ea (ys.set k (ea xs m)) j = ea ys j := fun j hj => by rw [ea_set, if_neg (fun e => by omega)]
  have hnew : ea (ys.set k (ea xs m)) k = ea xs m := by rw [ea_set, if_pos ⟨rfl, hky⟩]
  have v1 := hx.1 _ (ea_mem hm)
  have v2 := hx.1 _ (ea_mem (show m - 1 < xs.length by omega))
  have v3 : val (ea xs (m - 1)) ≤ val (ea xs m) := hx.2 _ _ (by omega) hm
  have v4 : val (ea xs m) ≠ val (ea xs (m - 1)) := fun e => hne (val_inj v1 v2 e)
  refine ⟨fun i j hij hj => ?_, fun j hj => ?_, fun i hi => ?_⟩
  · by_cases e : j = k
    · subst e
      rw [hnew, hold i hij]
      have : val (ea ys i) ≤ val (ea ys (j - 1)) := by
        by_cases e2 : i = j - 1
        · rw [e2]; omega
        · have := h.1 i (j - 1) (by omega) (by omega); omega
      rw [hlast] at this
      omega
    · rw [hold i (by omega), hold j (by omega)]
      exact h.1 i j hij (by omega)
  · by_cases e : j = k
    · subst e; exact ⟨m, by omega, hnew⟩
    · obtain ⟨i, h1, h2⟩ := h.2.1 j (by omega)
      exact ⟨i, by omega, by rw [hold j (by omega)]; exact h2⟩
  · by_cases e : i = m
    · subst e; exact ⟨k, by omega, hnew⟩
    · obtain ⟨j, h1, h2⟩ := h.2.2 i (by omega)
      exact ⟨j, by omega, by rw [hold j h1]; exact h2⟩
theorem compact_in {xs : List Ang} (hx : Up xs) (hlen : xs.length ≤ 1000000) {k0 : Nat} (hk0 : 0 < k0) (hk1 : k0 < xs.length) (hP : Part xs xs k0 (k0 + 1)) (he : ea xs (k0 - 1) = ea xs k0) :
    ∃ (ys : List Ang) (k : Nat), loop slices_Compact__impl_Angle_impl_Angle_l1 (xs, (k0 : Int), k0, xs.length, (1 : Int), k0, xs.length, ()) = some (ys, (k : Int), ()) ∧ ys.length = xs.length ∧ k ≤ xs.length ∧ Part xs ys k xs.length := by
  obtain ⟨r, h1, ys, k, rfl, h2, h3, h4⟩ := loop_inv (step := slices_Compact__impl_Angle_impl_Angle_l1)
    (fun s => ∃ (ys : List Ang) (k k2 : Nat), s = (ys, (k : Int), k0, xs.length, (k2 : Int), k0, xs.length, ()) ∧ ys.length = xs.length ∧ 1 ≤ k2 ∧ k0 + k2 ≤ xs.length ∧ 0 < k ∧ k < k0 + k2 ∧ Part xs ys k (k0 + k2) ∧ (∀ p, k0 + k2 ≤ p + 1 → ea ys p = ea xs p) ∧ ea ys (k - 1) = ea xs (k0 + k2 - 1))
    (fun s => xs.length - s.2.2.2.2.1.toNat) (fun r => ∃ (ys : List Ang) (k : Nat), r = (ys, (k : Int), ()) ∧ ys.length = xs.length ∧ k ≤ xs.length ∧ Part xs ys k xs.length) (by
    rintro _ ⟨ys, k, k2, rfl, hy, h2, h3, h4, h5, h6, h7, h8⟩
    have hwl : ((ys.take xs.length).drop k0).length = xs.length - k0 := by simp; omega
    by_cases h : k2 < xs.length - k0
    · right
      have hrd : ea ys (k0 + k2) = ea xs (k0 + k2) := h7 _ (by omega)
      have hrd' : ea ys (k0 + (k2 - 1)) = ea xs (k0 + k2 - 1) := by rw [show k0 + (k2 - 1) = k0 + k2 - 1 by omega]; exact h7 _ (by omega)
      simp only [slices_Compact__impl_Angle_impl_Angle_l1, hwl, ltb h, nn, Bool.and_self, cond_true, Int.toNat_natCast]
      rw [w64_pred (by omega) (by omega)]
      simp only [ltb (show k2 - 1 < xs.length - k0 by omega), nn, Bool.and_self, cond_true, Int.toNat_natCast]
      rw [beqA]
      have e1 : ys.getD (k0 + k2) dA = ea xs (k0 + k2) := hrd
      have e2 : ys.getD (k0 + (k2 - 1)) dA = ea xs (k0 + k2 - 1) := hrd'
      rw [e1, e2]
      by_cases hne : ea xs (k0 + k2) = ea xs (k0 + k2 - 1)
      · rw [decide_eq_true hne, Bool.not_true, cond_false, w64_succ (by omega)]
        refine ⟨_, rfl, ⟨ys, k, k2 + 1, rfl, hy, by omega, by omega, h4, by omega, ?_, fun p hp => h7 p (by omega), ?_⟩, by simp; omega⟩
        · exact part_same h6 (i := k - 1) (by omega) (h8.trans hne.symm)
        · rw [h8]; exact hne.symm
      · rw [decide_eq_false hne, Bool.not_false, cond_true]
        simp only [ltb (show k < ys.length by omega), cond_true]
        rw [w64_succ (by omega), w64_succ (by omega)]
        refine ⟨_, rfl, ⟨ys.set k (ea xs (k0 + k2)), k + 1, k2 + 1, rfl, by simp [hy], by omega, by omega, by omega, by omega, ?_, fun p hp => ?_, ?_⟩, by simp; omega⟩
        · exact part_new hx (by omega) h6 h4 h8 (by omega) hne (by omega)
        · rw [ea_set, if_neg (fun e => by omega)]
          exact h7 p (by omega)
        · rw [Nat.add_sub_cancel, ea_set, if_pos ⟨rfl, by omega⟩]; rfl
    · left
      have : k2 = xs.length - k0 := by omega
      refine ⟨_, by simp only [slices_Compact__impl_Angle_impl_Angle_l1, hwl, nltb h, cond_false], ys, k, rfl, hy, by omega, ?_⟩
      rw [show xs.length = k0 + k2 by omega]
      exact h6) (xs, (k0 : Int), k0, xs.length, (1 : Int), k0, xs.length, ()) ⟨xs, k0, 1, rfl, rfl, Nat.le_refl _, by omega, hk0, by omega, hP, fun p _ => rfl, he⟩
  exact ⟨ys, k, h1, h2, h3, h4⟩
theorem cleared_take {xs : List Ang} {z : Ang} {k n : Nat} (hk : k ≤ xs.length) : (Go.K.cleared xs z k n).take k = xs.take k := by
  unfold Go.K.cleared
  rw [List.take_append_of_le_length (by simp; omega), List.take_take]
  simp
theorem cleared_length {xs : List Ang} {z : Ang} {k : Nat} (hk : k ≤ xs.length) : (Go.K.cleared xs z k xs.length).length = xs.length := by
  unfold Go.K.cleared
  simp; omega
theorem compact_up {xs : List Ang} (hx : Up xs) (hlen : xs.length ≤ 1000000) : ∃ zs, slices_Compact__impl_Angle_impl_Angle xs = some zs ∧ Asc zs ∧ (∀ b, b ∈ zs ↔ b ∈ xs) ∧ zs.length ≤ xs.length := by
  unfold slices_Compact__impl_Angle_impl_Angle
  by_cases h2 : xs.length < 2
  · have : decide (((xs.length : Nat) : Int) < (2 : Int)) = true := by simp only [decide_eq_true_eq]; omega
    rw [this, cond_true]
    refine ⟨xs, rfl, ⟨hx.1, ?_⟩, fun b => Iff.rfl, Nat.le_refl _⟩
    rw [List.pairwise_iff_getElem]
    intro i j hi hj hij
    omega
  have : decide (((xs.length : Nat) : Int) < (2 : Int)) = false := by simp only [decide_eq_false_iff_not]; omega
  rw [this, cond_false]
  obtain ⟨r, h1, h3⟩ := loop_inv (step := slices_Compact__impl_Angle_impl_Angle_l0) (fun s => ∃ k : Nat, s = (xs, (k : Int), ()) ∧ 1 ≤ k ∧ k ≤ xs.length ∧ Part xs xs k k) (fun s => xs.length - s.2.1.toNat)
    (fun r => (∃ ys k m, r = .inl (Go.K.cleared ys dA k ys.length, 0, k, m) ∧ ys.length = xs.length ∧ k ≤ xs.length ∧ Part xs ys k xs.length) ∨ (r = .inr (xs, ()) ∧ Part xs xs xs.length xs.length)) (by
    rintro _ ⟨k, rfl, hk1, hk, hP⟩
    by_cases h : k < xs.length
    · simp only [slices_Compact__impl_Angle_impl_Angle_l0, ltb h, nn, Bool.and_self, cond_true, Int.toNat_natCast]
      rw [w64_pred (by omega) (by omega)]
      simp only [ltb (show k - 1 < xs.length by omega), nn, Bool.and_self, cond_true, Int.toNat_natCast]
      rw [beqA]
      by_cases he : ea xs k = ea xs (k - 1)
      · left
        obtain ⟨ys, k', l1, l2, l3, l4⟩ := compact_in hx hlen (k0 := k) (by omega) h (part_same hP (i := k - 1) (by omega) he.symm) he.symm
        have c0 : (decide ((k : Int) ≤ ((xs.length : Nat) : Int)) && decide (((xs.length : Nat) : Int) ≤ ((xs.length : Nat) : Int))) = true := by simp only [Bool.and_eq_true, decide_eq_true_eq]; omega
        have c1 : decide ((k : Int) ≤ ((xs.length : Nat) : Int)) = true := by simp only [decide_eq_true_eq]; omega
        have c2 : decide (((xs.length : Nat) : Int) ≤ ((xs.length : Nat) : Int)) = true := by simp only [decide_eq_true_eq]; omega
        have c3 : decide ((k' : Int) ≤ ((xs.length : Nat) : Int)) = true := by simp only [decide_eq_true_eq]; omega
        have c4 : decide ((0 : Int) ≤ 0) = true := by simp
        have hcl : (Go.K.cleared ys dA k' ys.length).length = xs.length := by rw [cleared_length (by omega)]; exact l2
        refine ⟨.inl (Go.K.cleared ys dA k' ys.length, 0, k', (0, k', ())), ?_, .inl ⟨ys, k', _, rfl, l2, l3, l4⟩⟩
        rw [show decide (xs.getD k dA = xs.getD (k - 1) dA) = true from decide_eq_true he, cond_true, c1, c2]
        simp only [Bool.and_self, cond_true]
        rw [l1]
        simp only [Option.bind_some, nn, Int.toNat_natCast, l2, c3, c2, Bool.and_self, cond_true]
        rw [l2] at hcl
        rw [hcl, c3]
        rfl
      · right
        rw [show decide (xs.getD k dA = xs.getD (k - 1) dA) = false from decide_eq_false he, cond_false, w64_succ (by omega)]
        refine ⟨_, rfl, ⟨k + 1, rfl, by omega, by omega, ?_⟩, by simp; omega⟩
        have := part_new (ys := xs) hx h hP (by omega) rfl (by omega) he h
        have e : xs.set k (ea xs k) = xs := by
          apply List.ext_getElem?
          intro i
          rw [List.getElem?_set]
          by_cases hi : k = i
          · subst hi
            simp [h, ea]
          · simp [hi]
        rwa [e] at this
    · left
      have : k = xs.length := by omega
      subst this
      exact ⟨_, by simp only [slices_Compact__impl_Angle_impl_Angle_l0, nltb h, cond_false], .inr ⟨rfl, hP⟩⟩) (xs, (1 : Int), ()) ⟨1, rfl, Nat.le_refl _, by omega, fun i j h1 h2 => by omega, fun j hj => ⟨j, hj, rfl⟩, fun i hi => ⟨i, hi, rfl⟩⟩
  rw [h1]
  rcases h3 with ⟨ys, k, m, rfl, h4, h5, h6⟩ | ⟨rfl, h4⟩
  · obtain ⟨p1, p2⟩ := part_done (ys := ys) hx (by omega) h6
    refine ⟨ys.take k, ?_, p1, p2, by simp; omega⟩
    simp only [Option.bind_some, alt]
    rw [cleared_take (by omega)]
    rfl
  · obtain ⟨p1, p2⟩ := part_done (ys := xs) hx (Nat.le_refl _) h4
    rw [List.take_length] at p1 p2
    exact ⟨xs, rfl, p1, p2, Nat.le_refl _⟩
theorem impl_sorted_ok {xs : List Ang} (h : ∀ x ∈ xs, isA x) (hlen : xs.length ≤ 1000000) : ∃ zs, impl_sorted xs = some zs ∧ Asc zs ∧ (∀ b, b ∈ zs ↔ b ∈ xs) ∧ zs.length ≤ xs.length := by
  unfold impl_sorted slices_Values__impl_Angle_impl_Angle slices_SortedFunc_impl_Angle slices_Collect_impl_Angle slices_SortFunc__impl_Angle_impl_Angle collectOf
  have h1 : decide (xs.length * 16 ≤ 140737488355328) = true := by simp only [decide_eq_true_eq]; omega
  obtain ⟨ys, e1, e2, e3⟩ := sort_ang h (by omega)
  obtain ⟨zs, f1, f2, f3, f4⟩ := compact_up e3 (by rw [e2.length_eq]; exact hlen)
  simp only [Option.bind_some, h1, cond_true]
  rw [e1]
  simp only [Option.bind_some]
  rw [f1]
  exact ⟨zs, rfl, f2, fun b => (f3 b).trans e2.mem_iff, by rw [← e2.length_eq]; exact f4⟩
def tab {α : Type} (g : Nat → α) (N : Nat) : List α := (List.range N).map g
section
variable {α : Type} {g h : Nat → α} {N p : Nat} {d v : α}
theorem tab_len : (tab g N).length = N := by simp [tab]
theorem tab_at (hp : p < N) : (tab g N).getD p d = g p := by simp [tab, hp]
theorem tab_ext (hh : ∀ p, p < N → g p = h p) : tab g N = tab h N := List.map_congr_left fun p hp => hh p (List.mem_range.1 hp)
theorem tab_set (hp : p < N) : (tab g N).set p v = tab (fun q => if q = p then v else g q) N := by
  apply List.ext_getElem?
  intro i
  rw [List.getElem?_set]
  unfold tab
  by_cases hi : i < N
  · by_cases e : p = i
    · subst e; simp [hi]
    · have : ¬ i = p := fun h => e h.symm
      simp [hi, e, this]
  · have : ¬ p = i := by omega
    simp [hi, this]
theorem tab_self (l : List α) : tab (fun i => l.getD i d) l.length = l := by
  apply List.ext_getElem?
  intro i
  unfold tab
  by_cases hi : i < l.length
  · simp [hi]
  · simp [hi]
theorem tab_rep : List.replicate N v = tab (fun _ => v) N := by
  apply List.ext_getElem?
  intro i
  unfold tab
  by_cases hi : i < N <;> simp [hi]
end
theorem eq_angle (a : Ang) : laws_eqAngle a a = some true := by
  unfold laws_eqAngle; simp
theorem eq_angleS {a : List Ang} (h : a.length ≤ 1048576) : laws_eqAngleS a a = some true := by
  unfold laws_eqAngleS
  simp only [bne_self_eq_false, cond_false]
  have := loop_count (step := laws_eqAngleS_l0) (fun n => (a, a, (n : Int), ())) a.length (.inr ()) (by
    intro n hn
    simp only [laws_eqAngleS_l0, ltb hn, nn, Bool.and_self, cond_true, Int.toNat_natCast]
    rw [eq_angle]
    simp only [Option.bind_some, Bool.not_true, cond_false]
    rw [w64_succ (by omega)]) (by simp only [laws_eqAngleS_l0, nltb (Nat.lt_irrefl a.length), cond_false]) 0 (Nat.zero_le _)
  have t2 : loop laws_eqAngleS_l0 (a, a, (0 : Int), ()) = some (.inr ()) := this
  rw [t2]
  rfl
theorem eq_angleSS {a : List (List Ang)} (h : a.length ≤ 1048576) (hc : ∀ c ∈ a, c.length ≤ 1048576) : laws_eqAngleSS a a = some true := by
  unfold laws_eqAngleSS
  simp only [bne_self_eq_false, cond_false]
  have := loop_count (step := laws_eqAngleSS_l0) (fun n => (a, a, (n : Int), ())) a.length (.inr ()) (by
    intro n hn
    simp only [laws_eqAngleSS_l0, ltb hn, nn, Bool.and_self, cond_true, Int.toNat_natCast]
    rw [eq_angleS (by rw [getD_at hn]; exact hc _ (List.getElem_mem hn))]
    simp only [Option.bind_some, Bool.not_true, cond_false]
    rw [w64_succ (by omega)]) (by simp only [laws_eqAngleSS_l0, nltb (Nat.lt_irrefl a.length), cond_false]) 0 (Nat.zero_le _)
  have t2 : loop laws_eqAngleSS_l0 (a, a, (0 : Int), ()) = some (.inr ()) := this
  rw [t2]
  rfl
theorem w64_add1 {n : Int} (h1 : 0 ≤ n) (h2 : n ≤ 1000000000000) : w64 (n + 1) = n + 1 := w64_id (by omega) (by omega)
end Go.K.Pure

/- Plain laws of portraits, part B: loops that look for the first; sizes; copies; slices.Concat. -/
set_option linter.unusedVariables false
set_option linter.unusedSimpArgs false
namespace Go.K.Pure
open Classical

/-- One or the other. -/
noncomputable def sel {α : Type} (p : Prop) (x y : α) : α := @ite _ p (Classical.propDecidable p) x y
theorem sel_pos {α : Type} {p : Prop} (h : p) {x y : α} : sel p x y = x := if_pos h
theorem sel_neg {α : Type} {p : Prop} (h : ¬ p) {x y : α} : sel p x y = y := if_neg h
theorem sel_congr {α : Type} {p q : Prop} (h : p ↔ q) {x y : α} : sel p x y = sel q x y := by rw [propext h]
theorem decide_eq_sel (p : Prop) [Decidable p] : decide p = sel p true false := by
  by_cases h : p
  · rw [sel_pos h, decide_eq_true h]
  · rw [sel_neg h, decide_eq_false h]
/-- A loop that stops with one answer at the first place where something holds. -/
theorem loop_any {α β : Type} {step : α → Option (Ctl α β)} (s : Nat → α) (n : Nat) (b c : β) (P : Nat → Prop)
    (h1 : ∀ i, i < n → (∀ j, j < i → ¬ P j) → step (s i) = some (sel (P i) (.stop c) (.next (s (i + 1))))) (h2 : (∀ j, j < n → ¬ P j) → step (s n) = some (.stop b)) : loop step (s 0) = some (sel (∃ i, i < n ∧ P i) c b) := by
  have key : ∀ k i, n - i = k → i ≤ n → (∀ j, j < i → ¬ P j) → loop step (s i) = some (sel (∃ j, j < n ∧ P j) c b) := by
    intro k
    induction k with
    | zero =>
      intro i hk hi hj
      have : i = n := by omega
      subst this
      rw [loop_eq, h2 hj, sel_neg (fun ⟨j, h3, h4⟩ => hj j h3 h4)]
    | succ k ih =>
      intro i hk hi hj
      have h3 := h1 i (by omega) hj
      by_cases hp : P i
      · rw [sel_pos hp] at h3
        rw [loop_eq, h3, sel_pos ⟨i, by omega, hp⟩]
      · rw [sel_neg hp] at h3
        rw [loop_eq, h3]
        exact ih (i + 1) (by omega) (by omega) fun j hj' => by
          by_cases e : j = i
          · subst e; exact hp
          · exact hj j (by omega)
  exact key _ 0 rfl (Nat.zero_le _) fun j h => by omega
abbrev AA := List (List Ang)
abbrev sa (S : AA) (i : Nat) : List Ang := S.getD i ([] : List Ang)
theorem sa_mem {S : AA} {i : Nat} (h : i < S.length) : sa S i ∈ S := by rw [sa, getD_at h]; exact List.getElem_mem h
theorem mem_sa {S : AA} {s : List Ang} (h : s ∈ S) : ∃ i, i < S.length ∧ sa S i = s := by
  obtain ⟨i, hi, rfl⟩ := List.getElem_of_mem h
  exact ⟨i, hi, getD_at hi⟩
theorem mem_ea {xs : List Ang} {x : Ang} (h : x ∈ xs) : ∃ i, i < xs.length ∧ ea xs i = x := by
  obtain ⟨i, hi, rfl⟩ := List.getElem_of_mem h
  exact ⟨i, hi, getD_at hi⟩
def fl (S : AA) (i : Nat) : List Ang := (S.take i).flatten
theorem fl_zero (S : AA) : fl S 0 = [] := by simp [fl]
theorem fl_succ {S : AA} {i : Nat} (h : i < S.length) : fl S (i + 1) = fl S i ++ sa S i := by
  unfold fl
  rw [List.take_succ_eq_append_getElem h, List.flatten_append, sa, getD_at h]
  simp
theorem fl_all (S : AA) : fl S S.length = S.flatten := by simp [fl]
theorem fl_mono {S : AA} {i j : Nat} (h : i ≤ j) : (fl S i).length ≤ (fl S j).length := by
  unfold fl
  have : S.take i = (S.take j).take i := by rw [List.take_take, Nat.min_eq_left h]
  rw [this]
  generalize S.take j = T
  conv => rhs; rw [← List.take_append_drop i T, List.flatten_append, List.length_append]
  omega
theorem len_fl {S : AA} {i : Nat} (h : i < S.length) : (sa S i).length ≤ S.flatten.length := by
  have h1 := fl_succ h
  have h2 := fl_mono (S := S) (i := i + 1) (j := S.length) (by omega)
  rw [h1, fl_all, List.length_append] at h2
  omega
theorem concat_ok {S : AA} (h : S.length ≤ 1048576) (hJ : S.flatten.length ≤ 1048576) : slices_Concat__impl_Angle_impl_Angle S = some S.flatten := by
  unfold slices_Concat__impl_Angle_impl_Angle
  have hb : ∀ n, n ≤ S.length → (fl S n).length ≤ 1048576 := fun n hn => by
    have := fl_mono (S := S) hn
    rw [fl_all] at this; omega
  have l0 := loop_count (step := slices_Concat__impl_Angle_impl_Angle_l0) (fun n => (S, ((fl S n).length : Int), S, ((S.length : Nat) : Int), (n : Int), ())) S.length (S, ((fl S S.length).length : Int), ()) (by
    intro n hn
    have e1 : (fl S (n + 1)).length = (fl S n).length + (sa S n).length := by rw [fl_succ hn, List.length_append]
    have e2 := hb (n + 1) hn
    simp only [slices_Concat__impl_Angle_impl_Angle_l0, ltb hn, nn, Bool.and_self, cond_true, Int.toNat_natCast]
    have hd : (S.getD n []).length = (sa S n).length := rfl
    have hw : w64 (((fl S n).length : Int) + ((S.getD n []).length : Int)) = ((fl S n).length : Int) + ((S.getD n []).length : Int) := w64_id (by omega) (by omega)
    have e3 : ¬ ((fl S n).length : Int) + ((S.getD n []).length : Int) < 0 := by omega
    simp only [hw, decide_eq_false e3, cond_false]
    rw [w64_succ (by omega)]
    congr 4
    omega) (by simp only [slices_Concat__impl_Angle_impl_Angle_l0, nltb (Nat.lt_irrefl S.length), cond_false]) 0 (Nat.zero_le _)
  have t0 : loop slices_Concat__impl_Angle_impl_Angle_l0 (S, (0 : Int), S, ((S.length : Nat) : Int), (0 : Int), ()) = some (S, ((fl S S.length).length : Int), ()) := by
    rw [← l0]; simp [fl_zero]
  rw [t0]
  simp only [Option.bind_some]
  have hg : slices_Grow__impl_Angle_impl_Angle ([] : List Ang) ((fl S S.length).length : Int) = some [] := by
    unfold slices_Grow__impl_Angle_impl_Angle growOf
    have := hb S.length (Nat.le_refl _)
    have e : decide (((fl S S.length).length : Int) * ((16 : Nat) : Int) ≤ 140737488355328) = true := decide_eq_true (by omega)
    rw [e, nn]; rfl
  rw [hg]
  simp only [Option.bind_some]
  have l1 := loop_count (step := slices_Concat__impl_Angle_impl_Angle_l1) (fun n => (S, fl S n, S, ((S.length : Nat) : Int), (n : Int), ())) S.length (fl S S.length, ()) (by
    intro n hn
    have e1 : (fl S (n + 1)).length = (fl S n).length + (sa S n).length := by rw [fl_succ hn, List.length_append]
    have e2 := hb (n + 1) hn
    simp only [slices_Concat__impl_Angle_impl_Angle_l1, ltb hn, nn, Bool.and_self, cond_true, Int.toNat_natCast]
    have e3 : decide (((fl S n).length + (S.getD n []).length) * 16 ≤ 140737488355328) = true := decide_eq_true (by show ((fl S n).length + (sa S n).length) * 16 ≤ _; omega)
    rw [e3, cond_true, w64_succ (by omega), fl_succ hn]) (by simp only [slices_Concat__impl_Angle_impl_Angle_l1, nltb (Nat.lt_irrefl S.length), cond_false]) 0 (Nat.zero_le _)
  have t1 : loop slices_Concat__impl_Angle_impl_Angle_l1 (S, ([] : List Ang), S, ((S.length : Nat) : Int), (0 : Int), ()) = some (fl S S.length, ()) := by
    rw [← l1, fl_zero]; rfl
  rw [t1]
  simp only [Option.bind_some, fl_all]
end Go.K.Pure

/- Plain laws of portraits, part C: doubling. -/
set_option linter.unusedVariables false
set_option linter.unusedSimpArgs false
namespace Go.K.Pure
open Classical

/-- An angle out of natural numbers, in lowest terms. -/
def angN (n d : Nat) : Ang := (((n % d / Nat.gcd (n % d) d : Nat) : Int), ((d / Nat.gcd (n % d) d : Nat) : Int), ())
theorem isA_nat {a : Ang} (h : isA a) : ∃ n d : Nat, a = ((n : Int), (d : Int), ()) ∧ 1 ≤ d ∧ d ≤ 8191 ∧ n < d ∧ Nat.gcd n d = 1 := by
  obtain ⟨x, y, ⟨⟩⟩ := a
  obtain ⟨h1, h2, h3, h4, h5⟩ := h
  simp only at h1 h2 h3 h4 h5
  obtain ⟨n, rfl⟩ := Int.eq_ofNat_of_zero_le h3
  obtain ⟨d, rfl⟩ := Int.eq_ofNat_of_zero_le (show 0 ≤ y by omega)
  exact ⟨n, d, rfl, by omega, by omega, by omega, h5⟩
theorem isA_of {n d : Nat} (h1 : 1 ≤ d) (h2 : d ≤ 8191) (h3 : n < d) (h4 : Nat.gcd n d = 1) : isA ((n : Int), (d : Int), ()) := by
  refine ⟨?_, ?_, ?_, ?_, h4⟩ <;> simp only <;> omega
theorem w64_nat {n : Nat} (h : n < 9223372036854775808) : w64 (n : Int) = (n : Int) := w64_id (by omega) (by omega)
theorem e0_false {n : Nat} (h : 0 < n) : (((n : Nat) : Int) == 0) = false := by simp; omega
theorem tmod_nat (n d : Nat) : ((n : Int)).tmod (d : Int) = ((n % d : Nat) : Int) := by
  rw [Int.tmod_eq_emod_of_nonneg (by omega)]; rfl
theorem tdiv_nat (n d : Nat) : ((n : Int)).tdiv (d : Int) = ((n / d : Nat) : Int) := by
  rw [Int.tdiv_eq_ediv_of_nonneg (by omega)]; rfl
theorem add_mod_nat {n d : Nat} : ((n % d : Nat) : Int) + (d : Int) = ((n % d + d : Nat) : Int) := by omega
theorem impl_angN {n d : Nat} (hd : 0 < d) (hd2 : d ≤ 67092481) (hn : n ≤ 67092481) : impl_angle (n : Int) (d : Int) = some (angN n d) := by
  have m := Nat.mod_lt n hd
  unfold impl_angle
  simp only [e0_false hd, Bool.not_false, cond_true]
  rw [tmod_nat, add_mod_nat, w64_nat (by omega), tmod_nat, Nat.add_mod_right, Nat.mod_mod, impl_div (by omega) (by omega)]
  simp only [Option.bind_some]
  have hg : Int.gcd (d : Int) ((n % d : Nat) : Int) = Nat.gcd (n % d) d := Nat.gcd_comm _ _
  rw [hg]
  have g0 : 0 < Nat.gcd (n % d) d := Nat.gcd_pos_of_pos_right _ hd
  simp only [e0_false g0, Bool.not_false, cond_true]
  have q1 : n % d / Nat.gcd (n % d) d ≤ n % d := Nat.div_le_self _ _
  have q2 : d / Nat.gcd (n % d) d ≤ d := Nat.div_le_self _ _
  rw [tdiv_nat, tdiv_nat, w64_nat (Nat.lt_of_le_of_lt q1 (by omega)), w64_nat (Nat.lt_of_le_of_lt q2 (by omega))]
  rfl
theorem spec_angN {n d : Nat} (hd : 0 < d) (hd2 : d ≤ 67092481) (hn : n ≤ 67092481) : spec_l01Of (n : Int) (d : Int) = some (angN n d) := by
  have m := Nat.mod_lt n hd
  unfold spec_l01Of
  simp only [e0_false hd, Bool.not_false, cond_true]
  rw [tmod_nat, add_mod_nat, w64_nat (by omega), tmod_nat, Nat.add_mod_right, Nat.mod_mod, spec_div (by omega) (by omega)]
  simp only [Option.bind_some]
  have hg : Int.gcd ((n % d : Nat) : Int) (d : Int) = Nat.gcd (n % d) d := rfl
  rw [hg]
  have g0 : 0 < Nat.gcd (n % d) d := Nat.gcd_pos_of_pos_right _ hd
  simp only [e0_false g0, Bool.not_false, cond_true]
  have q1 : n % d / Nat.gcd (n % d) d ≤ n % d := Nat.div_le_self _ _
  have q2 : d / Nat.gcd (n % d) d ≤ d := Nat.div_le_self _ _
  rw [tdiv_nat, tdiv_nat, w64_nat (Nat.lt_of_le_of_lt q1 (by omega)), w64_nat (Nat.lt_of_le_of_lt q2 (by omega))]
  rfl
def dbl (a : Ang) : Ang := angN (2 * a.1.toNat) a.2.1.toNat
theorem dbl_nat {n d : Nat} : dbl ((n : Int), (d : Int), ()) = angN (2 * n) d := rfl
theorem impl_dbl {a : Ang} (h : isA a) : impl_Angle_double a = some (dbl a) := by
  obtain ⟨n, d, rfl, h1, h2, h3, h4⟩ := isA_nat h
  unfold impl_Angle_double
  rw [w64_id (n := 2 * (n : Int)) (by omega) (by omega), show 2 * (n : Int) = ((2 * n : Nat) : Int) by omega]
  show (impl_angle _ (d : Int)).bind _ = _
  rw [impl_angN (by omega) (by omega) (by omega)]
  rfl
theorem spec_dbl {a : Ang} (h : isA a) : spec_l01Double a = some (dbl a) := by
  obtain ⟨n, d, rfl, h1, h2, h3, h4⟩ := isA_nat h
  unfold spec_l01Double
  rw [w64_id (n := 2 * (n : Int)) (by omega) (by omega), show 2 * (n : Int) = ((2 * n : Nat) : Int) by omega]
  show (spec_l01Of _ (d : Int)).bind _ = _
  rw [spec_angN (by omega) (by omega) (by omega)]
  rfl
theorem dbl_odd {n d : Nat} (h1 : 1 ≤ d) (h4 : Nat.gcd n d = 1) (ho : d % 2 = 1) : dbl ((n : Int), (d : Int), ()) = (((2 * n % d : Nat) : Int), (d : Int), ()) ∧ Nat.gcd (2 * n % d) d = 1 := by
  have g : Nat.gcd (2 * n % d) d = 1 := by
    rw [← Nat.gcd_rec, Nat.gcd_comm]
    have c2 : Nat.Coprime 2 d := by
      have : Nat.gcd 2 d = 1 := by rw [Nat.gcd_rec, ho]; rfl
      exact this
    exact Nat.Coprime.mul_left c2 h4
  rw [dbl_nat, angN, g, Nat.div_one, Nat.div_one]
  exact ⟨rfl, rfl⟩
theorem dbl_even {n e : Nat} (h1 : 1 ≤ e) (h4 : Nat.gcd n (2 * e) = 1) : dbl ((n : Int), ((2 * e : Nat) : Int), ()) = (((n % e : Nat) : Int), (e : Int), ()) ∧ Nat.gcd (n % e) e = 1 := by
  have g : Nat.gcd (n % e) e = 1 := by
    rw [← Nat.gcd_rec, Nat.gcd_comm]
    exact Nat.Coprime.coprime_dvd_right (Nat.dvd_mul_left e 2) h4
  have m : 2 * n % (2 * e) = 2 * (n % e) := Nat.mul_mod_mul_left 2 n e
  rw [dbl_nat, angN, m, Nat.gcd_mul_left, g, Nat.mul_one, Nat.mul_div_cancel_left _ (by omega), Nat.mul_div_cancel_left _ (by omega)]
  exact ⟨rfl, rfl⟩
theorem dbl_isA {a : Ang} (h : isA a) : isA (dbl a) := by
  obtain ⟨n, d, rfl, h1, h2, h3, h4⟩ := isA_nat h
  rcases Nat.mod_two_eq_zero_or_one d with he | ho
  · obtain ⟨e, rfl⟩ : ∃ e, d = 2 * e := ⟨d / 2, by omega⟩
    obtain ⟨e1, e2⟩ := dbl_even (n := n) (e := e) (by omega) h4
    rw [e1]
    exact isA_of (by omega) (by omega) (Nat.mod_lt _ (by omega)) e2
  · obtain ⟨e1, e2⟩ := dbl_odd h1 h4 ho
    rw [e1]
    exact isA_of h1 h2 (Nat.mod_lt _ (by omega)) e2
/-- Times doubled. -/
def dblN (a : Ang) : Nat → Ang
  | 0 => a
  | n + 1 => dbl (dblN a n)
theorem dblN_isA {a : Ang} (h : isA a) : ∀ n, isA (dblN a n)
  | 0 => h
  | n + 1 => dbl_isA (dblN_isA h n)
/-- How often 2 divides. -/
def v2 : Nat → Nat → Nat
  | 0, _ => 0
  | f + 1, d => if d % 2 = 0 then v2 f (d / 2) + 1 else 0
def pre (a : Ang) : Nat := v2 13 a.2.1.toNat
theorem v2_odd {f d : Nat} (h : d % 2 = 1) : v2 f d = 0 := by
  cases f with
  | zero => rfl
  | succ f => rw [v2, if_neg (by omega)]
theorem v2_s (f d : Nat) : v2 (f + 1) d = if d % 2 = 0 then v2 f (d / 2) + 1 else 0 := rfl
theorem v2_fuel : ∀ {f d : Nat}, 1 ≤ d → d < 2 ^ f → v2 (f + 1) d = v2 f d
  | 0, d, h1, h2 => by omega
  | f + 1, d, h1, h2 => by
    rw [v2_s (f + 1) d, v2_s f d]
    by_cases h : d % 2 = 0
    · rw [if_pos h, if_pos h, v2_fuel (f := f) (by omega) (by rw [Nat.pow_succ] at h2; omega)]
    · rw [if_neg h, if_neg h]
theorem v2_half {f e : Nat} (h1 : 1 ≤ e) (h2 : e < 2 ^ f) : v2 (f + 1) (2 * e) = v2 (f + 1) e + 1 := by
  rw [v2_fuel h1 h2]
  conv => lhs; rw [v2]
  rw [if_pos (by omega), Nat.mul_div_cancel_left _ (by omega)]
/-- Doubling takes one 2 out of the denominator, if there is one. -/
theorem pre_dbl {a : Ang} (h : isA a) : pre (dbl a) = pre a - 1 := by
  obtain ⟨n, d, rfl, h1, h2, h3, h4⟩ := isA_nat h
  rcases Nat.mod_two_eq_zero_or_one d with he | ho
  · obtain ⟨e, rfl⟩ : ∃ e, d = 2 * e := ⟨d / 2, by omega⟩
    obtain ⟨e1, e2⟩ := dbl_even (n := n) (e := e) (by omega) h4
    rw [e1]
    show v2 13 e = v2 13 (2 * e) - 1
    rw [v2_half (f := 12) (by omega) (by omega)]
    rfl
  · obtain ⟨e1, e2⟩ := dbl_odd h1 h4 ho
    rw [e1]
    show v2 13 d = v2 13 d - 1
    rw [v2_odd ho]
theorem pre_dblN {a : Ang} (h : isA a) : ∀ n, pre (dblN a n) = pre a - n
  | 0 => rfl
  | n + 1 => by
    show pre (dbl (dblN a n)) = _
    rw [pre_dbl (dblN_isA h n), pre_dblN h n]; omega
theorem pre_zero {a : Ang} (h : isA a) (h0 : pre a = 0) : a.2.1.toNat % 2 = 1 := by
  obtain ⟨n, d, rfl, h1, h2, h3, h4⟩ := isA_nat h
  show d % 2 = 1
  have h0' : v2 13 d = 0 := h0
  rw [v2] at h0'
  by_cases he : d % 2 = 0
  · rw [if_pos he] at h0'; omega
  · omega
/-- Doubling parts what has odd denominators. -/
theorem dbl_inj {a b : Ang} (ha : isA a) (hb : isA b) (pa : pre a = 0) (pb : pre b = 0) (h : dbl a = dbl b) : a = b := by
  have oa := pre_zero ha pa
  have ob := pre_zero hb pb
  obtain ⟨n, d, rfl, h1, h2, h3, h4⟩ := isA_nat ha
  obtain ⟨m, e, rfl, k1, k2, k3, k4⟩ := isA_nat hb
  have oa' : d % 2 = 1 := oa
  have ob' : e % 2 = 1 := ob
  rw [(dbl_odd h1 h4 oa').1, (dbl_odd k1 k4 ob').1] at h
  simp only [Prod.mk.injEq, and_true] at h
  obtain ⟨e1, e2⟩ := h
  have hde : d = e := by omega
  subst hde
  have e3 : 2 * n % d = 2 * m % d := by omega
  have hnm : n = m := by
    have s1 : 2 * n % d = if 2 * n < d then 2 * n else 2 * n - d := by
      split
      · exact Nat.mod_eq_of_lt (by omega)
      · rw [Nat.mod_eq_sub_mod (by omega), Nat.mod_eq_of_lt (by omega)]
    have s2 : 2 * m % d = if 2 * m < d then 2 * m else 2 * m - d := by
      split
      · exact Nat.mod_eq_of_lt (by omega)
      · rw [Nat.mod_eq_sub_mod (by omega), Nat.mod_eq_of_lt (by omega)]
    rw [s1, s2] at e3
    split at e3 <;> split at e3 <;> omega
  rw [hnm]
end Go.K.Pure

/- Plain laws of portraits, part D: places in lists; orbits. -/
set_option linter.unusedVariables false
set_option linter.unusedSimpArgs false
namespace Go.K.Pure
open Classical

/-- The first place. -/
noncomputable def fi (a : Ang) : List Ang → Nat
  | [] => 0
  | x :: r => if x = a then 0 else fi a r + 1
theorem fi_spec {a : Ang} : ∀ {xs : List Ang}, a ∈ xs → fi a xs < xs.length ∧ ea xs (fi a xs) = a ∧ ∀ j, j < fi a xs → ea xs j ≠ a
  | [], h => by cases h
  | x :: r, h => by
    by_cases e : x = a
    · rw [fi, if_pos e]
      exact ⟨by simp, by simpa [ea] using e, fun j h => by omega⟩
    · rw [fi, if_neg e]
      have hr : a ∈ r := by
        rcases List.mem_cons.1 h with h | h
        · exact absurd h.symm e
        · exact h
      obtain ⟨h1, h2, h3⟩ := fi_spec hr
      refine ⟨by simp; omega, by simpa [ea] using h2, fun j hj => ?_⟩
      cases j with
      | zero => simpa [ea] using e
      | succ j =>
        have := h3 j (by omega)
        simpa [ea] using this
theorem fi_eq {a : Ang} {xs : List Ang} {k : Nat} (hk : k < xs.length) (h : ea xs k = a) (hj : ∀ j, j < k → ea xs j ≠ a) : fi a xs = k := by
  have hm : a ∈ xs := by rw [← h]; exact ea_mem hk
  obtain ⟨h1, h2, h3⟩ := fi_spec hm
  rcases Nat.lt_trichotomy (fi a xs) k with h4 | h4 | h4
  · exact absurd h2 (hj _ h4)
  · exact h4
  · exact absurd h (h3 _ h4)
/-- What looks for a place gives. -/
noncomputable def plc (xs : List Ang) (a : Ang) : Int := if a ∈ xs then (fi a xs : Int) else -1
theorem plc_nonneg {xs : List Ang} {a : Ang} : 0 ≤ plc xs a ↔ a ∈ xs := by
  unfold plc
  by_cases h : a ∈ xs
  · rw [if_pos h]; exact ⟨fun _ => h, fun _ => by omega⟩
  · rw [if_neg h]; exact ⟨fun h' => by omega, fun h' => absurd h' h⟩
theorem plc_of {xs : List Ang} {a : Ang} (h : a ∈ xs) : plc xs a = (fi a xs : Int) := if_pos h
theorem impl_index {xs : List Ang} {a : Ang} (hl : xs.length < 4611686018427387904) : slices_Index__impl_Angle_impl_Angle xs a = some (plc xs a) := by
  unfold slices_Index__impl_Angle_impl_Angle
  obtain ⟨b, h1, h2⟩ := loop_inv (step := slices_Index__impl_Angle_impl_Angle_l0) (fun s => ∃ k : Nat, k ≤ xs.length ∧ s = (xs, a, ((xs.length : Nat) : Int), (k : Int), ()) ∧ ∀ j, j < k → ea xs j ≠ a) (fun s => xs.length - s.2.2.2.1.toNat)
    (fun b => (b = .inl (plc xs a, ()) ∧ a ∈ xs) ∨ (b = .inr () ∧ ¬ a ∈ xs)) (by
    rintro _ ⟨k, hk, rfl, hj⟩
    by_cases h : k < xs.length
    · simp only [slices_Index__impl_Angle_impl_Angle_l0, ltb h, nn, Bool.and_self, cond_true, Int.toNat_natCast]
      rw [beqA]
      by_cases he : a = ea xs k
      · left
        have hm : a ∈ xs := by rw [he]; exact ea_mem h
        refine ⟨.inl (plc xs a, ()), ?_, .inl ⟨rfl, hm⟩⟩
        rw [show decide (a = xs.getD k dA) = true from decide_eq_true he, cond_true, plc_of hm, fi_eq h he.symm hj]
      · right
        rw [show decide (a = xs.getD k dA) = false from decide_eq_false he, cond_false, w64_succ (by omega)]
        refine ⟨_, rfl, ⟨k + 1, by omega, rfl, fun j hj' => ?_⟩, by simp; omega⟩
        by_cases e : j = k
        · subst e; exact fun h => he h.symm
        · exact hj j (by omega)
    · left
      have : k = xs.length := by omega
      subst this
      refine ⟨.inr (), by simp only [slices_Index__impl_Angle_impl_Angle_l0, nltb h, cond_false], .inr ⟨rfl, fun hm => ?_⟩⟩
      obtain ⟨i, hi, he⟩ := mem_ea hm
      exact hj i hi he) (xs, a, ((xs.length : Nat) : Int), (0 : Int), ()) ⟨0, by omega, rfl, fun j h => by omega⟩
  rw [h1]
  rcases h2 with ⟨rfl, _⟩ | ⟨rfl, h3⟩
  · rfl
  · simp only [Option.bind_some, alt, plc, if_neg h3]
theorem spec_place {xs : List Ang} {a : Ang} (hl : xs.length < 4611686018427387904) : spec_l07Place xs a = some (plc xs a) := by
  unfold spec_l07Place
  obtain ⟨b, h1, h2⟩ := loop_inv (step := spec_l07Place_l0) (fun s => ∃ k : Nat, k ≤ xs.length ∧ s = (xs, a, (k : Int), ()) ∧ ∀ j, j < k → ea xs j ≠ a) (fun s => xs.length - s.2.2.1.toNat)
    (fun b => (b = .inl (plc xs a, ()) ∧ a ∈ xs) ∨ (b = .inr () ∧ ¬ a ∈ xs)) (by
    rintro _ ⟨k, hk, rfl, hj⟩
    by_cases h : k < xs.length
    · simp only [spec_l07Place_l0, ltb h, nn, Bool.and_self, cond_true, Int.toNat_natCast]
      rw [beqA]
      by_cases he : ea xs k = a
      · left
        have hm : a ∈ xs := by rw [← he]; exact ea_mem h
        refine ⟨.inl (plc xs a, ()), ?_, .inl ⟨rfl, hm⟩⟩
        rw [show decide (xs.getD k dA = a) = true from decide_eq_true he, cond_true, plc_of hm, fi_eq h he hj]
      · right
        rw [show decide (xs.getD k dA = a) = false from decide_eq_false he, cond_false, w64_succ (by omega)]
        refine ⟨_, rfl, ⟨k + 1, by omega, rfl, fun j hj' => ?_⟩, by simp; omega⟩
        by_cases e : j = k
        · subst e; exact he
        · exact hj j (by omega)
    · left
      have : k = xs.length := by omega
      subst this
      refine ⟨.inr (), by simp only [spec_l07Place_l0, nltb h, cond_false], .inr ⟨rfl, fun hm => ?_⟩⟩
      obtain ⟨i, hi, he⟩ := mem_ea hm
      exact hj i hi he) (xs, a, (0 : Int), ()) ⟨0, by omega, rfl, fun j h => by omega⟩
  rw [h1]
  rcases h2 with ⟨rfl, _⟩ | ⟨rfl, h3⟩
  · rfl
  · simp only [Option.bind_some, alt, plc, if_neg h3]
def orbL (a : Ang) (n : Nat) : List Ang := tab (dblN a) n
theorem orbL_len {a : Ang} {n : Nat} : (orbL a n).length = n := tab_len
theorem orbL_at {a : Ang} {n j : Nat} (h : j < n) : ea (orbL a n) j = dblN a j := tab_at h
theorem orbL_succ {a : Ang} {n : Nat} : orbL a (n + 1) = orbL a n ++ [dblN a n] := by simp [orbL, tab, List.range_succ]
theorem orbL_mem {a x : Ang} {n : Nat} : x ∈ orbL a n ↔ ∃ j, j < n ∧ dblN a j = x := by
  simp [orbL, tab]
/-- No repeat among the first. -/
def Dis (a : Ang) (n : Nat) : Prop := ∀ i j, i < j → j < n → dblN a i ≠ dblN a j
theorem back_at {a : Ang} (h : isA a) {n j : Nat} (hd : Dis a n) (hj : j < n) (he : dblN a j = dblN a n) : j = pre a := by
  have p1 := pre_dblN h j
  have p2 := pre_dblN h n
  rw [he, p2] at p1
  rcases Nat.lt_trichotomy j (pre a) with h1 | h1 | h1
  · omega
  · exact h1
  · exfalso
    obtain ⟨j', rfl⟩ : ∃ j', j = j' + 1 := ⟨j - 1, by omega⟩
    obtain ⟨n', rfl⟩ : ∃ n', n = n' + 1 := ⟨n - 1, by omega⟩
    have q1 := pre_dblN h j'
    have q2 := pre_dblN h n'
    exact hd j' n' (by omega) (by omega) (dbl_inj (dblN_isA h j') (dblN_isA h n') (by omega) (by omega) he)
/-- What an orbit's reckoning gives: as far as it goes, and how it ends. -/
theorem orbit_loops {a : Ang} (h : isA a) : ∀ k n, 64 - n = k → n ≤ 64 → Dis a n →
    (∃ m, m ≤ 64 ∧ pre a < m ∧ Dis a m ∧ dblN a m = dblN a (pre a) ∧ loop impl_Angle_orbit_l0 (dblN a n, orbL a n, ()) = some (.inl ((pre a : Int), true, orbL a m, ())) ∧ loop spec_l01Orbit_l1 ((pre a : Int), orbL a n, dblN a n, ()) = some (.inl ((pre a : Int), true, orbL a m, ()))) ∨
    (∃ l, Dis a 64 ∧ loop impl_Angle_orbit_l0 (dblN a n, orbL a n, ()) = some (.inr ([], 0, false, l, ())) ∧ loop spec_l01Orbit_l1 ((pre a : Int), orbL a n, dblN a n, ()) = some (.inr ([], 0, false, l, ()))) := by
  intro k
  induction k with
  | zero =>
    intro n hk hn hd
    have h64 : n = 64 := by omega
    by_cases hm : dblN a n ∈ orbL a n
    · left
      obtain ⟨j, hj, he⟩ := orbL_mem.1 hm
      have hp := back_at h hd hj he
      subst hp
      refine ⟨n, hn, hj, hd, he.symm, ?_, ?_⟩
      · rw [loop_eq]
        simp only [impl_Angle_orbit_l0]
        rw [impl_index (by rw [orbL_len]; omega), plc_of hm, fi_eq (k := pre a) (by rw [orbL_len]; exact hj) (by rw [orbL_at hj]; exact he) (fun i hi => by rw [orbL_at (by omega), ← he]; exact hd i _ hi hj)]
        simp
      · rw [loop_eq]
        simp only [spec_l01Orbit_l1, orbL_len]
        have c1 : decide ((n : Int) > (pre a : Int)) = true := decide_eq_true (by omega)
        simp only [c1, cond_true, ltb hj, nn, Bool.and_self, Int.toNat_natCast]
        rw [beqA, show decide (dblN a n = (orbL a n).getD (pre a) dA) = true from decide_eq_true (by rw [show (orbL a n).getD (pre a) dA = dblN a (pre a) from orbL_at hj]; exact he.symm), cond_true]
    · right
      refine ⟨orbL a n, h64 ▸ hd, ?_, ?_⟩
      · rw [loop_eq]
        simp only [impl_Angle_orbit_l0]
        rw [impl_index (by rw [orbL_len]; omega)]
        have c1 : decide (plc (orbL a n) (dblN a n) ≥ 0) = false := decide_eq_false (fun h => hm (plc_nonneg.1 h))
        have c0 : (((n : Nat) : Int) == 64) = true := by rw [h64]; rfl
        simp only [Option.bind_some, c1, cond_false, orbL_len, c0, cond_true]
      · rw [loop_eq]
        simp only [spec_l01Orbit_l1, orbL_len]
        have c0 : (((n : Nat) : Int) == 64) = true := by rw [h64]; rfl
        by_cases hp : pre a < n
        · have c1 : decide ((n : Int) > (pre a : Int)) = true := decide_eq_true (by omega)
          simp only [c1, cond_true, ltb hp, nn, Bool.and_self, Int.toNat_natCast]
          rw [beqA, show decide (dblN a n = (orbL a n).getD (pre a) dA) = false from decide_eq_false (fun e => hm (orbL_mem.2 ⟨pre a, hp, by rw [show (orbL a n).getD (pre a) dA = dblN a (pre a) from orbL_at hp] at e; exact e.symm⟩)), cond_false, c0, cond_true]
        · have c1 : decide ((n : Int) > (pre a : Int)) = false := decide_eq_false (by omega)
          simp only [c1, cond_false, c0, cond_true]
  | succ k ih =>
    intro n hk hn hd
    by_cases hm : dblN a n ∈ orbL a n
    · left
      obtain ⟨j, hj, he⟩ := orbL_mem.1 hm
      have hp := back_at h hd hj he
      subst hp
      refine ⟨n, hn, hj, hd, he.symm, ?_, ?_⟩
      · rw [loop_eq]
        simp only [impl_Angle_orbit_l0]
        rw [impl_index (by rw [orbL_len]; omega), plc_of hm, fi_eq (k := pre a) (by rw [orbL_len]; exact hj) (by rw [orbL_at hj]; exact he) (fun i hi => by rw [orbL_at (by omega), ← he]; exact hd i _ hi hj)]
        simp
      · rw [loop_eq]
        simp only [spec_l01Orbit_l1, orbL_len]
        have c1 : decide ((n : Int) > (pre a : Int)) = true := decide_eq_true (by omega)
        simp only [c1, cond_true, ltb hj, nn, Bool.and_self, Int.toNat_natCast]
        rw [beqA, show decide (dblN a n = (orbL a n).getD (pre a) dA) = true from decide_eq_true (by rw [show (orbL a n).getD (pre a) dA = dblN a (pre a) from orbL_at hj]; exact he.symm), cond_true]
    · have hd' : Dis a (n + 1) := by
        intro i j hij hj e
        by_cases hjn : j = n
        · subst hjn; exact hm (orbL_mem.2 ⟨i, hij, e⟩)
        · exact hd i j hij (by omega) e
      have s1 : loop impl_Angle_orbit_l0 (dblN a n, orbL a n, ()) = loop impl_Angle_orbit_l0 (dblN a (n + 1), orbL a (n + 1), ()) := by
        conv => lhs; rw [loop_eq]
        simp only [impl_Angle_orbit_l0]
        rw [impl_index (by rw [orbL_len]; omega)]
        have c1 : decide (plc (orbL a n) (dblN a n) ≥ 0) = false := decide_eq_false (fun h => hm (plc_nonneg.1 h))
        have c0 : (((n : Nat) : Int) == 64) = false := by simp; omega
        have c2 : decide ((n + [dblN a n].length) * 16 ≤ 140737488355328) = true := decide_eq_true (by simp only [List.length_singleton]; omega)
        simp only [Option.bind_some, c1, cond_false, orbL_len, c0, c2, cond_true]
        rw [impl_dbl (dblN_isA h n), orbL_succ]
        rfl
      have s2 : loop spec_l01Orbit_l1 ((pre a : Int), orbL a n, dblN a n, ()) = loop spec_l01Orbit_l1 ((pre a : Int), orbL a (n + 1), dblN a (n + 1), ()) := by
        conv => lhs; rw [loop_eq]
        simp only [spec_l01Orbit_l1, orbL_len]
        have c0 : (((n : Nat) : Int) == 64) = false := by simp; omega
        have c2 : decide ((n + [dblN a n].length) * 16 ≤ 140737488355328) = true := decide_eq_true (by simp only [List.length_singleton]; omega)
        by_cases hp : pre a < n
        · have c1 : decide ((n : Int) > (pre a : Int)) = true := decide_eq_true (by omega)
          simp only [c1, cond_true, ltb hp, nn, Bool.and_self, Int.toNat_natCast]
          rw [beqA, show decide (dblN a n = (orbL a n).getD (pre a) dA) = false from decide_eq_false (fun e => hm (orbL_mem.2 ⟨pre a, hp, by rw [show (orbL a n).getD (pre a) dA = dblN a (pre a) from orbL_at hp] at e; exact e.symm⟩))]
          simp only [cond_false, c0, c2, cond_true]
          rw [spec_dbl (dblN_isA h n), orbL_succ]
          rfl
        · have c1 : decide ((n : Int) > (pre a : Int)) = false := decide_eq_false (by omega)
          simp only [c1, cond_false, c0, c2, cond_true]
          rw [spec_dbl (dblN_isA h n), orbL_succ]
          rfl
      rw [s1, s2]
      exact ih (n + 1) (by omega) (by omega) hd'
theorem spec_pre {a : Ang} (h : isA a) : loop spec_l01Orbit_l0 (a, (0 : Int), a.2.1, ()) = some (a, (pre a : Int), ()) := by
  obtain ⟨b, h1, h2⟩ := loop_inv (step := spec_l01Orbit_l0) (fun s => ∃ k e : Nat, s = (a, (k : Int), (e : Int), ()) ∧ 1 ≤ e ∧ e ≤ 8191 ∧ k + v2 13 e = pre a ∧ k ≤ 100) (fun s => s.2.2.1.toNat)
    (fun b => b = (a, (pre a : Int), ())) (by
    rintro _ ⟨k, e, rfl, h3, h4, h5, h6⟩
    simp only [spec_l01Orbit_l0]
    have c2 : (((2 : Int) == 0)) = false := rfl
    simp only [c2, Bool.not_false, cond_true]
    have ht : ((e : Int)).tmod 2 = ((e % 2 : Nat) : Int) := tmod_nat e 2
    have hq : ((e : Int)).tdiv 2 = ((e / 2 : Nat) : Int) := tdiv_nat e 2
    rw [ht, hq]
    rcases Nat.mod_two_eq_zero_or_one e with he | ho
    · right
      rw [he]
      obtain ⟨e', rfl⟩ : ∃ e', e = 2 * e' := ⟨e / 2, by omega⟩
      have h7 := v2_half (f := 12) (e := e') (by omega) (by omega)
      have h7' : v2 13 (2 * e') = v2 13 e' + 1 := h7
      have h8 : pre a ≤ 13 := by
        have : ∀ f d, v2 f d ≤ f := by
          intro f
          induction f with
          | zero => intro d; exact Nat.le_refl _
          | succ f ih => intro d; rw [v2_s]; split
                         · have := ih (d / 2); omega
                         · omega
        exact this 13 _
      refine ⟨(a, ((k + 1 : Nat) : Int), (e' : Int), ()), ?_, ⟨k + 1, e', rfl, by omega, by omega, by omega, by omega⟩, by simp; omega⟩
      rw [w64_succ (by omega), w64_nat (by omega), Nat.mul_div_cancel_left _ (by omega)]
      rfl
    · left
      rw [ho]
      refine ⟨_, rfl, ?_⟩
      rw [v2_odd ho] at h5
      rw [← h5]; rfl) (a, (0 : Int), a.2.1, ()) (by
      obtain ⟨n, d, rfl, h3, h4, _⟩ := isA_nat h
      exact ⟨0, d, rfl, h3, h4, by simp [pre], by omega⟩)
  rw [h1, h2]
/-- Orbits are the same. -/
theorem orbit_same {a : Ang} (h : isA a) : ∃ r : List Ang × Int × Bool, impl_Angle_orbit a = some r ∧ spec_l01Orbit a = some r ∧ r.1.length ≤ 64 ∧ (r.2.2 = true → r.2.1 = (pre a : Int) ∧ pre a < r.1.length ∧ r.1 = orbL a r.1.length) ∧ (r.2.2 = false → r.1 = [] ∧ r.2.1 = 0) := by
  unfold impl_Angle_orbit spec_l01Orbit
  rw [spec_pre h]
  simp only [Option.bind_some]
  rcases orbit_loops h 64 0 rfl (by omega) (fun i j h1 h2 => by omega) with ⟨m, m1, m2, _, _, m3, m4⟩ | ⟨l, _, m3, m4⟩
  · refine ⟨(orbL a m, (pre a : Int), true), ?_, ?_, by rw [orbL_len]; exact m1, fun _ => ⟨rfl, by rw [orbL_len]; exact m2, by rw [orbL_len]⟩, fun h => by cases h⟩
    · have : loop impl_Angle_orbit_l0 (a, ([] : List Ang), ()) = _ := m3
      rw [this]; rfl
    · have : loop spec_l01Orbit_l1 ((pre a : Int), ([] : List Ang), a, ()) = _ := m4
      rw [this]; rfl
  · refine ⟨([], 0, false), ?_, ?_, by simp, fun h => (by cases h), fun _ => ⟨rfl, rfl⟩⟩
    · have : loop impl_Angle_orbit_l0 (a, ([] : List Ang), ()) = _ := m3
      rw [this]; rfl
    · have : loop spec_l01Orbit_l1 ((pre a : Int), ([] : List Ang), a, ()) = _ := m4
      rw [this]; rfl
/-- Where the orbit comes back at last, it is told whole. -/
theorem orbit_is {a : Ang} (h : isA a) (h0 : pre a = 0) {v : Nat} (hv : 0 < v) (h64 : v < 64) (hb : dblN a v = a) (hm : ∀ m, 0 < m → dblN a m = a → v ≤ m) : impl_Angle_orbit a = some (orbL a v, 0, true) := by
  unfold impl_Angle_orbit
  rcases orbit_loops h 64 0 rfl (by omega) (fun i j h1 h2 => by omega) with ⟨m, m1, m2, m5, m6, m3, m4⟩ | ⟨l, m5, m3, m4⟩
  · have : loop impl_Angle_orbit_l0 (a, ([] : List Ang), ()) = _ := m3
    rw [this]
    rw [h0] at m6 m2 ⊢
    have hvm := hm m m2 m6
    have e : m = v := by
      rcases Nat.eq_or_lt_of_le hvm with e | e
      · exact e.symm
      · exact absurd hb.symm (m5 0 v hv e)
    rw [e]; rfl
  · exact absurd hb.symm (m5 0 v hv h64)
end Go.K.Pure

/- Plain laws of portraits, part E: what is asked of the lists. -/
set_option linter.unusedVariables false
set_option linter.unusedSimpArgs false
namespace Go.K.Pure
open Classical

theorem loop_first {α β : Type} {step : α → Option (Ctl α β)} (s : Nat → α) (n : Nat) (b : β) (c : Nat → β) (P : Nat → Prop)
    (h1 : ∀ i, i < n → (∀ j, j < i → ¬ P j) → step (s i) = some (sel (P i) (.stop (c i)) (.next (s (i + 1))))) (h2 : (∀ j, j < n → ¬ P j) → step (s n) = some (.stop b)) :
    (∃ i, i < n ∧ P i ∧ loop step (s 0) = some (c i)) ∨ ((∀ j, j < n → ¬ P j) ∧ loop step (s 0) = some b) := by
  have key : ∀ k i, n - i = k → i ≤ n → (∀ j, j < i → ¬ P j) → (∃ i', i' < n ∧ P i' ∧ loop step (s i) = some (c i')) ∨ ((∀ j, j < n → ¬ P j) ∧ loop step (s i) = some b) := by
    intro k
    induction k with
    | zero =>
      intro i hk hi hj
      have : i = n := by omega
      subst this
      exact .inr ⟨hj, by rw [loop_eq, h2 hj]⟩
    | succ k ih =>
      intro i hk hi hj
      have h3 := h1 i (by omega) hj
      by_cases hp : P i
      · rw [sel_pos hp] at h3
        exact .inl ⟨i, by omega, hp, by rw [loop_eq, h3]⟩
      · rw [sel_neg hp] at h3
        rw [loop_eq, h3]
        exact ih (i + 1) (by omega) (by omega) fun j hj' => by
          by_cases e : j = i
          · subst e; exact hp
          · exact hj j (by omega)
  exact key _ 0 rfl (Nat.zero_le _) fun j h => by omega
/-- Strictly ascending, one after the other. -/
def AscL (xs : List Ang) : Prop := ∀ i, i + 1 < xs.length → val (ea xs i) < val (ea xs (i + 1))
theorem ascL_lt {xs : List Ang} (h : AscL xs) : ∀ {i j : Nat}, i < j → j < xs.length → val (ea xs i) < val (ea xs j) := by
  intro i j hij hj
  obtain ⟨k, rfl⟩ : ∃ k, j = i + 1 + k := ⟨j - i - 1, by omega⟩
  clear hij
  induction k with
  | zero => exact h i hj
  | succ k ih =>
    have h1 := ih (by omega)
    have h2 := h (i + 1 + k) (by omega)
    exact Int.lt_trans h1 h2
theorem asc_iff {xs : List Ang} (hv : ∀ x ∈ xs, isA x) : Asc xs ↔ AscL xs := by
  constructor
  · intro h i hi
    have := List.pairwise_iff_getElem.1 h.2 i (i + 1) (by omega) hi (by omega)
    rw [ea, ea, getD_at (by omega), getD_at hi]
    exact this
  · intro h
    refine ⟨hv, List.pairwise_iff_getElem.2 fun i j hi hj hij => ?_⟩
    have := ascL_lt h hij hj
    rwa [ea, ea, getD_at hi, getD_at hj] at this
theorem pred_succ (n : Nat) : ((n + 1 : Nat) : Int) - 1 = (n : Int) := by omega
theorem spec_asc {xs : List Ang} (hv : ∀ x ∈ xs, isA x) (hl : xs.length ≤ 1048576) : spec_l03Ascending xs = some (decide (AscL xs)) := by
  unfold spec_l03Ascending
  have hL := loop_any (step := spec_l03Ascending_l0) (fun i => (xs, ((i + 1 : Nat) : Int), ())) (xs.length - 1) (.inr ()) (.inl (false, ())) (fun i => ¬ val (ea xs i) < val (ea xs (i + 1))) (by
    intro i hi _
    have h1 : i < xs.length := by omega
    have h2 : i + 1 < xs.length := by omega
    simp only [spec_l03Ascending_l0, pred_succ, w64_nat (show i < 9223372036854775808 by omega), ltb h1, ltb h2, nn, Bool.and_self, cond_true, Int.toNat_natCast]
    rw [spec_less (hv _ (ea_mem h1)) (hv _ (ea_mem h2))]
    have hlt := lt_val (hv _ (ea_mem h1)) (hv _ (ea_mem h2))
    simp only [Option.bind_some]
    by_cases h : val (ea xs i) < val (ea xs (i + 1))
    · rw [sel_neg (by simpa using h), show decide (lt (xs.getD i dA) (xs.getD (i + 1) dA)) = true from decide_eq_true (hlt.2 h), Bool.not_true, cond_false, w64_succ (by omega)]
    · rw [sel_pos h, show decide (lt (xs.getD i dA) (xs.getD (i + 1) dA)) = false from decide_eq_false (fun h' => h (hlt.1 h')), Bool.not_false, cond_true]) (by
    intro _
    have : ¬ xs.length - 1 + 1 < xs.length := by omega
    simp only [spec_l03Ascending_l0, nltb this, cond_false])
  have t : loop spec_l03Ascending_l0 (xs, (1 : Int), ()) = _ := hL
  rw [t]
  by_cases h : AscL xs
  · rw [sel_neg (fun ⟨i, h1, h2⟩ => h2 (h i (by omega))), decide_eq_true h]; rfl
  · rw [sel_pos, decide_eq_false h]
    · rfl
    · apply Classical.byContradiction
      intro hn
      exact h fun i hi => Classical.byContradiction fun h' => hn ⟨i, by omega, h'⟩
theorem cmpA_nonneg {a b : Ang} (ha : isA a) (hb : isA b) : (cmpA a b ≥ 0) ↔ ¬ val a < val b := by
  unfold cmpA
  rw [← lt_val ha hb]
  by_cases h : lt a b
  · simp [h]
  · by_cases h2 : lt b a <;> simp [h, h2]
theorem impl_asc {xs : List Ang} (hv : ∀ x ∈ xs, isA x) (hl : xs.length ≤ 1048576) : impl_areAscending xs = some (decide (AscL xs)) := by
  unfold impl_areAscending
  have hL := loop_any (step := impl_areAscending_l0) (fun i => (xs, ((i + 1 : Nat) : Int), ())) (xs.length - 1) (.inr ()) (.inl (false, ())) (fun i => ¬ val (ea xs i) < val (ea xs (i + 1))) (by
    intro i hi _
    have h1 : i < xs.length := by omega
    have h2 : i + 1 < xs.length := by omega
    simp only [impl_areAscending_l0, pred_succ, w64_nat (show i < 9223372036854775808 by omega), ltb h1, ltb h2, nn, Bool.and_self, cond_true, Int.toNat_natCast]
    rw [impl_compare (hv _ (ea_mem h1)) (hv _ (ea_mem h2))]
    have hc := cmpA_nonneg (hv _ (ea_mem h1)) (hv _ (ea_mem h2))
    simp only [Option.bind_some]
    by_cases h : val (ea xs i) < val (ea xs (i + 1))
    · rw [sel_neg (by simpa using h), show decide (cmpA (xs.getD i dA) (xs.getD (i + 1) dA) ≥ 0) = false from decide_eq_false (fun h' => hc.1 h' h), cond_false, w64_succ (by omega)]
    · rw [sel_pos h, show decide (cmpA (xs.getD i dA) (xs.getD (i + 1) dA) ≥ 0) = true from decide_eq_true (hc.2 h), cond_true]) (by
    intro _
    have : ¬ xs.length - 1 + 1 < xs.length := by omega
    simp only [impl_areAscending_l0, nltb this, cond_false])
  have t : loop impl_areAscending_l0 (xs, (1 : Int), ()) = _ := hL
  rw [t]
  by_cases h : AscL xs
  · rw [sel_neg (fun ⟨i, h1, h2⟩ => h2 (h i (by omega))), decide_eq_true h]; rfl
  · rw [sel_pos, decide_eq_false h]
    · rfl
    · apply Classical.byContradiction
      intro hn
      exact h fun i hi => Classical.byContradiction fun h' => hn ⟨i, by omega, h'⟩
theorem impl_code {xs : List Ang} (hv : ∀ x ∈ xs, InA x) (hl : xs.length ≤ 1048576) : impl_anglesCode xs = some (sel (∀ x ∈ xs, isA x) 0 1) := by
  unfold impl_anglesCode impl_areAll_impl_Angle slices_ContainsFunc__impl_Angle_impl_Angle slices_IndexFunc__impl_Angle_impl_Angle
  have hL := loop_first (step := slices_IndexFunc__impl_Angle_impl_Angle_l0) (fun i => (xs, (), (((), ()), ()), ((xs.length : Nat) : Int), (i : Int), ())) xs.length (.inr ()) (fun i => .inl ((i : Int), ())) (fun i => ¬ isA (ea xs i)) (by
    intro i hi _
    simp only [slices_IndexFunc__impl_Angle_impl_Angle_l0, impl_areAll_impl_Angle_f1, ltb hi, nn, Bool.and_self, cond_true, Int.toNat_natCast]
    rw [impl_isA (hv _ (ea_mem hi))]
    simp only [Option.bind_some]
    by_cases h : isA (ea xs i)
    · rw [sel_neg (by simpa using h), decide_eq_true h, Bool.not_true, cond_false, w64_succ (by omega)]
    · rw [sel_pos h, decide_eq_false h, Bool.not_false, cond_true]) (by
    intro _
    simp only [slices_IndexFunc__impl_Angle_impl_Angle_l0, nltb (Nat.lt_irrefl xs.length), cond_false])
  rcases hL with ⟨i, hi, hp, hL⟩ | ⟨hp, hL⟩
  · have t : loop slices_IndexFunc__impl_Angle_impl_Angle_l0 (xs, (), (((), ()), ()), ((xs.length : Nat) : Int), (0 : Int), ()) = _ := hL
    rw [t, sel_neg (fun h => hp (h _ (ea_mem hi)))]
    simp only [Option.bind_some, alt]
    have : decide ((i : Int) ≥ 0) = true := decide_eq_true (by omega)
    rw [this]; rfl
  · have t : loop slices_IndexFunc__impl_Angle_impl_Angle_l0 (xs, (), (((), ()), ()), ((xs.length : Nat) : Int), (0 : Int), ()) = _ := hL
    rw [t, sel_pos (fun x hx => by
      obtain ⟨i, hi, rfl⟩ := mem_ea hx
      exact Classical.byContradiction (hp i hi))]
    rfl
/-- Each set has elements and is ascending. -/
def SetsOK (S : AA) : Prop := ∀ s ∈ S, s ≠ [] ∧ AscL s
theorem impl_sets {S : AA} (hv : ∀ s ∈ S, ∀ x ∈ s, isA x) (hl : S.length ≤ 1048576) (hJ : S.flatten.length ≤ 1048576) : impl_areSets S = some (decide (1 ≤ S.length ∧ S.length ≤ 12 ∧ S.flatten.length ≤ 64 ∧ SetsOK S)) := by
  unfold impl_areSets
  have hb : ∀ n, n ≤ S.length → (fl S n).length ≤ 1048576 := fun n hn => by
    have := fl_mono (S := S) hn
    rw [fl_all] at this; omega
  have l0 := loop_count (step := impl_areSets_l0) (fun n => (S, ((fl S n).length : Int), S, ((S.length : Nat) : Int), (n : Int), ())) S.length (S, ((fl S S.length).length : Int), ()) (by
    intro n hn
    have e1 : (fl S (n + 1)).length = (fl S n).length + (sa S n).length := by rw [fl_succ hn, List.length_append]
    have e2 := hb (n + 1) hn
    have hd : (S.getD n []).length = (sa S n).length := rfl
    have hw : w64 (((fl S n).length : Int) + ((S.getD n []).length : Int)) = ((fl S n).length : Int) + ((S.getD n []).length : Int) := w64_id (by omega) (by omega)
    simp only [impl_areSets_l0, ltb hn, nn, Bool.and_self, cond_true, Int.toNat_natCast, hw]
    rw [w64_succ (by omega)]
    congr 4
    omega) (by simp only [impl_areSets_l0, nltb (Nat.lt_irrefl S.length), cond_false]) 0 (Nat.zero_le _)
  have t0 : loop impl_areSets_l0 (S, (0 : Int), S, ((S.length : Nat) : Int), (0 : Int), ()) = some (S, ((fl S S.length).length : Int), ()) := by
    rw [← l0]; simp [fl_zero]
  rw [t0]
  simp only [Option.bind_some, impl_length__impl_Angle, impl_in, fl_all]
  by_cases h1 : 1 ≤ S.length ∧ S.length ≤ 12
  rotate_left
  · rw [decide_eq_false (by omega), cond_false, decide_eq_false (fun h => h1 ⟨h.1, h.2.1⟩)]
  have c1 : decide ((1 : Int) ≤ (S.length : Int) ∧ (S.length : Int) ≤ 12) = true := decide_eq_true (by omega)
  rw [c1, cond_true]
  by_cases h2 : S.flatten.length ≤ 64
  rotate_left
  · rw [decide_eq_false (by omega), cond_false, decide_eq_false (fun h => h2 h.2.2.1)]
  have c2 : decide ((S.flatten.length : Int) ≤ 64) = true := decide_eq_true (by omega)
  rw [c2, cond_true]
  unfold impl_areAll__impl_Angle slices_ContainsFunc___impl_Angle__impl_Angle slices_IndexFunc___impl_Angle__impl_Angle
  have hL := loop_first (step := slices_IndexFunc___impl_Angle__impl_Angle_l0) (fun i => (S, (), (((), ()), ()), ((S.length : Nat) : Int), (i : Int), ())) S.length (.inr ()) (fun i => .inl ((i : Int), ())) (fun i => ¬ (sa S i ≠ [] ∧ AscL (sa S i))) (by
    intro i hi _
    have hlen := len_fl hi
    simp only [slices_IndexFunc___impl_Angle__impl_Angle_l0, impl_areAll__impl_Angle_f1, impl_areSets_f1, ltb hi, nn, Bool.and_self, cond_true, Int.toNat_natCast]
    by_cases h0 : sa S i = []
    · rw [sel_pos (fun h => h.1 h0)]
      have hz : S.getD i [] = [] := h0
      simp only [hz, List.length_nil]
      rfl
    · have c3 : decide (((S.getD i []).length : Int) > 0) = true := decide_eq_true (by
        have := List.length_pos_iff.2 h0
        show ((sa S i).length : Int) > 0
        omega)
      rw [c3, cond_true, impl_asc (hv _ (sa_mem hi)) (by show (sa S i).length ≤ _; omega)]
      simp only [Option.bind_some]
      by_cases h : AscL (sa S i)
      · rw [sel_neg (by simpa using ⟨h0, h⟩), show decide (AscL (S.getD i [])) = true from decide_eq_true h, Bool.not_true, cond_false, w64_succ (by omega)]
      · rw [sel_pos (fun h' => h h'.2), show decide (AscL (S.getD i [])) = false from decide_eq_false h, Bool.not_false, cond_true]) (by
    intro _
    simp only [slices_IndexFunc___impl_Angle__impl_Angle_l0, nltb (Nat.lt_irrefl S.length), cond_false])
  rcases hL with ⟨i, hi, hp, hL⟩ | ⟨hp, hL⟩
  · have t : loop slices_IndexFunc___impl_Angle__impl_Angle_l0 (S, (), (((), ()), ()), ((S.length : Nat) : Int), (0 : Int), ()) = _ := hL
    rw [t, decide_eq_false (fun h => hp (h.2.2.2 _ (sa_mem hi)))]
    simp only [Option.bind_some, alt]
    have : decide ((i : Int) ≥ 0) = true := decide_eq_true (by omega)
    rw [this]; rfl
  · have t : loop slices_IndexFunc___impl_Angle__impl_Angle_l0 (S, (), (((), ()), ()), ((S.length : Nat) : Int), (0 : Int), ()) = _ := hL
    rw [t, decide_eq_true ⟨h1.1, h1.2, h2, fun s hs => by
      obtain ⟨i, hi, rfl⟩ := mem_sa hs
      exact Classical.byContradiction (hp i hi)⟩]
    rfl
theorem spec_lists {S : AA} (hv : ∀ s ∈ S, ∀ x ∈ s, InA x) (hl : S.length ≤ 1048576) (hJ : S.flatten.length ≤ 1048576) :
    spec_l07Lists S = some (sel (∀ s ∈ S, ∀ x ∈ s, isA x) (sel (1 ≤ S.length ∧ S.length ≤ 12 ∧ S.flatten.length ≤ 64 ∧ SetsOK S) 0 2) 1) := by
  unfold spec_l07Lists
  have hb : ∀ n, n ≤ S.length → (fl S n).length ≤ 1048576 := fun n hn => by
    have := fl_mono (S := S) hn
    rw [fl_all] at this; omega
  have hin : ∀ i, i < S.length → ∀ c : Int, loop spec_l07Lists_l1 (S, c, (i : Int), (0 : Int), ()) = some (sel (∃ k, k < (sa S i).length ∧ ¬ isA (ea (sa S i) k)) (.inl (1, ())) (.inr (S, c, (i : Int), ()))) := by
    intro i hi c
    have hlen := len_fl hi
    exact loop_any (step := spec_l07Lists_l1) (fun k => (S, c, (i : Int), (k : Int), ())) (sa S i).length (.inr (S, c, (i : Int), ())) (.inl (1, ())) (fun k => ¬ isA (ea (sa S i) k)) (by
      intro k hk _
      simp only [spec_l07Lists_l1, ltb hi, nn, Bool.and_self, cond_true, Int.toNat_natCast]
      have c1 : decide ((k : Int) < ((S.getD i []).length : Int)) = true := ltb hk
      simp only [c1, cond_true]
      rw [spec_isA (hv _ (sa_mem hi) _ (ea_mem hk))]
      simp only [Option.bind_some]
      by_cases h : isA (ea (sa S i) k)
      · rw [sel_neg (by simpa using h), decide_eq_true h, Bool.not_true, cond_false, w64_succ (by omega)]; rfl
      · rw [sel_pos h, decide_eq_false h, Bool.not_false, cond_true]; rfl) (by
      intro _
      simp only [spec_l07Lists_l1, ltb hi, nn, Bool.and_self, cond_true, Int.toNat_natCast]
      have c1 : decide (((sa S i).length : Int) < ((S.getD i []).length : Int)) = false := nltb (Nat.lt_irrefl _)
      rw [c1, cond_false])
  have l0 := loop_any (step := spec_l07Lists_l0) (fun i => (S, ((fl S i).length : Int), (i : Int), ())) S.length (.inr (S, ((fl S S.length).length : Int), ())) (.inl (1, ())) (fun i => ∃ k, k < (sa S i).length ∧ ¬ isA (ea (sa S i) k)) (by
    intro i hi _
    have e1 : (fl S (i + 1)).length = (fl S i).length + (sa S i).length := by rw [fl_succ hi, List.length_append]
    have e2 := hb (i + 1) hi
    have hd : (S.getD i []).length = (sa S i).length := rfl
    have hw : w64 (((fl S i).length : Int) + ((S.getD i []).length : Int)) = ((fl S (i + 1)).length : Int) := by rw [w64_id (by omega) (by omega)]; omega
    simp only [spec_l07Lists_l0, ltb hi, cond_true]
    rw [hin i hi]
    by_cases h : ∃ k, k < (sa S i).length ∧ ¬ isA (ea (sa S i) k)
    · rw [sel_pos h, sel_pos h]; rfl
    · rw [sel_neg h, sel_neg h]
      simp only [Option.bind_some, alt, ltb hi, nn, Bool.and_self, cond_true, Int.toNat_natCast, hw]
      rw [w64_succ (by omega)]) (by
    intro _
    simp only [spec_l07Lists_l0, nltb (Nat.lt_irrefl S.length), cond_false])
  have t0 := l0
  simp only [fl_zero, List.length_nil] at t0
  change loop spec_l07Lists_l0 (S, (0 : Int), (0 : Int), ()) = _ at t0
  rw [t0]
  by_cases hall : ∀ s ∈ S, ∀ x ∈ s, isA x
  rotate_left
  · rw [sel_neg hall, sel_pos (Classical.byContradiction fun hn => hall fun s hs x hx => by
      obtain ⟨i, hi, rfl⟩ := mem_sa hs
      obtain ⟨k, hk, rfl⟩ := mem_ea hx
      exact Classical.byContradiction fun h => hn ⟨i, hi, k, hk, h⟩)]
    rfl
  rw [sel_pos hall, sel_neg (fun ⟨i, hi, k, hk, h⟩ => h (hall _ (sa_mem hi) _ (ea_mem hk)))]
  simp only [Option.bind_some, alt, fl_all]
  by_cases h1 : 1 ≤ S.length
  rotate_left
  · rw [decide_eq_true (show (S.length : Int) < 1 by omega), cond_true, sel_neg (fun h => h1 h.1)]
  rw [decide_eq_false (show ¬ (S.length : Int) < 1 by omega), cond_false]
  by_cases h2 : S.length ≤ 12
  rotate_left
  · rw [decide_eq_true (show (S.length : Int) > 12 by omega), cond_true, sel_neg (fun h => h2 h.2.1)]
  rw [decide_eq_false (show ¬ (S.length : Int) > 12 by omega), cond_false]
  by_cases h3 : S.flatten.length ≤ 64
  rotate_left
  · rw [decide_eq_true (show (S.flatten.length : Int) > 64 by omega), cond_true, sel_neg (fun h => h3 h.2.2.1)]
  rw [decide_eq_false (show ¬ (S.flatten.length : Int) > 64 by omega), cond_false]
  have l2 := loop_any (step := spec_l07Lists_l2) (fun i => (S, (i : Int), ())) S.length (.inr ()) (.inl (2, ())) (fun i => ¬ (sa S i ≠ [] ∧ AscL (sa S i))) (by
    intro i hi _
    have hlen := len_fl hi
    simp only [spec_l07Lists_l2, ltb hi, nn, Bool.and_self, cond_true, Int.toNat_natCast]
    by_cases h0 : sa S i = []
    · rw [sel_pos (fun h => h.1 h0)]
      have hz : S.getD i [] = [] := h0
      simp only [hz, List.length_nil]
      rfl
    · have c3 : (((S.getD i []).length : Int) == 0) = false := by
        have := List.length_pos_iff.2 h0
        exact e0_false this
      rw [c3, cond_false, spec_asc (hall _ (sa_mem hi)) (by show (sa S i).length ≤ _; omega)]
      simp only [Option.bind_some]
      by_cases h : AscL (sa S i)
      · rw [sel_neg (by simpa using ⟨h0, h⟩), show decide (AscL (S.getD i [])) = true from decide_eq_true h, Bool.not_true, cond_false, w64_succ (by omega)]
      · rw [sel_pos (fun h' => h h'.2), show decide (AscL (S.getD i [])) = false from decide_eq_false h, Bool.not_false, cond_true]) (by
    intro _
    simp only [spec_l07Lists_l2, nltb (Nat.lt_irrefl S.length), cond_false])
  have t2 : loop spec_l07Lists_l2 (S, (0 : Int), ()) = _ := l2
  rw [t2]
  by_cases h4 : SetsOK S
  · rw [sel_neg (fun ⟨i, hi, h⟩ => h (h4 _ (sa_mem hi))), sel_pos ⟨h1, h2, h3, h4⟩]
    rfl
  · rw [sel_pos (Classical.byContradiction fun hn => h4 fun s hs => by
      obtain ⟨i, hi, rfl⟩ := mem_sa hs
      exact Classical.byContradiction fun h => hn ⟨i, hi, h⟩), sel_neg (fun h => h4 h.2.2.2)]
    rfl
end Go.K.Pure

/- Plain laws of portraits, part F: sets apart; doubling leads. -/
set_option linter.unusedVariables false
set_option linter.unusedSimpArgs false
namespace Go.K.Pure
open Classical

theorem nodup_len : ∀ {J zs : List Ang}, zs.Nodup → (∀ b, b ∈ zs ↔ b ∈ J) → zs.length ≤ J.length ∧ (zs.length = J.length ↔ J.Nodup)
  | [], zs, hz, hm => by
    have : zs = [] := List.eq_nil_iff_forall_not_mem.2 fun b hb => by cases (hm b).1 hb
    subst this
    simp
  | a :: J, zs, hz, hm => by
    by_cases ha : a ∈ J
    · have hm' : ∀ b, b ∈ zs ↔ b ∈ J := fun b => by
        rw [hm b, List.mem_cons]
        exact ⟨fun h => h.elim (fun e => e ▸ ha) id, .inr⟩
      have ih := (nodup_len hz hm').1
      refine ⟨by simp; omega, ⟨fun h => by simp at h; omega, fun h => ?_⟩⟩
      exact absurd ha (List.nodup_cons.1 h).1
    · have haz : a ∈ zs := (hm a).2 (List.mem_cons_self ..)
      have hm' : ∀ b, b ∈ zs.erase a ↔ b ∈ J := fun b => by
        rw [hz.mem_erase_iff, hm b, List.mem_cons]
        constructor
        · rintro ⟨h1, h2 | h2⟩
          · exact absurd h2 h1
          · exact h2
        · intro h
          exact ⟨fun e => ha (e ▸ h), .inr h⟩
      have ih := nodup_len (hz.erase a) hm'
      have hl := List.length_erase_of_mem haz
      have hp := List.length_pos_of_mem haz
      rw [hl] at ih
      refine ⟨by simp; omega, ?_⟩
      rw [List.nodup_cons, ← ih.2, List.length_cons]
      constructor
      · intro h; exact ⟨ha, by omega⟩
      · rintro ⟨_, h⟩; omega
theorem asc_nodup {zs : List Ang} (h : Asc zs) : zs.Nodup := h.2.imp fun h e => by rw [e] at h; exact Int.lt_irrefl _ h
/-- Sorting loses nothing just if there is no repeat. -/
theorem sorted_len {xs : List Ang} (h : ∀ x ∈ xs, isA x) (hlen : xs.length ≤ 1000000) : ∃ zs, impl_sorted xs = some zs ∧ (zs.length = xs.length ↔ xs.Nodup) := by
  obtain ⟨zs, h1, h2, h3, h4⟩ := impl_sorted_ok h hlen
  exact ⟨zs, h1, (nodup_len (asc_nodup h2) h3).2⟩
/-- No angle is in two sets. -/
def ApartS (S : AA) : Prop := ∀ i, i < S.length → ∀ k, k < i → ∀ j, j < (sa S i).length → ¬ ea (sa S i) j ∈ sa S k
theorem spec_apart {S : AA} (hl : S.length ≤ 1048576) (hJ : S.flatten.length ≤ 1048576) : spec_l07Apart S = some (decide (ApartS S)) := by
  unfold spec_l07Apart
  have h2 : ∀ i, i < S.length → ∀ k, k < i → loop spec_l07Apart_l2 (S, (i : Int), (k : Int), (0 : Int), ()) = some (sel (∃ j, j < (sa S i).length ∧ ea (sa S i) j ∈ sa S k) (.inl (false, ())) (.inr (S, (i : Int), (k : Int), ()))) := by
    intro i hi k hk
    have hk' : k < S.length := by omega
    have hlen := len_fl hi
    have hlen' := len_fl hk'
    exact loop_any (step := spec_l07Apart_l2) (fun j => (S, (i : Int), (k : Int), (j : Int), ())) (sa S i).length (.inr (S, (i : Int), (k : Int), ())) (.inl (false, ())) (fun j => ea (sa S i) j ∈ sa S k) (by
      intro j hj _
      have c1 : decide ((j : Int) < ((S.getD i []).length : Int)) = true := ltb hj
      simp only [spec_l07Apart_l2, ltb hi, ltb hk', nn, Bool.and_self, cond_true, Int.toNat_natCast, c1]
      rw [spec_place (by show (sa S k).length < _; omega)]
      simp only [Option.bind_some]
      by_cases h : ea (sa S i) j ∈ sa S k
      · rw [sel_pos h, show decide (plc (S.getD k []) ((S.getD i []).getD j dA) ≥ 0) = true from decide_eq_true (plc_nonneg.2 h), cond_true]
      · rw [sel_neg h, show decide (plc (S.getD k []) ((S.getD i []).getD j dA) ≥ 0) = false from decide_eq_false (fun h' => h (plc_nonneg.1 h')), cond_false, w64_succ (by omega)]) (by
      intro _
      have c1 : decide (((sa S i).length : Int) < ((S.getD i []).length : Int)) = false := nltb (Nat.lt_irrefl _)
      simp only [spec_l07Apart_l2, ltb hi, nn, Bool.and_self, cond_true, Int.toNat_natCast, c1, cond_false])
  have h1 : ∀ i, i < S.length → loop spec_l07Apart_l1 (S, (i : Int), (0 : Int), ()) = some (sel (∃ k, k < i ∧ ∃ j, j < (sa S i).length ∧ ea (sa S i) j ∈ sa S k) (.inl (false, ())) (.inr (S, (i : Int), ()))) := by
    intro i hi
    exact loop_any (step := spec_l07Apart_l1) (fun k => (S, (i : Int), (k : Int), ())) i (.inr (S, (i : Int), ())) (.inl (false, ())) (fun k => ∃ j, j < (sa S i).length ∧ ea (sa S i) j ∈ sa S k) (by
      intro k hk _
      simp only [spec_l07Apart_l1, ltb hk, cond_true]
      rw [h2 i hi k hk]
      by_cases h : ∃ j, j < (sa S i).length ∧ ea (sa S i) j ∈ sa S k
      · rw [sel_pos h, sel_pos h]; rfl
      · rw [sel_neg h, sel_neg h]
        simp only [Option.bind_some, alt]
        rw [w64_succ (by omega)]) (by
      intro _
      simp only [spec_l07Apart_l1, nltb (Nat.lt_irrefl i), cond_false])
  have h0 := loop_any (step := spec_l07Apart_l0) (fun i => (S, (i : Int), ())) S.length (.inr ()) (.inl (false, ())) (fun i => ∃ k, k < i ∧ ∃ j, j < (sa S i).length ∧ ea (sa S i) j ∈ sa S k) (by
      intro i hi _
      simp only [spec_l07Apart_l0, ltb hi, cond_true]
      rw [h1 i hi]
      by_cases h : ∃ k, k < i ∧ ∃ j, j < (sa S i).length ∧ ea (sa S i) j ∈ sa S k
      · rw [sel_pos h, sel_pos h]; rfl
      · rw [sel_neg h, sel_neg h]
        simp only [Option.bind_some, alt]
        rw [w64_succ (by omega)]) (by
      intro _
      simp only [spec_l07Apart_l0, nltb (Nat.lt_irrefl S.length), cond_false])
  have t : loop spec_l07Apart_l0 (S, (0 : Int), ()) = _ := h0
  rw [t]
  by_cases h : ApartS S
  · rw [sel_neg (fun ⟨i, hi, k, hk, j, hj, hm⟩ => h i hi k hk j hj hm), decide_eq_true h]; rfl
  · rw [sel_pos (Classical.byContradiction fun hn => h fun i hi k hk j hj hm => hn ⟨i, hi, k, hk, j, hj, hm⟩), decide_eq_false h]; rfl
/-- The sets are such as they have to be. -/
structure Good (S : AA) : Prop where
  ang : ∀ s ∈ S, ∀ x ∈ s, isA x
  one : 1 ≤ S.length
  most : S.length ≤ 12
  all : S.flatten.length ≤ 64
  sets : SetsOK S
section
variable {S : AA} (g : Good S)
include g
theorem Good.asc {i : Nat} (hi : i < S.length) : Asc (sa S i) := (asc_iff (g.ang _ (sa_mem hi))).2 (g.sets _ (sa_mem hi)).2
theorem Good.ne {i : Nat} (hi : i < S.length) : 0 < (sa S i).length := List.length_pos_iff.2 (g.sets _ (sa_mem hi)).1
theorem Good.len {i : Nat} (hi : i < S.length) : (sa S i).length ≤ 64 := Nat.le_trans (len_fl hi) g.all
theorem Good.isA {i j : Nat} (hi : i < S.length) (hj : j < (sa S i).length) : isA (ea (sa S i) j) := g.ang _ (sa_mem hi) _ (ea_mem hj)
theorem Good.flat : ∀ x ∈ S.flatten, K.Pure.isA x := fun x hx => by
  obtain ⟨s, hs, hx⟩ := List.mem_flatten.1 hx
  exact g.ang s hs x hx
theorem Good.apart : S.flatten.Nodup ↔ ApartS S := by
  unfold List.Nodup
  rw [List.pairwise_flatten]
  constructor
  · rintro ⟨_, h⟩ i hi k hk j hj hm
    have := List.pairwise_iff_getElem.1 h k i (by omega) hi hk
    have e1 : sa S k = S[k]'(by omega) := getD_at (by omega)
    have e2 : sa S i = S[i] := getD_at hi
    rw [e1] at hm
    exact this _ hm _ (by rw [← e2]; exact ea_mem hj) rfl
  · intro h
    refine ⟨fun s hs => ?_, List.pairwise_iff_getElem.2 fun k i hk hi hki x hx y hy e => ?_⟩
    · obtain ⟨i, hi, rfl⟩ := mem_sa hs
      exact asc_nodup (g.asc hi)
    · subst e
      have e1 : sa S k = S[k]'(by omega) := getD_at (by omega)
      have e2 : sa S i = S[i] := getD_at hi
      rw [← e1] at hx
      rw [← e2] at hy
      obtain ⟨j, hj, rfl⟩ := mem_ea hy
      exact h i hi k hki j hj hx
end
/-- Doubling leads a set into another one, each to another one. -/
def Lead (s t : List Ang) : Prop := (∀ i, i < s.length → dbl (ea s i) ∈ t) ∧ ∀ i, i < s.length → ∀ j, j < i → dbl (ea s j) ≠ dbl (ea s i)
theorem impl_images {s t : List Ang} (hs : ∀ x ∈ s, isA x) (hl : s.length ≤ 64) : loop impl_leads_l0 (s, t, ([] : List Ang), s, ((s.length : Nat) : Int), (0 : Int), ()) = some (s, t, tab (fun i => dbl (ea s i)) s.length, ()) := by
  have := loop_count (step := impl_leads_l0) (fun n => (s, t, tab (fun i => dbl (ea s i)) n, s, ((s.length : Nat) : Int), (n : Int), ())) s.length (s, t, tab (fun i => dbl (ea s i)) s.length, ()) (by
    intro n hn
    simp only [impl_leads_l0, ltb hn, nn, Bool.and_self, cond_true, Int.toNat_natCast]
    rw [impl_dbl (hs _ (ea_mem hn))]
    have c : ∀ b : Ang, decide (((tab (fun i => dbl (ea s i)) n).length + [b].length) * 16 ≤ 140737488355328) = true := fun b => decide_eq_true (by rw [tab_len]; simp only [List.length_singleton]; omega)
    simp only [Option.bind_some, c, cond_true]
    rw [w64_succ (by omega)]
    congr 4
    simp [tab, List.range_succ]) (by simp only [impl_leads_l0, nltb (Nat.lt_irrefl s.length), cond_false]) 0 (Nat.zero_le _)
  exact this
theorem tab_mem {g : Nat → Ang} {N : Nat} {x : Ang} : x ∈ tab g N ↔ ∃ i, i < N ∧ g i = x := by simp [tab]
theorem tab_nodup {g : Nat → Ang} {N : Nat} : (tab g N).Nodup ↔ ∀ i, i < N → ∀ j, j < i → g j ≠ g i := by
  unfold List.Nodup
  rw [List.pairwise_iff_getElem]
  constructor
  · intro h i hi j hj
    have := h j i (by rw [tab_len]; omega) (by rw [tab_len]; exact hi) hj
    simpa [tab] using this
  · intro h i j hi hj hij
    rw [tab_len] at hi hj
    have := h j hj i hij
    simpa [tab] using this
theorem impl_allIn {xs t : List Ang} (hl : xs.length ≤ 1048576) (ht : t.length ≤ 1048576) : impl_areAll_impl_Angle_v2 xs t = some (decide (∀ x ∈ xs, x ∈ t)) := by
  unfold impl_areAll_impl_Angle_v2 slices_ContainsFunc__impl_Angle_impl_Angle_v2 slices_IndexFunc__impl_Angle_impl_Angle_v2
  have hL := loop_first (step := slices_IndexFunc__impl_Angle_impl_Angle_v2_l0) (fun i => (xs, (), (((), t, ()), ()), ((xs.length : Nat) : Int), (i : Int), ())) xs.length (.inr ()) (fun i => .inl ((i : Int), ())) (fun i => ¬ ea xs i ∈ t) (by
    intro i hi _
    simp only [slices_IndexFunc__impl_Angle_impl_Angle_v2_l0, impl_areAll_impl_Angle_f1_v2, impl_leads_f1, slices_Contains__impl_Angle_impl_Angle, ltb hi, nn, Bool.and_self, cond_true, Int.toNat_natCast]
    rw [impl_index (by omega)]
    simp only [Option.bind_some]
    by_cases h : ea xs i ∈ t
    · rw [sel_neg (by simpa using h), show decide (plc t (xs.getD i dA) ≥ 0) = true from decide_eq_true (plc_nonneg.2 h), Bool.not_true, cond_false, w64_succ (by omega)]
    · rw [sel_pos h, show decide (plc t (xs.getD i dA) ≥ 0) = false from decide_eq_false (fun h' => h (plc_nonneg.1 h')), Bool.not_false, cond_true]) (by
    intro _
    simp only [slices_IndexFunc__impl_Angle_impl_Angle_v2_l0, nltb (Nat.lt_irrefl xs.length), cond_false])
  rcases hL with ⟨i, hi, hp, hL⟩ | ⟨hp, hL⟩
  · have t' : loop slices_IndexFunc__impl_Angle_impl_Angle_v2_l0 (xs, (), (((), t, ()), ()), ((xs.length : Nat) : Int), (0 : Int), ()) = _ := hL
    rw [t', decide_eq_false (fun h => hp (h _ (ea_mem hi)))]
    simp only [Option.bind_some, alt]
    have : decide ((i : Int) ≥ 0) = true := decide_eq_true (by omega)
    rw [this]; rfl
  · have t' : loop slices_IndexFunc__impl_Angle_impl_Angle_v2_l0 (xs, (), (((), t, ()), ()), ((xs.length : Nat) : Int), (0 : Int), ()) = _ := hL
    rw [t', decide_eq_true (fun x hx => by
      obtain ⟨i, hi, rfl⟩ := mem_ea hx
      exact Classical.byContradiction (hp i hi))]
    rfl
theorem eq_nat {n m : Nat} : (((n : Nat) : Int) == ((m : Nat) : Int)) = decide (n = m) := by
  by_cases h : n = m
  · subst h; simp
  · have : ¬ (n : Int) = (m : Int) := by omega
    rw [decide_eq_false h]
    exact beq_eq_false_iff_ne.2 this
theorem impl_leads_ok {s t : List Ang} (hs : ∀ x ∈ s, isA x) (hl : s.length ≤ 64) (ht : t.length ≤ 64) : impl_leads s t = some (decide (Lead s t)) := by
  unfold impl_leads
  rw [impl_images hs hl]
  simp only [Option.bind_some]
  rw [impl_allIn (by rw [tab_len]; omega) (by omega)]
  simp only [Option.bind_some]
  by_cases h1 : ∀ i, i < s.length → dbl (ea s i) ∈ t
  rotate_left
  · rw [decide_eq_false (fun h => h1 fun i hi => h _ (tab_mem.2 ⟨i, hi, rfl⟩)), cond_false, decide_eq_false (fun h : Lead s t => h1 h.1)]
  rw [decide_eq_true (fun x hx => by obtain ⟨i, hi, rfl⟩ := tab_mem.1 hx; exact h1 i hi), cond_true]
  obtain ⟨zs, z1, z2⟩ := sorted_len (xs := tab (fun i => dbl (ea s i)) s.length) (fun x hx => by obtain ⟨i, hi, rfl⟩ := tab_mem.1 hx; exact dbl_isA (hs _ (ea_mem hi))) (by rw [tab_len]; omega)
  rw [z1]
  simp only [Option.bind_some]
  rw [tab_len, tab_nodup] at z2
  rw [eq_nat]
  congr 1
  exact decide_eq_decide.2 ⟨fun h => ⟨h1, z2.1 h⟩, fun h => z2.2 h.2⟩
theorem spec_led_ok {s t : List Ang} (hs : ∀ x ∈ s, isA x) (hl : s.length ≤ 64) (ht : t.length ≤ 64) : spec_l07Led s t = some (decide (Lead s t ∧ s.length = t.length)) := by
  unfold spec_l07Led
  have c : (((decide ((0 : Int) ≤ ((t.length : Nat) : Int))) && (decide (((t.length : Nat) : Int) ≤ ((t.length : Nat) : Int)))) && (decide ((((t.length : Nat) : Int) * ((1 : Nat) : Int)) ≤ (140737488355328 : Int)))) = true := by
    simp only [Bool.and_eq_true, decide_eq_true_eq]; omega
  rw [c, cond_true, Int.toNat_natCast, tab_rep]
  have hL := loop_any (step := spec_l07Led_l0) (fun i => (s, t, tab (fun p => sel (∃ j, j < i ∧ fi (dbl (ea s j)) t = p) true false) t.length, (i : Int), ())) s.length (.inr (s, t, ())) (.inl (false, ())) (fun i => ¬ dbl (ea s i) ∈ t ∨ ∃ j, j < i ∧ dbl (ea s j) = dbl (ea s i)) (by
    intro i hi hbef
    simp only [spec_l07Led_l0, tab_len, ltb hi, nn, Bool.and_self, cond_true, Int.toNat_natCast]
    rw [spec_dbl (hs _ (ea_mem hi))]
    simp only [Option.bind_some]
    rw [spec_place (by omega)]
    simp only [Option.bind_some]
    by_cases hm : dbl (ea s i) ∈ t
    rotate_left
    · rw [sel_pos (.inl hm), show decide (plc t (dbl (s.getD i dA)) < 0) = true from decide_eq_true (Int.lt_of_not_ge (fun h => hm (plc_nonneg.1 h))), cond_true]
    have hf := fi_spec hm
    have hp : plc t (dbl (s.getD i dA)) = (fi (dbl (ea s i)) t : Int) := plc_of hm
    rw [hp]
    have c0 : decide (((fi (dbl (ea s i)) t : Nat) : Int) < 0) = false := decide_eq_false (by omega)
    simp only [c0, cond_false, ltb hf.1, nn, Bool.and_self, cond_true, Int.toNat_natCast]
    rw [tab_at hf.1]
    by_cases hd : ∃ j, j < i ∧ dbl (ea s j) = dbl (ea s i)
    · have : ∃ j, j < i ∧ fi (dbl (ea s j)) t = fi (dbl (ea s i)) t := by
        obtain ⟨j, hj, e⟩ := hd
        exact ⟨j, hj, by rw [e]⟩
      rw [sel_pos this, cond_true, sel_pos (.inr hd)]
    · have : ¬ ∃ j, j < i ∧ fi (dbl (ea s j)) t = fi (dbl (ea s i)) t := by
        rintro ⟨j, hj, e⟩
        have hmj : dbl (ea s j) ∈ t := Classical.byContradiction fun h => hbef j hj (.inl h)
        have hfj := fi_spec hmj
        exact hd ⟨j, hj, by rw [← hfj.2.1, e, hf.2.1]⟩
      rw [sel_neg this, cond_false, sel_neg (fun h => h.elim (fun h => h hm) hd), tab_set hf.1, w64_succ (by omega)]
      congr 5
      apply tab_ext
      intro p hp
      by_cases e : p = fi (dbl (ea s i)) t
      · rw [if_pos e]
        exact (sel_pos ⟨i, by omega, e.symm⟩).symm
      · rw [if_neg e]
        apply sel_congr
        constructor
        · rintro ⟨j, hj, e2⟩; exact ⟨j, by omega, e2⟩
        · rintro ⟨j, hj, e2⟩
          by_cases hji : j = i
          · subst hji; exact absurd e2.symm e
          · exact ⟨j, by omega, e2⟩) (by
    intro _
    simp only [spec_l07Led_l0, nltb (Nat.lt_irrefl s.length), cond_false])
  have e0 : tab (fun p => sel (∃ j, j < 0 ∧ fi (dbl (ea s j)) t = p) true false) t.length = tab (fun _ => false) t.length := tab_ext fun p _ => sel_neg (fun ⟨j, hj, _⟩ => by omega)
  simp only [e0] at hL
  have t2 : loop spec_l07Led_l0 (s, t, tab (fun _ => false) t.length, (0 : Int), ()) = _ := hL
  rw [t2]
  by_cases h : Lead s t
  · rw [sel_neg (by
      rintro ⟨i, hi, h1 | ⟨j, hj, h1⟩⟩
      · exact h1 (h.1 i hi)
      · exact h.2 i hi j hj h1)]
    simp only [Option.bind_some, alt]
    rw [eq_nat]
    congr 1
    exact decide_eq_decide.2 ⟨fun e => ⟨h, e⟩, fun e => e.2⟩
  · rw [sel_pos (Classical.byContradiction fun hn => h ⟨fun i hi => Classical.byContradiction fun h1 => hn ⟨i, hi, .inl h1⟩, fun i hi j hj h1 => hn ⟨i, hi, .inr ⟨j, hj, h1⟩⟩⟩), decide_eq_false (fun hh => h hh.1)]
    rfl
end Go.K.Pure

/- Plain laws of portraits, part G: each set is led to the next, in order. -/
set_option linter.unusedVariables false
set_option linter.unusedSimpArgs false
namespace Go.K.Pure
open Classical

theorem sub_len : ∀ {t zs : List Ang}, zs.Nodup → (∀ b, b ∈ zs → b ∈ t) → zs.length ≤ t.length
  | [], zs, hz, hm => by
    have : zs = [] := List.eq_nil_iff_forall_not_mem.2 fun b hb => by cases hm b hb
    simp [this]
  | a :: t, zs, hz, hm => by
    have ih := sub_len (t := t) (hz.erase a) (fun b hb => by
      rw [hz.mem_erase_iff] at hb
      rcases List.mem_cons.1 (hm b hb.2) with h | h
      · exact absurd h hb.1
      · exact h)
    have : zs.length ≤ (zs.erase a).length + 1 := by
      by_cases h : a ∈ zs
      · have := List.length_erase_of_mem h; omega
      · rw [List.erase_of_not_mem h]; omega
    simp only [List.length_cons]
    omega
theorem Lead.le {s t : List Ang} (h : Lead s t) : s.length ≤ t.length := by
  have := sub_len (t := t) (zs := tab (fun i => dbl (ea s i)) s.length) (tab_nodup.2 fun i hi j hj => h.2 i hi j hj) (fun b hb => by
    obtain ⟨i, hi, rfl⟩ := tab_mem.1 hb; exact h.1 i hi)
  rwa [tab_len] at this
/-- The set behind a set. -/
abbrev nx (S : AA) (i : Nat) : List Ang := sa S ((i + 1) % S.length)
theorem nx_lt {S : AA} (h : 1 ≤ S.length) (i : Nat) : (i + 1) % S.length < S.length := Nat.mod_lt _ (by omega)
theorem led_len {S : AA} (hn : 1 ≤ S.length) (h : ∀ i, i < S.length → Lead (sa S i) (nx S i)) : ∀ i j, i < S.length → j < S.length → (sa S i).length = (sa S j).length := by
  have step : ∀ i, i + 1 < S.length → (sa S i).length ≤ (sa S (i + 1)).length := fun i hi => by
    have := (h i (by omega)).le
    rwa [nx, Nat.mod_eq_of_lt hi] at this
  have last : (sa S (S.length - 1)).length ≤ (sa S 0).length := by
    have := (h (S.length - 1) (by omega)).le
    rwa [nx, show S.length - 1 + 1 = S.length by omega, Nat.mod_self] at this
  have up : ∀ k i, i + k < S.length → (sa S i).length ≤ (sa S (i + k)).length := by
    intro k
    induction k with
    | zero => intro i _; exact Nat.le_refl _
    | succ k ih => intro i hi; exact Nat.le_trans (ih i (by omega)) (step (i + k) hi)
  have le : ∀ i j, i < S.length → j < S.length → (sa S i).length ≤ (sa S j).length := by
    intro i j hi hj
    have h1 := up (S.length - 1 - i) i (by omega)
    rw [show i + (S.length - 1 - i) = S.length - 1 by omega] at h1
    have h2 := up j 0 (by omega)
    rw [Nat.zero_add] at h2
    omega
  exact fun i j hi hj => Nat.le_antisymm (le i j hi hj) (le j i hj hi)
/-- The list of the sets behind the sets. -/
def behind (S : AA) : AA := S.drop 1 ++ [sa S 0]
theorem behind_len {S : AA} (hn : 1 ≤ S.length) : (behind S).length = S.length := by simp [behind]; omega
theorem behind_at {S : AA} (hn : 1 ≤ S.length) {i : Nat} (hi : i < S.length) : sa (behind S) i = nx S i := by
  unfold behind
  by_cases h : i + 1 < S.length
  · rw [nx, Nat.mod_eq_of_lt h]
    unfold sa
    simp only [List.getD_eq_getElem?_getD]
    rw [List.getElem?_append_left (by simp; omega), List.getElem?_drop, Nat.add_comm]
  · have e : i + 1 = S.length := by omega
    rw [nx, e, Nat.mod_self]
    have e2 : i = (S.drop 1).length := by simp; omega
    unfold sa
    simp only [List.getD_eq_getElem?_getD]
    rw [e2, List.getElem?_append_right (Nat.le_refl _)]
    simp
section
variable {S : AA} (g : Good S)
include g
theorem impl_led2 : loop impl_fails_l0 (S, S.flatten, behind S, S, ((S.length : Nat) : Int), (0 : Int), ()) = some (sel (∃ i, i < S.length ∧ ¬ Lead (sa S i) (nx S i)) (.inl (2, ())) (.inr (S, S.flatten, behind S, ()))) := by
  have h12 := g.most
  exact loop_any (step := impl_fails_l0) (fun i => (S, S.flatten, behind S, S, ((S.length : Nat) : Int), (i : Int), ())) S.length (.inr (S, S.flatten, behind S, ())) (.inl (2, ())) (fun i => ¬ Lead (sa S i) (nx S i)) (by
    intro i hi _
    simp only [impl_fails_l0, ltb hi, ltb (show i < (behind S).length by rw [behind_len g.one]; exact hi), nn, Bool.and_self, cond_true, Int.toNat_natCast]
    rw [show (behind S).getD i [] = nx S i from behind_at g.one hi]
    rw [impl_leads_ok (fun x hx => g.ang _ (sa_mem hi) x hx) (g.len hi) (g.len (nx_lt g.one i))]
    simp only [Option.bind_some]
    by_cases h : Lead (sa S i) (nx S i)
    · rw [sel_neg (by simpa using h), show decide (Lead (S.getD i []) (nx S i)) = true from decide_eq_true h, Bool.not_true, cond_false, w64_succ (by omega)]
    · rw [sel_pos h, show decide (Lead (S.getD i []) (nx S i)) = false from decide_eq_false h, Bool.not_false, cond_true]) (by
    intro _
    simp only [impl_fails_l0, nltb (Nat.lt_irrefl S.length), cond_false])
theorem spec_led2 : loop spec_l07Fails_l0 (S, ((S.length : Nat) : Int), (0 : Int), ()) = some (sel (∃ i, i < S.length ∧ ¬ (Lead (sa S i) (nx S i) ∧ (sa S i).length = (nx S i).length)) (.inl (2, ())) (.inr (S, ((S.length : Nat) : Int), ()))) := by
  have h12 := g.most
  have h1 := g.one
  exact loop_any (step := spec_l07Fails_l0) (fun i => (S, ((S.length : Nat) : Int), (i : Int), ())) S.length (.inr (S, ((S.length : Nat) : Int), ())) (.inl (2, ())) (fun i => ¬ (Lead (sa S i) (nx S i) ∧ (sa S i).length = (nx S i).length)) (by
    intro i hi _
    simp only [spec_l07Fails_l0, ltb hi, nn, Bool.and_self, cond_true, Int.toNat_natCast, e0_false (show 0 < S.length by omega), Bool.not_false, w64_succ (show i < 4611686018427387904 by omega), tmod_nat, ltb (nx_lt g.one i)]
    rw [spec_led_ok (fun x hx => g.ang _ (sa_mem hi) x hx) (g.len hi) (g.len (nx_lt g.one i))]
    simp only [Option.bind_some]
    by_cases h : Lead (sa S i) (nx S i) ∧ (sa S i).length = (nx S i).length
    · rw [sel_neg (fun h' => h' h), show decide (Lead (S.getD i []) (S.getD ((i + 1) % S.length) []) ∧ (S.getD i []).length = (S.getD ((i + 1) % S.length) []).length) = true from decide_eq_true h, Bool.not_true, cond_false]
    · rw [sel_pos h, show decide (Lead (S.getD i []) (S.getD ((i + 1) % S.length) []) ∧ (S.getD i []).length = (S.getD ((i + 1) % S.length) []).length) = false from decide_eq_false h, Bool.not_false, cond_true]) (by
    intro _
    simp only [spec_l07Fails_l0, nltb (Nat.lt_irrefl S.length), cond_false])
theorem led_iff : (∃ i, i < S.length ∧ ¬ (Lead (sa S i) (nx S i) ∧ (sa S i).length = (nx S i).length)) ↔ ∃ i, i < S.length ∧ ¬ Lead (sa S i) (nx S i) := by
  constructor
  · rintro ⟨i, hi, h⟩
    apply Classical.byContradiction
    intro hn
    have hall : ∀ i, i < S.length → Lead (sa S i) (nx S i) := fun i hi => Classical.byContradiction fun h' => hn ⟨i, hi, h'⟩
    exact h ⟨hall i hi, led_len g.one hall i _ hi (nx_lt g.one i)⟩
  · rintro ⟨i, hi, h⟩
    exact ⟨i, hi, fun h' => h h'.1⟩
end
/-- The order is kept. -/
def Keep (s t : List Ang) : Prop := ∀ i, i < s.length → fi (dbl (ea s ((i + 1) % s.length))) t = (fi (dbl (ea s i)) t + 1) % s.length
theorem impl_at_ok {xs : List Ang} (h : 0 < xs.length) (k : Nat) : impl_at xs (k : Int) = some (ea xs (k % xs.length)) := by
  unfold impl_at
  simp only [e0_false h, Bool.not_false, cond_true, tmod_nat, ltb (Nat.mod_lt k h), nn, Bool.and_self, Int.toNat_natCast]
theorem asc_at {t : List Ang} (ht : Asc t) {i j : Nat} (hi : i < t.length) (hj : j < t.length) (e : ea t i = ea t j) : i = j := by
  have hA := (asc_iff ht.1).1 ht
  rcases Nat.lt_trichotomy i j with h | h | h
  · have := ascL_lt hA h hj
    rw [e] at this; exact absurd this (Int.lt_irrefl _)
  · exact h
  · have := ascL_lt hA h hi
    rw [e] at this; exact absurd this (Int.lt_irrefl _)
theorem fi_at {t : List Ang} (ht : Asc t) {i : Nat} (hi : i < t.length) : fi (ea t i) t = i := fi_eq hi rfl fun j hj e => by
  have := asc_at ht (by omega) hi e
  omega
theorem impl_keeps_ok {s t : List Ang} (hs : ∀ x ∈ s, isA x) (ht : Asc t) (h0 : 0 < s.length) (hl : s.length ≤ 64) (hd : Lead s t) (he : s.length = t.length) : impl_keeps s t = some (decide (Keep s t)) := by
  unfold impl_keeps
  have hL := loop_any (step := impl_keeps_l0) (fun i => (s, t, s, ((s.length : Nat) : Int), (i : Int), ())) s.length (.inr ()) (.inl (false, ())) (fun i => ¬ fi (dbl (ea s ((i + 1) % s.length))) t = (fi (dbl (ea s i)) t + 1) % s.length) (by
    intro i hi _
    have hm : (i + 1) % s.length < s.length := Nat.mod_lt _ h0
    simp only [impl_keeps_l0, ltb hi, nn, Bool.and_self, cond_true, Int.toNat_natCast, w64_succ (show i < 4611686018427387904 by omega)]
    rw [impl_at_ok h0]
    simp only [Option.bind_some]
    rw [impl_dbl (hs _ (ea_mem hm))]
    simp only [Option.bind_some]
    rw [impl_dbl (hs _ (ea_mem hi))]
    simp only [Option.bind_some]
    rw [impl_index (by omega)]
    have hf := fi_spec (hd.1 i hi)
    have hf' := fi_spec (hd.1 _ hm)
    rw [show plc t (dbl (s.getD i dA)) = (fi (dbl (ea s i)) t : Int) from plc_of (hd.1 i hi)]
    simp only [Option.bind_some]
    rw [w64_succ (by omega), impl_at_ok (by omega)]
    simp only [Option.bind_some]
    rw [beqA]
    have hiff : dbl (ea s ((i + 1) % s.length)) = ea t ((fi (dbl (ea s i)) t + 1) % t.length) ↔ fi (dbl (ea s ((i + 1) % s.length))) t = (fi (dbl (ea s i)) t + 1) % s.length := by
      have hm2 : (fi (dbl (ea s i)) t + 1) % t.length < t.length := Nat.mod_lt _ (by omega)
      constructor
      · intro e; rw [e, fi_at ht hm2, he]
      · intro e; rw [← he, ← e, hf'.2.1]
    by_cases h : fi (dbl (ea s ((i + 1) % s.length))) t = (fi (dbl (ea s i)) t + 1) % s.length
    · rw [sel_neg (fun h' => h' h), decide_eq_true (hiff.2 h), Bool.not_true, cond_false]
    · rw [sel_pos h, decide_eq_false (fun h' => h (hiff.1 h')), Bool.not_false, cond_true]) (by
    intro _
    simp only [impl_keeps_l0, nltb (Nat.lt_irrefl s.length), cond_false])
  have t' : loop impl_keeps_l0 (s, t, s, ((s.length : Nat) : Int), (0 : Int), ()) = _ := hL
  rw [t']
  by_cases h : Keep s t
  · rw [sel_neg (fun ⟨i, hi, h'⟩ => h' (h i hi)), decide_eq_true h]; rfl
  · rw [sel_pos (Classical.byContradiction fun hn => h fun i hi => Classical.byContradiction fun h' => hn ⟨i, hi, h'⟩), decide_eq_false h]; rfl
theorem spec_ordered_ok {s t : List Ang} (hs : ∀ x ∈ s, isA x) (h0 : 0 < s.length) (hl : s.length ≤ 64) (hd : Lead s t) (he : s.length = t.length) : spec_l07Ordered s t = some (decide (Keep s t)) := by
  unfold spec_l07Ordered
  have hL := loop_any (step := spec_l07Ordered_l0) (fun i => (s, t, ((s.length : Nat) : Int), (i : Int), ())) s.length (.inr ()) (.inl (false, ())) (fun i => ¬ fi (dbl (ea s ((i + 1) % s.length))) t = (fi (dbl (ea s i)) t + 1) % s.length) (by
    intro i hi _
    have hm : (i + 1) % s.length < s.length := Nat.mod_lt _ h0
    simp only [spec_l07Ordered_l0, ltb hi, nn, Bool.and_self, cond_true, Int.toNat_natCast, w64_succ (show i < 4611686018427387904 by omega), e0_false h0, Bool.not_false, tmod_nat, ltb hm]
    rw [spec_dbl (hs _ (ea_mem hi))]
    simp only [Option.bind_some]
    rw [spec_place (by omega)]
    simp only [Option.bind_some]
    rw [spec_dbl (hs _ (ea_mem hm))]
    simp only [Option.bind_some]
    rw [spec_place (by omega)]
    have hf := fi_spec (hd.1 i hi)
    have hf' := fi_spec (hd.1 _ hm)
    rw [show plc t (dbl (s.getD i dA)) = (fi (dbl (ea s i)) t : Int) from plc_of (hd.1 i hi), show plc t (dbl (s.getD ((i + 1) % s.length) dA)) = (fi (dbl (ea s ((i + 1) % s.length))) t : Int) from plc_of (hd.1 _ hm)]
    simp only [Option.bind_some, w64_succ (show fi (dbl (ea s i)) t < 4611686018427387904 by omega), tmod_nat, bne, eq_nat]
    by_cases h : fi (dbl (ea s ((i + 1) % s.length))) t = (fi (dbl (ea s i)) t + 1) % s.length
    · rw [sel_neg (fun h' => h' h), decide_eq_true h, Bool.not_true, cond_false]
    · rw [sel_pos h, decide_eq_false h, Bool.not_false, cond_true]) (by
    intro _
    simp only [spec_l07Ordered_l0, nltb (Nat.lt_irrefl s.length), cond_false])
  have t' : loop spec_l07Ordered_l0 (s, t, ((s.length : Nat) : Int), (0 : Int), ()) = _ := hL
  rw [t']
  by_cases h : Keep s t
  · rw [sel_neg (fun ⟨i, hi, h'⟩ => h' (h i hi)), decide_eq_true h]; rfl
  · rw [sel_pos (Classical.byContradiction fun hn => h fun i hi => Classical.byContradiction fun h' => hn ⟨i, hi, h'⟩), decide_eq_false h]; rfl
section
variable {S : AA} (g : Good S) (hd : ∀ i, i < S.length → Lead (sa S i) (nx S i))
include g hd
theorem impl_keep3 : loop impl_fails_l1 (S, S.flatten, behind S, S, ((S.length : Nat) : Int), (0 : Int), ()) = some (sel (∃ i, i < S.length ∧ ¬ Keep (sa S i) (nx S i)) (.inl (3, ())) (.inr (S, S.flatten, ()))) := by
  have h12 := g.most
  exact loop_any (step := impl_fails_l1) (fun i => (S, S.flatten, behind S, S, ((S.length : Nat) : Int), (i : Int), ())) S.length (.inr (S, S.flatten, ())) (.inl (3, ())) (fun i => ¬ Keep (sa S i) (nx S i)) (by
    intro i hi _
    simp only [impl_fails_l1, ltb hi, ltb (show i < (behind S).length by rw [behind_len g.one]; exact hi), nn, Bool.and_self, cond_true, Int.toNat_natCast]
    rw [show (behind S).getD i [] = nx S i from behind_at g.one hi]
    rw [impl_keeps_ok (fun x hx => g.ang _ (sa_mem hi) x hx) (g.asc (nx_lt g.one i)) (g.ne hi) (g.len hi) (hd i hi) (led_len g.one hd i _ hi (nx_lt g.one i))]
    simp only [Option.bind_some]
    by_cases h : Keep (sa S i) (nx S i)
    · rw [sel_neg (by simpa using h), show decide (Keep (S.getD i []) (nx S i)) = true from decide_eq_true h, Bool.not_true, cond_false, w64_succ (by omega)]
    · rw [sel_pos h, show decide (Keep (S.getD i []) (nx S i)) = false from decide_eq_false h, Bool.not_false, cond_true]) (by
    intro _
    simp only [impl_fails_l1, nltb (Nat.lt_irrefl S.length), cond_false])
theorem spec_keep3 : loop spec_l07Fails_l1 (S, ((S.length : Nat) : Int), (0 : Int), ()) = some (sel (∃ i, i < S.length ∧ ¬ Keep (sa S i) (nx S i)) (.inl (3, ())) (.inr (S, ((S.length : Nat) : Int), ()))) := by
  have h12 := g.most
  have h1 := g.one
  exact loop_any (step := spec_l07Fails_l1) (fun i => (S, ((S.length : Nat) : Int), (i : Int), ())) S.length (.inr (S, ((S.length : Nat) : Int), ())) (.inl (3, ())) (fun i => ¬ Keep (sa S i) (nx S i)) (by
    intro i hi _
    simp only [spec_l07Fails_l1, ltb hi, nn, Bool.and_self, cond_true, Int.toNat_natCast, e0_false (show 0 < S.length by omega), Bool.not_false, w64_succ (show i < 4611686018427387904 by omega), tmod_nat, ltb (nx_lt g.one i)]
    rw [spec_ordered_ok (fun x hx => g.ang _ (sa_mem hi) x hx) (g.ne hi) (g.len hi) (hd i hi) (led_len g.one hd i _ hi (nx_lt g.one i))]
    simp only [Option.bind_some]
    by_cases h : Keep (sa S i) (nx S i)
    · rw [sel_neg (fun h' => h' h), show decide (Keep (S.getD i []) (S.getD ((i + 1) % S.length) [])) = true from decide_eq_true h, Bool.not_true, cond_false]
    · rw [sel_pos h, show decide (Keep (S.getD i []) (S.getD ((i + 1) % S.length) [])) = false from decide_eq_false h, Bool.not_false, cond_true]) (by
    intro _
    simp only [spec_l07Fails_l1, nltb (Nat.lt_irrefl S.length), cond_false])
end
end Go.K.Pure

/- Plain laws of portraits, part H: periods. -/
set_option linter.unusedVariables false
set_option linter.unusedSimpArgs false
namespace Go.K.Pure
open Classical

/-- An orbit, with what is told beside it. -/
noncomputable def ob (a : Ang) : List Ang × Int × Bool := (impl_Angle_orbit a).getD ([], 0, false)
section
variable {a : Ang} (h : isA a)
include h
theorem ob_impl : impl_Angle_orbit a = some (ob a) := by
  obtain ⟨r, h1, _⟩ := orbit_same h
  unfold ob
  rw [h1]; rfl
theorem ob_spec : spec_l01Orbit a = some (ob a) := by
  obtain ⟨r, h1, h2, _⟩ := orbit_same h
  unfold ob
  rw [h1, h2]; rfl
theorem ob_len : (ob a).1.length ≤ 64 := by
  obtain ⟨r, h1, h2, h3, _⟩ := orbit_same h
  unfold ob
  rw [h1]; exact h3
theorem ob_ok (hk : (ob a).2.2 = true) : (ob a).2.1 = (pre a : Int) ∧ pre a < (ob a).1.length := by
  obtain ⟨r, h1, h2, h3, h4, h5⟩ := orbit_same h
  unfold ob at hk ⊢
  rw [h1] at hk ⊢
  exact ⟨(h4 hk).1, (h4 hk).2.1⟩
end
/-- Periodic, with a given number of angles in the orbit. -/
def PerOK (x : Ang) (L : Nat) : Prop := (ob x).2.2 = true ∧ pre x = 0 ∧ (ob x).1.length = L
theorem impl_preper {a : Ang} (h : isA a) : impl_preperiods a = some (sel ((ob a).2.2 = true) ((pre a : Int), (((ob a).1.length - pre a : Nat) : Int)) (-1, 0)) := by
  unfold impl_preperiods
  rw [ob_impl h]
  simp only [Option.bind_some]
  have hl := ob_len h
  by_cases hk : (ob a).2.2 = true
  · obtain ⟨h1, h2⟩ := ob_ok h hk
    rw [hk, sel_pos rfl, h1, Bool.not_true, cond_false, w64_id (by omega) (by omega)]
    congr 2
    omega
  · have : (ob a).2.2 = false := by simpa using hk
    rw [this, sel_neg (by simp)]
    rfl
theorem impl_allPer {xs : List Ang} (hv : ∀ x ∈ xs, isA x) (hl : xs.length ≤ 1048576) (L : Nat) : impl_areAll_impl_Angle_v3 xs (L : Int) = some (decide (∀ x ∈ xs, PerOK x L)) := by
  unfold impl_areAll_impl_Angle_v3 slices_ContainsFunc__impl_Angle_impl_Angle_v3 slices_IndexFunc__impl_Angle_impl_Angle_v3
  have hL := loop_first (step := slices_IndexFunc__impl_Angle_impl_Angle_v3_l0) (fun i => (xs, (), (((), (L : Int), ()), ()), ((xs.length : Nat) : Int), (i : Int), ())) xs.length (.inr ()) (fun i => .inl ((i : Int), ())) (fun i => ¬ PerOK (ea xs i) L) (by
    intro i hi _
    simp only [slices_IndexFunc__impl_Angle_impl_Angle_v3_l0, impl_areAll_impl_Angle_f1_v3, impl_periodic_f1, ltb hi, nn, Bool.and_self, cond_true, Int.toNat_natCast]
    rw [impl_preper (hv _ (ea_mem hi))]
    simp only [Option.bind_some]
    by_cases hk : (ob (ea xs i)).2.2 = true
    · obtain ⟨h1, h2⟩ := ob_ok (hv _ (ea_mem hi)) hk
      rw [show sel ((ob (xs.getD i dA)).2.2 = true) ((pre (xs.getD i dA) : Int), (((ob (xs.getD i dA)).1.length - pre (xs.getD i dA) : Nat) : Int)) (-1, 0) = ((pre (ea xs i) : Int), (((ob (ea xs i)).1.length - pre (ea xs i) : Nat) : Int)) from sel_pos hk]
      simp only
      by_cases hp : pre (ea xs i) = 0
      · rw [hp, Nat.sub_zero]
        have c : (((0 : Nat) : Int) == 0) = true := rfl
        rw [c, cond_true, eq_nat]
        simp only [Option.bind_some]
        by_cases hq : (ob (ea xs i)).1.length = L
        · rw [decide_eq_true hq, sel_neg (fun h => h ⟨hk, hp, hq⟩), Bool.not_true, cond_false, w64_succ (by omega)]
        · rw [decide_eq_false hq, sel_pos (fun h => hq h.2.2), Bool.not_false, cond_true]
      · rw [e0_false (show 0 < pre (ea xs i) by omega), cond_false, sel_pos (fun h => hp h.2.1)]
        rfl
    · rw [show sel ((ob (xs.getD i dA)).2.2 = true) ((pre (xs.getD i dA) : Int), (((ob (xs.getD i dA)).1.length - pre (xs.getD i dA) : Nat) : Int)) (-1, 0) = (-1, 0) from sel_neg hk, sel_pos (fun h => hk h.1)]
      rfl) (by
    intro _
    simp only [slices_IndexFunc__impl_Angle_impl_Angle_v3_l0, nltb (Nat.lt_irrefl xs.length), cond_false])
  rcases hL with ⟨i, hi, hp, hL⟩ | ⟨hp, hL⟩
  · have t' : loop slices_IndexFunc__impl_Angle_impl_Angle_v3_l0 (xs, (), (((), (L : Int), ()), ()), ((xs.length : Nat) : Int), (0 : Int), ()) = _ := hL
    rw [t', decide_eq_false (fun h => hp (h _ (ea_mem hi)))]
    simp only [Option.bind_some, alt]
    have : decide ((i : Int) ≥ 0) = true := decide_eq_true (by omega)
    rw [this]; rfl
  · have t' : loop slices_IndexFunc__impl_Angle_impl_Angle_v3_l0 (xs, (), (((), (L : Int), ()), ()), ((xs.length : Nat) : Int), (0 : Int), ()) = _ := hL
    rw [t', decide_eq_true (fun x hx => by
      obtain ⟨i, hi, rfl⟩ := mem_ea hx
      exact Classical.byContradiction (hp i hi))]
    rfl
theorem impl_periodic_ok {xs : List Ang} (hv : ∀ x ∈ xs, isA x) (hl : xs.length ≤ 1048576) (h0 : 0 < xs.length) : impl_periodic xs = some (decide (∀ x ∈ xs, PerOK x (ob (ea xs 0)).1.length)) := by
  unfold impl_periodic
  have c : (decide ((0 : Int) ≤ (0 : Int)) && decide ((0 : Int) < ((xs.length : Nat) : Int))) = true := inb h0
  rw [c, cond_true]
  have e : xs.getD (0 : Int).toNat dA = ea xs 0 := rfl
  rw [e, impl_preper (hv _ (ea_mem h0))]
  simp only [Option.bind_some]
  by_cases hk : (ob (ea xs 0)).2.2 = true
  · obtain ⟨h1, h2⟩ := ob_ok (hv _ (ea_mem h0)) hk
    rw [sel_pos hk]
    simp only
    rw [impl_allPer hv hl]
    simp only [Option.bind_some]
    by_cases hp : pre (ea xs 0) = 0
    · rw [hp, Nat.sub_zero]
    · congr 1
      exact decide_eq_decide.2 ⟨fun h => absurd (h _ (ea_mem h0)).2.1 hp, fun h => absurd (h _ (ea_mem h0)).2.1 hp⟩
  · rw [sel_neg hk]
    have e0 : impl_areAll_impl_Angle_v3 xs (0 : Int) = _ := impl_allPer hv hl 0
    simp only
    rw [e0]
    simp only [Option.bind_some]
    congr 1
    exact decide_eq_decide.2 ⟨fun h => absurd (h _ (ea_mem h0)).1 hk, fun h => absurd (h _ (ea_mem h0)).1 hk⟩
section
variable {S : AA} (g : Good S)
include g
theorem flat_pos : 0 < S.flatten.length := Nat.lt_of_lt_of_le (g.ne g.one) (len_fl g.one)
theorem flat_zero : ea S.flatten 0 = ea (sa S 0) 0 := by
  have h1 := g.one
  have h2 := g.ne g.one
  cases S with
  | nil => simp at h1
  | cons s r =>
    have e : sa (s :: r) 0 = s := rfl
    rw [e] at h2 ⊢
    cases s with
    | nil => simp at h2
    | cons x s => rfl
/-- The period that is known when a place is come to. -/
noncomputable def kp (L i k : Nat) : Int := sel (i = 0 ∧ k = 0) 0 (L : Int)
theorem spec_per4 : loop spec_l07Fails_l2 (S, ((S.length : Nat) : Int), (0 : Int), (0 : Int), ()) = some (sel (∃ i, i < S.length ∧ ∃ k, k < (sa S i).length ∧ ¬ PerOK (ea (sa S i) k) (ob (ea S.flatten 0)).1.length) (.inl (4, ())) (.inr (S, ((S.length : Nat) : Int), ()))) := by
  have h12 := g.most
  have h1 := g.one
  rw [flat_zero g]
  generalize hL0 : (ob (ea (sa S 0) 0)).1.length = L
  have hLp : PerOK (ea (sa S 0) 0) L → 0 < L := fun h => by
    have := ob_ok (g.isA g.one (g.ne g.one)) h.1
    omega
  have hin : ∀ i, i < S.length → (0 < i → PerOK (ea (sa S 0) 0) L) → loop spec_l07Fails_l3 (S, ((S.length : Nat) : Int), kp L i 0, (i : Int), (0 : Int), ()) = some (sel (∃ k, k < (sa S i).length ∧ ¬ PerOK (ea (sa S i) k) L) (.inl (4, ())) (.inr (S, ((S.length : Nat) : Int), (L : Int), (i : Int), ()))) := by
    intro i hi hpos
    have hlen := g.len hi
    have hne := g.ne hi
    have e : kp L i (sa S i).length = (L : Int) := sel_neg (fun h => by omega)
    rw [← e]
    exact loop_any (step := spec_l07Fails_l3) (fun k => (S, ((S.length : Nat) : Int), kp L i k, (i : Int), (k : Int), ())) (sa S i).length (.inr (S, ((S.length : Nat) : Int), kp L i (sa S i).length, (i : Int), ())) (.inl (4, ())) (fun k => ¬ PerOK (ea (sa S i) k) L) (by
      intro k hk hbef
      have c1 : decide ((k : Int) < ((S.getD i []).length : Int)) = true := ltb hk
      have hx := g.isA hi hk
      have hle := ob_len hx
      have e2 : kp L i (k + 1) = (L : Int) := sel_neg (fun h => by omega)
      simp only [spec_l07Fails_l3, ltb hi, nn, Bool.and_self, cond_true, Int.toNat_natCast, c1]
      rw [show spec_l01Orbit ((S.getD i []).getD k dA) = some (ob (ea (sa S i) k)) from ob_spec hx]
      simp only [Option.bind_some]
      by_cases hok : (ob (ea (sa S i) k)).2.2 = true
      rotate_left
      · have hf : (ob (ea (sa S i) k)).2.2 = false := by simpa using hok
        rw [hf, Bool.not_false, cond_true, sel_pos (fun h => hok h.1)]
      obtain ⟨q1, q2⟩ := ob_ok hx hok
      rw [hok, Bool.not_true, cond_false, q1]
      by_cases hp : pre (ea (sa S i) k) = 0
      rotate_left
      · have c2 : ((pre (ea (sa S i) k) : Int) != 0) = true := by rw [bne, e0_false (show 0 < pre (ea (sa S i) k) by omega)]; rfl
        rw [c2, cond_true, sel_pos (fun h => hp h.2.1)]
      have c2 : ((pre (ea (sa S i) k) : Int) != 0) = false := by rw [hp]; rfl
      rw [c2, cond_false]
      by_cases h00 : i = 0 ∧ k = 0
      · obtain ⟨rfl, rfl⟩ := h00
        have e3 : kp L 0 0 = 0 := sel_pos ⟨rfl, rfl⟩
        rw [e3]
        have c3 : decide ((0 : Int) > 0) = false := by simp
        rw [c3, cond_false, sel_neg (fun h => h ⟨hok, hp, hL0⟩), w64_succ (by omega), hL0, e2]
      · have hfirst : PerOK (ea (sa S 0) 0) L := by
          rcases Nat.eq_zero_or_pos i with e0 | e0
          · subst e0
            exact Classical.byContradiction (hbef 0 (by omega))
          · exact hpos e0
        have hLpos := hLp hfirst
        have e3 : kp L i k = (L : Int) := sel_neg h00
        rw [e3]
        have c3 : decide ((L : Int) > 0) = true := decide_eq_true (by omega)
        rw [c3, cond_true]
        simp only [bne, eq_nat]
        by_cases hq : (ob (ea (sa S i) k)).1.length = L
        · rw [decide_eq_true hq, Bool.not_true, cond_false, sel_neg (fun h => h ⟨hok, hp, hq⟩), w64_succ (by omega), hq, e2]
        · rw [decide_eq_false hq, Bool.not_false, cond_true, sel_pos (fun h => hq h.2.2)]) (by
      intro _
      have c1 : decide (((sa S i).length : Int) < ((S.getD i []).length : Int)) = false := nltb (Nat.lt_irrefl _)
      simp only [spec_l07Fails_l3, ltb hi, nn, Bool.and_self, cond_true, Int.toNat_natCast, c1, cond_false])
  have h0 := loop_any (step := spec_l07Fails_l2) (fun i => (S, ((S.length : Nat) : Int), kp L i 0, (i : Int), ())) S.length (.inr (S, ((S.length : Nat) : Int), ())) (.inl (4, ())) (fun i => ∃ k, k < (sa S i).length ∧ ¬ PerOK (ea (sa S i) k) L) (by
    intro i hi hbef
    simp only [spec_l07Fails_l2, ltb hi, cond_true]
    rw [hin i hi (fun hp => Classical.byContradiction fun hn => hbef 0 hp ⟨0, g.ne g.one, hn⟩)]
    by_cases h : ∃ k, k < (sa S i).length ∧ ¬ PerOK (ea (sa S i) k) L
    · rw [sel_pos h, sel_pos h]; rfl
    · rw [sel_neg h, sel_neg h]
      simp only [Option.bind_some, alt]
      have e2 : kp L (i + 1) 0 = (L : Int) := sel_neg (fun h => by omega)
      rw [w64_succ (by omega), e2]) (by
    intro _
    simp only [spec_l07Fails_l2, nltb (Nat.lt_irrefl S.length), cond_false])
  have e0 : kp L 0 0 = 0 := sel_pos ⟨rfl, rfl⟩
  simp only [e0] at h0
  exact h0
omit g in
theorem per_iff (L : Nat) : (∃ i, i < S.length ∧ ∃ k, k < (sa S i).length ∧ ¬ PerOK (ea (sa S i) k) L) ↔ ¬ ∀ x ∈ S.flatten, PerOK x L := by
  constructor
  · rintro ⟨i, hi, k, hk, h⟩ hall
    exact h (hall _ (List.mem_flatten.2 ⟨_, sa_mem hi, ea_mem hk⟩))
  · intro h
    apply Classical.byContradiction
    intro hn
    refine h fun x hx => ?_
    obtain ⟨s, hs, hx⟩ := List.mem_flatten.1 hx
    obtain ⟨i, hi, rfl⟩ := mem_sa hs
    obtain ⟨k, hk, rfl⟩ := mem_ea hx
    exact Classical.byContradiction fun h' => hn ⟨i, hi, k, hk, h'⟩
end
end Go.K.Pure

