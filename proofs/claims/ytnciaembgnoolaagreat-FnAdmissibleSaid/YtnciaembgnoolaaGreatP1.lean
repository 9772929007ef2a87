/- Part 1 of the plain law: the functions of the program as plain functions on lists and numbers, and what is shown of them; no condition. -/
import Derived.Test.YtnciaembgnoolaaGreatS1
set_option linter.all false
set_option linter.all false
set_option maxRecDepth 100000
namespace Go.K.Pure
abbrev w64 (n : Int) : Int := IntKind.wrap .i64 n
abbrev wi32 (n : Int) : Int := IntKind.wrap .i32 n
abbrev wu8 (n : Int) : Int := IntKind.wrap .u8 n
abbrev wu32 (n : Int) : Int := IntKind.wrap .u32 n
abbrev wu64 (n : Int) : Int := IntKind.wrap .u64 n
noncomputable def laws_big (code : List Int) : Option (Bool) :=
  some ((decide (((code.length : Nat) : Int) > (4096 : Int))))
noncomputable def spec_l01From_l0 : (List Int) × (((List Int) × (Int × (Int × Unit)))) × Int × Unit → Option (Ctl ((List Int) × (((List Int) × (Int × (Int × Unit)))) × Int × Unit) (((((List Int) × (Int × (Int × Unit)))) × Unit)))
  | (code, (s, (i, ()))) =>
    bif (decide (i < ((code.length : Nat) : Int))) then
   bif (decide (i < (4096 : Int))) then
    bif ((decide ((0 : Int) ≤ i)) && (decide (i < ((code.length : Nat) : Int)))) then
     some (.next (code, ((s.1, s.2.1, (wu64 ((wu64 ((wu64 (s.2.2.1 * (1099511628211 : Int))) + (wu64 (code.getD i.toNat (0 : Int))))) + (53 : Int))), s.2.2.2), ((w64 (i + (1 : Int))), ()))))
    else none
   else some (.stop ((s, ())))
  else some (.stop ((s, ())))
noncomputable def spec_l01From (code : List Int) : Option ((((List Int) × (Int × (Int × Unit))))) :=
  (loop spec_l01From_l0 (code, (code, (0 : Int), (wu64 ((11437 : Int) + (wu64 ((code.length : Nat) : Int)))), ()), (0 : Int), ())).bind fun r0 =>
  some (r0.1)
noncomputable def spec_l01Next (s : ((List Int) × (Int × (Int × Unit)))) (n : Int) : Option (Int × (((List Int) × (Int × (Int × Unit))))) :=
  bif (decide (n < (1 : Int))) then
   some ((0 : Int), s)
  else bif (decide ((0 : Int) ≤ (33 : Int))) then
    bif (decide (s.2.1 < ((s.1.length : Nat) : Int))) then
     bif ((decide ((0 : Int) ≤ s.2.1)) && (decide (s.2.1 < ((s.1.length : Nat) : Int)))) then
      bif (!(n == (0 : Int))) then
       some (((w64 ((w64 (wu64 (((BitVec.toNat (HAnd.hAnd (BitVec.ofInt 64 ((wu64 ((wu64 (s.2.2.1 * (6364136223846793005 : Int))) + (1442695040888963407 : Int))).fdiv ((2 : Int) ^ (min (33 : Int).toNat 64)))) (BitVec.ofInt 64 (16777215 : Int)))) : Nat) : Int))) + (w64 (s.1.getD s.2.1.toNat (0 : Int))))).tmod n), (s.1, (w64 (s.2.1 + (1 : Int))), (wu64 ((wu64 (s.2.2.1 * (6364136223846793005 : Int))) + (1442695040888963407 : Int))), s.2.2.2))
      else none
     else none
    else bif (!(n == (0 : Int))) then
      some (((w64 (wu64 (((BitVec.toNat (HAnd.hAnd (BitVec.ofInt 64 ((wu64 ((wu64 (s.2.2.1 * (6364136223846793005 : Int))) + (1442695040888963407 : Int))).fdiv ((2 : Int) ^ (min (33 : Int).toNat 64)))) (BitVec.ofInt 64 (16777215 : Int)))) : Nat) : Int))).tmod n), (s.1, s.2.1, (wu64 ((wu64 (s.2.2.1 * (6364136223846793005 : Int))) + (1442695040888963407 : Int))), s.2.2.2))
     else none
   else none
noncomputable def spec_l01Pick (s : ((List Int) × (Int × (Int × Unit)))) (list : List Int) : Option (Int × (((List Int) × (Int × (Int × Unit))))) :=
  (spec_l01Next s ((list.length : Nat) : Int)).bind fun r0 =>
  bif ((decide ((0 : Int) ≤ r0.1)) && (decide (r0.1 < ((list.length : Nat) : Int)))) then
   some ((list.getD r0.1.toNat (0 : Int)), r0.2)
  else none
noncomputable def spec_l02Star1_l0 : (((List Int) × (Int × (Int × Unit)))) × (((List UInt8) × ((List UInt8) × Unit))) × Int × (List Int) × Int × Unit → Option (Ctl ((((List Int) × (Int × (Int × Unit)))) × (((List UInt8) × ((List UInt8) × Unit))) × Int × (List Int) × Int × Unit) (((((List Int) × (Int × (Int × Unit)))) × (((List UInt8) × ((List UInt8) × Unit))) × Int × (List Int) × Unit)))
  | (s, (t2, (n, (word', (i, ()))))) =>
    bif (decide (i < (w64 (n - (1 : Int))))) then
   (spec_l01Next s (2 : Int)).bind fun r0 =>
   bif (decide (((word'.length + [(wu8 (w64 ((48 : Int) + r0.1)))].length) * 1) ≤ 140737488355328)) then
    some (.next (r0.2, (t2, (n, ((word' ++ [(wu8 (w64 ((48 : Int) + r0.1)))]), ((w64 (i + (1 : Int))), ()))))))
   else none
  else some (.stop ((s, (t2, (n, (word', ()))))))
noncomputable def spec_l02Star1 (s : ((List Int) × (Int × (Int × Unit)))) : Option (((List UInt8) × ((List UInt8) × Unit)) × (((List Int) × (Int × (Int × Unit))))) :=
  (spec_l01Pick s [(1 : Int), (2 : Int), (3 : Int), (4 : Int), (5 : Int), (6 : Int), (7 : Int), (9 : Int)]).bind fun r0 =>
  (loop spec_l02Star1_l0 (r0.2, (([] : List UInt8), ([] : List UInt8), ()), r0.1, ([] : List Int), (0 : Int), ())).bind fun r1 =>
  bif (decide (r1.2.2.1 > (1 : Int))) then
   bif ((decide ((0 : Int) ≤ (0 : Int))) && (decide ((0 : Int) < ((r1.2.2.2.1.length : Nat) : Int)))) then
    bif (decide ((((r1.2.2.2.1.set (0 : Int).toNat (49 : Int)).length + [(42 : Int)].length) * 1) ≤ 140737488355328)) then
     some ((([] : List UInt8), (((r1.2.2.2.1.set (0 : Int).toNat (49 : Int)) ++ [(42 : Int)]).map (fun z3 => (UInt8.ofNat z3.toNat))), ()), r1.1)
    else none
   else none
  else bif (decide (((r1.2.2.2.1.length + [(42 : Int)].length) * 1) ≤ 140737488355328)) then
    some ((([] : List UInt8), ((r1.2.2.2.1 ++ [(42 : Int)]).map (fun z4 => (UInt8.ofNat z4.toNat))), ()), r1.1)
   else none
noncomputable def spec_l01Divisor_l0 : Int × Int × Unit → Option (Ctl (Int × Int × Unit) ((Int × Unit)))
  | (a, (b, ())) =>
    bif (decide (b > (0 : Int))) then
   bif (!(b == (0 : Int))) then
    some (.next (b, ((a.tmod b), ())))
   else none
  else some (.stop ((a, ())))
noncomputable def spec_l01Divisor (a : Int) (b : Int) : Option (Int) :=
  (loop spec_l01Divisor_l0 (a, b, ())).bind fun r0 =>
  some (r0.1)
noncomputable def spec_l01Of (num : Int) (den : Int) : Option ((Int × (Int × Unit))) :=
  bif (!(den == (0 : Int))) then
   bif (!(den == (0 : Int))) then
    (spec_l01Divisor ((w64 ((num.tmod den) + den)).tmod den) den).bind fun r0 =>
    bif (!(r0 == (0 : Int))) then
     bif (!(r0 == (0 : Int))) then
      some (((w64 (((w64 ((num.tmod den) + den)).tmod den).tdiv r0)), (w64 (den.tdiv r0)), ()))
     else none
    else none
   else none
  else none
noncomputable def spec_l01Draw (s : ((List Int) × (Int × (Int × Unit)))) : Option ((Int × (Int × Unit)) × (((List Int) × (Int × (Int × Unit))))) :=
  (spec_l01Pick s [(1 : Int), (3 : Int), (7 : Int), (15 : Int), (31 : Int), (63 : Int), (5 : Int), (9 : Int), (11 : Int), (13 : Int), (17 : Int), (21 : Int)]).bind fun r0 =>
  (spec_l01Next r0.2 (5 : Int)).bind fun r1 =>
  bif (r1.1 == (0 : Int)) then
   (spec_l01Pick r1.2 [(2 : Int), (4 : Int), (8 : Int)]).bind fun r2 =>
   (spec_l01Next r2.2 (w64 (r0.1 * r2.1))).bind fun r3 =>
   (spec_l01Of r3.1 (w64 (r0.1 * r2.1))).bind fun r4 =>
   some (r4, r3.2)
  else bif (r1.1 == (1 : Int)) then
    (spec_l01Next r1.2 (w64 (r0.1 * (2 : Int)))).bind fun r5 =>
    (spec_l01Of r5.1 (w64 (r0.1 * (2 : Int)))).bind fun r6 =>
    some (r6, r5.2)
   else (spec_l01Next r1.2 r0.1).bind fun r7 =>
    (spec_l01Of r7.1 r0.1).bind fun r8 =>
    some (r8, r7.2)
noncomputable def spec_l01Orbit_l0 : ((Int × (Int × Unit))) × Int × Int × Unit → Option (Ctl (((Int × (Int × Unit))) × Int × Int × Unit) ((((Int × (Int × Unit))) × Int × Unit)))
  | (a, (pre, (den, ()))) =>
    bif (!((2 : Int) == (0 : Int))) then
   bif ((den.tmod (2 : Int)) == (0 : Int)) then
    bif (!((2 : Int) == (0 : Int))) then
     some (.next (a, ((w64 (pre + (1 : Int))), ((w64 (den.tdiv (2 : Int))), ()))))
    else none
   else some (.stop ((a, (pre, ()))))
  else none
noncomputable def spec_l01Double (a : (Int × (Int × Unit))) : Option ((Int × (Int × Unit))) :=
  (spec_l01Of (w64 ((2 : Int) * a.1)) a.2.1).bind fun r0 =>
  some (r0)
noncomputable def spec_l01Orbit_l1 : Int × (List (Int × (Int × Unit))) × ((Int × (Int × Unit))) × Unit → Option (Ctl (Int × (List (Int × (Int × Unit))) × ((Int × (Int × Unit))) × Unit) ((Int × Bool × (List (Int × (Int × Unit))) × Unit) ⊕ ((List (Int × (Int × Unit))) × Int × Bool × (List (Int × (Int × Unit))) × Unit)))
  | (pre, (out, (x, ()))) =>
    bif (decide (((out.length : Nat) : Int) > pre)) then
   bif ((decide ((0 : Int) ≤ pre)) && (decide (pre < ((out.length : Nat) : Int)))) then
    bif ((x.1 == (out.getD pre.toNat ((0 : Int), (0 : Int), ())).1) && ((x.2.1 == (out.getD pre.toNat ((0 : Int), (0 : Int), ())).2.1) && true)) then
     some (.stop (.inl (pre, (true, (out, ())))))
    else bif (((out.length : Nat) : Int) == (64 : Int)) then
      some (.stop (.inr ((([] : List (Int × (Int × Unit))), ((0 : Int), (false, (out, ())))))))
     else bif (decide (((out.length + [x].length) * 16) ≤ 140737488355328)) then
       (spec_l01Double x).bind fun r0 =>
       some (.next (pre, ((out ++ [x]), (r0, ()))))
      else none
   else none
  else bif (((out.length : Nat) : Int) == (64 : Int)) then
    some (.stop (.inr ((([] : List (Int × (Int × Unit))), ((0 : Int), (false, (out, ())))))))
   else bif (decide (((out.length + [x].length) * 16) ≤ 140737488355328)) then
     (spec_l01Double x).bind fun r1 =>
     some (.next (pre, ((out ++ [x]), (r1, ()))))
    else none
noncomputable def spec_l01Orbit (a : (Int × (Int × Unit))) : Option ((List (Int × (Int × Unit))) × Int × Bool) :=
  (loop spec_l01Orbit_l0 (a, (0 : Int), a.2.1, ())).bind fun r0 =>
  (loop spec_l01Orbit_l1 (r0.2.1, ([] : List (Int × (Int × Unit))), r0.1, ())).bind fun r1 =>
  alt r1 (fun r2 =>
   some (r2.2.2.1, r2.1, r2.2.1))
   (fun r3 =>
   some (r3.1, r3.2.1, r3.2.2.1))
noncomputable def spec_l02Letter (x : (Int × (Int × Unit))) (t : (Int × (Int × Unit))) : Option (Int) :=
  (spec_l01Double x).bind fun r0 =>
  bif ((r0.1 == t.1) && ((r0.2.1 == t.2.1) && true)) then
   some ((42 : Int))
  else bif (decide ((w64 ((w64 ((2 : Int) * t.2.1)) * x.1)) > (w64 (t.1 * x.2.1)))) then
    bif (decide ((w64 ((w64 ((2 : Int) * t.2.1)) * x.1)) < (w64 ((w64 (t.1 + t.2.1)) * x.2.1)))) then
     some ((49 : Int))
    else some ((48 : Int))
   else some ((48 : Int))
noncomputable def spec_l02Itinerary_l0 : ((Int × (Int × Unit))) × (((List UInt8) × ((List UInt8) × Unit))) × (List (Int × (Int × Unit))) × Int × (List Int) × Int × Unit → Option (Ctl (((Int × (Int × Unit))) × (((List UInt8) × ((List UInt8) × Unit))) × (List (Int × (Int × Unit))) × Int × (List Int) × Int × Unit) (((((List UInt8) × ((List UInt8) × Unit))) × Int × (List Int) × Unit)))
  | (t, (t4, (orbit, (pre, (word', (i, ())))))) =>
    bif (decide (i < ((orbit.length : Nat) : Int))) then
   bif ((decide ((0 : Int) ≤ i)) && (decide (i < ((orbit.length : Nat) : Int)))) then
    (spec_l02Letter (orbit.getD i.toNat ((0 : Int), (0 : Int), ())) t).bind fun r0 =>
    bif (decide (((word'.length + [r0].length) * 1) ≤ 140737488355328)) then
     some (.next (t, (t4, (orbit, (pre, ((word' ++ [r0]), ((w64 (i + (1 : Int))), ())))))))
    else none
   else none
  else some (.stop ((t4, (pre, (word', ())))))
noncomputable def spec_l01Canonical_l1 : (List UInt8) × (List UInt8) × (((List UInt8) × ((List UInt8) × Unit))) × Int × Int × Bool × Int × Unit → Option (Ctl ((List UInt8) × (List UInt8) × (((List UInt8) × ((List UInt8) × Unit))) × Int × Int × Bool × Int × Unit) (((List UInt8) × (List UInt8) × (((List UInt8) × ((List UInt8) × Unit))) × Int × Int × Bool × Unit)))
  | (pre, (per, (t4, (n, (k, (same, (i, ()))))))) =>
    bif (decide (i < n)) then
   bif same then
    bif ((decide ((0 : Int) ≤ i)) && (decide (i < ((per.length : Nat) : Int)))) then
     bif ((decide ((0 : Int) ≤ (w64 (i - k)))) && (decide ((w64 (i - k)) < ((per.length : Nat) : Int)))) then
      some (.next (pre, (per, (t4, (n, (k, (((((per.getD i.toNat (0 : UInt8)).toNat : Nat) : Int) == (((per.getD (w64 (i - k)).toNat (0 : UInt8)).toNat : Nat) : Int)), ((w64 (i + (1 : Int))), ()))))))))
     else none
    else none
   else some (.next (pre, (per, (t4, (n, (k, (false, ((w64 (i + (1 : Int))), ()))))))))
  else some (.stop ((pre, (per, (t4, (n, (k, (same, ()))))))))
noncomputable def spec_l01Canonical_l0 : (List UInt8) × (List UInt8) × (((List UInt8) × ((List UInt8) × Unit))) × Int × Int × Unit → Option (Ctl ((List UInt8) × (List UInt8) × (((List UInt8) × ((List UInt8) × Unit))) × Int × Int × Unit) (((List UInt8) × (List UInt8) × (((List UInt8) × ((List UInt8) × Unit))) × Unit)))
  | (pre, (per, (t4, (n, (k, ()))))) =>
    bif (decide (k ≤ n)) then
   bif (!(k == (0 : Int))) then
    bif ((n.tmod k) != (0 : Int)) then
     some (.next (pre, (per, (t4, (n, ((w64 (k + (1 : Int))), ()))))))
    else (loop spec_l01Canonical_l1 (pre, per, t4, n, k, true, k, ())).bind fun r0 =>
     bif r0.2.2.2.2.2.1 then
      bif (((decide ((0 : Int) ≤ (0 : Int))) && (decide ((0 : Int) ≤ r0.2.2.2.2.1))) && (decide (r0.2.2.2.2.1 ≤ ((r0.2.1.length : Nat) : Int)))) then
       some (.stop ((r0.1, (((r0.2.1.take r0.2.2.2.2.1.toNat).drop (0 : Int).toNat), (r0.2.2.1, ())))))
      else none
     else some (.next (r0.1, (r0.2.1, (r0.2.2.1, (r0.2.2.2.1, ((w64 (r0.2.2.2.2.1 + (1 : Int))), ()))))))
   else none
  else some (.stop ((pre, (per, (t4, ())))))
noncomputable def spec_l01Canonical_l2 : (List UInt8) × (List UInt8) × (((List UInt8) × ((List UInt8) × Unit))) × Unit → Option (Ctl ((List UInt8) × (List UInt8) × (((List UInt8) × ((List UInt8) × Unit))) × Unit) (((List UInt8) × (List UInt8) × (((List UInt8) × ((List UInt8) × Unit))) × Unit)))
  | (pre, (per, (t4, ()))) =>
    bif (decide (((pre.length : Nat) : Int) > (0 : Int))) then
   bif ((decide ((0 : Int) ≤ (w64 (((pre.length : Nat) : Int) - (1 : Int))))) && (decide ((w64 (((pre.length : Nat) : Int) - (1 : Int))) < ((pre.length : Nat) : Int)))) then
    bif ((decide ((0 : Int) ≤ (w64 (((per.length : Nat) : Int) - (1 : Int))))) && (decide ((w64 (((per.length : Nat) : Int) - (1 : Int))) < ((per.length : Nat) : Int)))) then
     bif ((((pre.getD (w64 (((pre.length : Nat) : Int) - (1 : Int))).toNat (0 : UInt8)).toNat : Nat) : Int) == (((per.getD (w64 (((per.length : Nat) : Int) - (1 : Int))).toNat (0 : UInt8)).toNat : Nat) : Int)) then
      bif (((decide ((0 : Int) ≤ (w64 (((per.length : Nat) : Int) - (1 : Int))))) && (decide ((w64 (((per.length : Nat) : Int) - (1 : Int))) ≤ ((per.length : Nat) : Int)))) && (decide (((per.length : Nat) : Int) ≤ ((per.length : Nat) : Int)))) then
       bif (((decide ((0 : Int) ≤ (0 : Int))) && (decide ((0 : Int) ≤ (w64 (((per.length : Nat) : Int) - (1 : Int)))))) && (decide ((w64 (((per.length : Nat) : Int) - (1 : Int))) ≤ ((per.length : Nat) : Int)))) then
        bif (decide ((((per.take ((per.length : Nat) : Int).toNat).drop (w64 (((per.length : Nat) : Int) - (1 : Int))).toNat).length + ((per.take (w64 (((per.length : Nat) : Int) - (1 : Int))).toNat).drop (0 : Int).toNat).length) ≤ 1152921504606846976)) then
         bif (((decide ((0 : Int) ≤ (0 : Int))) && (decide ((0 : Int) ≤ (w64 (((pre.length : Nat) : Int) - (1 : Int)))))) && (decide ((w64 (((pre.length : Nat) : Int) - (1 : Int))) ≤ ((pre.length : Nat) : Int)))) then
          some (.next (((pre.take (w64 (((pre.length : Nat) : Int) - (1 : Int))).toNat).drop (0 : Int).toNat), ((((per.take ((per.length : Nat) : Int).toNat).drop (w64 (((per.length : Nat) : Int) - (1 : Int))).toNat) ++ ((per.take (w64 (((per.length : Nat) : Int) - (1 : Int))).toNat).drop (0 : Int).toNat)), (t4, ()))))
         else none
        else none
       else none
      else none
     else some (.stop ((pre, (per, (t4, ())))))
    else none
   else none
  else some (.stop ((pre, (per, (t4, ())))))
noncomputable def spec_l01Canonical (pre : List UInt8) (per : List UInt8) : Option (((List UInt8) × ((List UInt8) × Unit))) :=
  (loop spec_l01Canonical_l0 (pre, per, (([] : List UInt8), ([] : List UInt8), ()), ((per.length : Nat) : Int), (1 : Int), ())).bind fun r0 =>
  (loop spec_l01Canonical_l2 (r0.1, r0.2.1, r0.2.2.1, ())).bind fun r1 =>
  some ((r1.1, r1.2.1, ()))
noncomputable def spec_l02Itinerary (x : (Int × (Int × Unit))) (t : (Int × (Int × Unit))) : Option (((List UInt8) × ((List UInt8) × Unit)) × Bool) :=
  (spec_l01Orbit x).bind fun r0 =>
  bif (!r0.2.2) then
   some ((([] : List UInt8), ([] : List UInt8), ()), false)
  else (loop spec_l02Itinerary_l0 (t, (([] : List UInt8), ([] : List UInt8), ()), r0.1, r0.2.1, ([] : List Int), (0 : Int), ())).bind fun r1 =>
   bif (((decide ((0 : Int) ≤ (0 : Int))) && (decide ((0 : Int) ≤ r1.2.1))) && (decide (r1.2.1 ≤ ((r1.2.2.1.length : Nat) : Int)))) then
    bif (((decide ((0 : Int) ≤ r1.2.1)) && (decide (r1.2.1 ≤ ((r1.2.2.1.length : Nat) : Int)))) && (decide (((r1.2.2.1.length : Nat) : Int) ≤ ((r1.2.2.1.length : Nat) : Int)))) then
     (spec_l01Canonical (((r1.2.2.1.take r1.2.1.toNat).drop (0 : Int).toNat).map (fun z5 => (UInt8.ofNat z5.toNat))) (((r1.2.2.1.take ((r1.2.2.1.length : Nat) : Int).toNat).drop r1.2.1.toNat).map (fun z6 => (UInt8.ofNat z6.toNat)))).bind fun r2 =>
     some (r2, true)
    else none
   else none
noncomputable def spec_l02Draw_l0 : (((List Int) × (Int × (Int × Unit)))) × (((List UInt8) × ((List UInt8) × Unit))) × (((List UInt8) × ((List UInt8) × Unit))) × (List UInt8) × (List UInt8) × Int × Unit → Option (Ctl ((((List Int) × (Int × (Int × Unit)))) × (((List UInt8) × ((List UInt8) × Unit))) × (((List UInt8) × ((List UInt8) × Unit))) × (List UInt8) × (List UInt8) × Int × Unit) (((((List Int) × (Int × (Int × Unit)))) × (((List UInt8) × ((List UInt8) × Unit))) × (((List UInt8) × ((List UInt8) × Unit))) × (List UInt8) × (List UInt8) × Unit)))
  | (s, (t2, (out, (pre, (per, (k, ())))))) =>
    bif (decide (k > (0 : Int))) then
   (spec_l01Next s (5 : Int)).bind fun r0 =>
   bif ((decide ((0 : Int) ≤ r0.1)) && (decide (r0.1 < (([(Array.toList (List.toArray [(48 : UInt8)])), (Array.toList (List.toArray [(49 : UInt8)])), (Array.toList (List.toArray [(48 : UInt8)])), (Array.toList (List.toArray [(49 : UInt8)])), (Array.toList (List.toArray [(42 : UInt8)]))].length : Nat) : Int)))) then
    bif (decide ((pre.length + ([(Array.toList (List.toArray [(48 : UInt8)])), (Array.toList (List.toArray [(49 : UInt8)])), (Array.toList (List.toArray [(48 : UInt8)])), (Array.toList (List.toArray [(49 : UInt8)])), (Array.toList (List.toArray [(42 : UInt8)]))].getD r0.1.toNat ([] : List UInt8)).length) ≤ 1152921504606846976)) then
     some (.next (r0.2, (t2, (out, ((pre ++ ([(Array.toList (List.toArray [(48 : UInt8)])), (Array.toList (List.toArray [(49 : UInt8)])), (Array.toList (List.toArray [(48 : UInt8)])), (Array.toList (List.toArray [(49 : UInt8)])), (Array.toList (List.toArray [(42 : UInt8)]))].getD r0.1.toNat ([] : List UInt8))), (per, ((w64 (k - (1 : Int))), ())))))))
    else none
   else none
  else some (.stop ((s, (t2, (out, (pre, (per, ())))))))
noncomputable def spec_l02Draw_l1 : (((List Int) × (Int × (Int × Unit)))) × (((List UInt8) × ((List UInt8) × Unit))) × (((List UInt8) × ((List UInt8) × Unit))) × (List UInt8) × (List UInt8) × Int × Unit → Option (Ctl ((((List Int) × (Int × (Int × Unit)))) × (((List UInt8) × ((List UInt8) × Unit))) × (((List UInt8) × ((List UInt8) × Unit))) × (List UInt8) × (List UInt8) × Int × Unit) (((((List Int) × (Int × (Int × Unit)))) × (((List UInt8) × ((List UInt8) × Unit))) × (((List UInt8) × ((List UInt8) × Unit))) × (List UInt8) × (List UInt8) × Unit)))
  | (s, (t2, (out, (pre, (per, (k, ())))))) =>
    bif (decide (k > (0 : Int))) then
   (spec_l01Next s (5 : Int)).bind fun r0 =>
   bif ((decide ((0 : Int) ≤ r0.1)) && (decide (r0.1 < (([(Array.toList (List.toArray [(48 : UInt8)])), (Array.toList (List.toArray [(49 : UInt8)])), (Array.toList (List.toArray [(48 : UInt8)])), (Array.toList (List.toArray [(49 : UInt8)])), (Array.toList (List.toArray [(42 : UInt8)]))].length : Nat) : Int)))) then
    bif (decide ((per.length + ([(Array.toList (List.toArray [(48 : UInt8)])), (Array.toList (List.toArray [(49 : UInt8)])), (Array.toList (List.toArray [(48 : UInt8)])), (Array.toList (List.toArray [(49 : UInt8)])), (Array.toList (List.toArray [(42 : UInt8)]))].getD r0.1.toNat ([] : List UInt8)).length) ≤ 1152921504606846976)) then
     some (.next (r0.2, (t2, (out, (pre, ((per ++ ([(Array.toList (List.toArray [(48 : UInt8)])), (Array.toList (List.toArray [(49 : UInt8)])), (Array.toList (List.toArray [(48 : UInt8)])), (Array.toList (List.toArray [(49 : UInt8)])), (Array.toList (List.toArray [(42 : UInt8)]))].getD r0.1.toNat ([] : List UInt8))), ((w64 (k - (1 : Int))), ())))))))
    else none
   else none
  else some (.stop ((s, (t2, (out, (pre, (per, ())))))))
noncomputable def spec_l02Draw (s : ((List Int) × (Int × (Int × Unit)))) : Option (((List UInt8) × ((List UInt8) × Unit)) × (((List Int) × (Int × (Int × Unit))))) :=
  (spec_l01Next s (4 : Int)).bind fun r0 =>
  bif (r0.1 == (0 : Int)) then
   (spec_l02Star1 r0.2).bind fun r1 =>
   (spec_l01Next r1.2 (40 : Int)).bind fun r2 =>
   bif (r2.1 == (0 : Int)) then
    some ((r1.1.1, (Array.toList (List.toArray ([] : List UInt8))), r1.1.2.2), r2.2)
   else bif (r2.1 == (1 : Int)) then
     bif (decide ((r1.1.1.length + r1.1.2.1.length) ≤ 1152921504606846976)) then
      some (((r1.1.1 ++ r1.1.2.1), r1.1.2), r2.2)
     else none
    else bif (r2.1 == (2 : Int)) then
      bif (decide ((r1.1.2.1.length + r1.1.2.1.length) ≤ 1152921504606846976)) then
       some ((r1.1.1, (r1.1.2.1 ++ r1.1.2.1), r1.1.2.2), r2.2)
      else none
     else bif (r2.1 == (3 : Int)) then
       bif (decide (((Array.toList (List.toArray [(50 : UInt8)])).length + r1.1.2.1.length) ≤ 1152921504606846976)) then
        some ((r1.1.1, ((Array.toList (List.toArray [(50 : UInt8)])) ++ r1.1.2.1), r1.1.2.2), r2.2)
       else none
      else some (r1.1, r2.2)
  else bif (r0.1 == (1 : Int)) then
    (spec_l01Draw r0.2).bind fun r3 =>
    (spec_l01Draw r3.2).bind fun r4 =>
    (spec_l02Itinerary r4.1 r3.1).bind fun r5 =>
    bif r5.2 then
     (spec_l01Next r4.2 (40 : Int)).bind fun r6 =>
     bif (r6.1 == (0 : Int)) then
      some ((r5.1.1, (Array.toList (List.toArray ([] : List UInt8))), r5.1.2.2), r6.2)
     else bif (r6.1 == (1 : Int)) then
       bif (decide ((r5.1.1.length + r5.1.2.1.length) ≤ 1152921504606846976)) then
        some (((r5.1.1 ++ r5.1.2.1), r5.1.2), r6.2)
       else none
      else bif (r6.1 == (2 : Int)) then
        bif (decide ((r5.1.2.1.length + r5.1.2.1.length) ≤ 1152921504606846976)) then
         some ((r5.1.1, (r5.1.2.1 ++ r5.1.2.1), r5.1.2.2), r6.2)
        else none
       else bif (r6.1 == (3 : Int)) then
         bif (decide (((Array.toList (List.toArray [(50 : UInt8)])).length + r5.1.2.1.length) ≤ 1152921504606846976)) then
          some ((r5.1.1, ((Array.toList (List.toArray [(50 : UInt8)])) ++ r5.1.2.1), r5.1.2.2), r6.2)
         else none
        else some (r5.1, r6.2)
    else (spec_l02Star1 r4.2).bind fun r7 =>
     (spec_l01Next r7.2 (40 : Int)).bind fun r8 =>
     bif (r8.1 == (0 : Int)) then
      some ((r7.1.1, (Array.toList (List.toArray ([] : List UInt8))), r7.1.2.2), r8.2)
     else bif (r8.1 == (1 : Int)) then
       bif (decide ((r7.1.1.length + r7.1.2.1.length) ≤ 1152921504606846976)) then
        some (((r7.1.1 ++ r7.1.2.1), r7.1.2), r8.2)
       else none
      else bif (r8.1 == (2 : Int)) then
        bif (decide ((r7.1.2.1.length + r7.1.2.1.length) ≤ 1152921504606846976)) then
         some ((r7.1.1, (r7.1.2.1 ++ r7.1.2.1), r7.1.2.2), r8.2)
        else none
       else bif (r8.1 == (3 : Int)) then
         bif (decide (((Array.toList (List.toArray [(50 : UInt8)])).length + r7.1.2.1.length) ≤ 1152921504606846976)) then
          some ((r7.1.1, ((Array.toList (List.toArray [(50 : UInt8)])) ++ r7.1.2.1), r7.1.2.2), r8.2)
         else none
        else some (r7.1, r8.2)
   else bif (r0.1 == (2 : Int)) then
     (spec_l01Draw r0.2).bind fun r9 =>
     (spec_l02Itinerary r9.1 r9.1).bind fun r10 =>
     bif r10.2 then
      (spec_l01Next r9.2 (40 : Int)).bind fun r11 =>
      bif (r11.1 == (0 : Int)) then
       some ((r10.1.1, (Array.toList (List.toArray ([] : List UInt8))), r10.1.2.2), r11.2)
      else bif (r11.1 == (1 : Int)) then
        bif (decide ((r10.1.1.length + r10.1.2.1.length) ≤ 1152921504606846976)) then
         some (((r10.1.1 ++ r10.1.2.1), r10.1.2), r11.2)
        else none
       else bif (r11.1 == (2 : Int)) then
         bif (decide ((r10.1.2.1.length + r10.1.2.1.length) ≤ 1152921504606846976)) then
          some ((r10.1.1, (r10.1.2.1 ++ r10.1.2.1), r10.1.2.2), r11.2)
         else none
        else bif (r11.1 == (3 : Int)) then
          bif (decide (((Array.toList (List.toArray [(50 : UInt8)])).length + r10.1.2.1.length) ≤ 1152921504606846976)) then
           some ((r10.1.1, ((Array.toList (List.toArray [(50 : UInt8)])) ++ r10.1.2.1), r10.1.2.2), r11.2)
          else none
         else some (r10.1, r11.2)
     else (spec_l02Star1 r9.2).bind fun r12 =>
      (spec_l01Next r12.2 (40 : Int)).bind fun r13 =>
      bif (r13.1 == (0 : Int)) then
       some ((r12.1.1, (Array.toList (List.toArray ([] : List UInt8))), r12.1.2.2), r13.2)
      else bif (r13.1 == (1 : Int)) then
        bif (decide ((r12.1.1.length + r12.1.2.1.length) ≤ 1152921504606846976)) then
         some (((r12.1.1 ++ r12.1.2.1), r12.1.2), r13.2)
        else none
       else bif (r13.1 == (2 : Int)) then
         bif (decide ((r12.1.2.1.length + r12.1.2.1.length) ≤ 1152921504606846976)) then
          some ((r12.1.1, (r12.1.2.1 ++ r12.1.2.1), r12.1.2.2), r13.2)
         else none
        else bif (r13.1 == (3 : Int)) then
          bif (decide (((Array.toList (List.toArray [(50 : UInt8)])).length + r12.1.2.1.length) ≤ 1152921504606846976)) then
           some ((r12.1.1, ((Array.toList (List.toArray [(50 : UInt8)])) ++ r12.1.2.1), r12.1.2.2), r13.2)
          else none
         else some (r12.1, r13.2)
    else (spec_l01Next r0.2 (3 : Int)).bind fun r14 =>
     bif ((decide ((0 : Int) ≤ r14.1)) && (decide (r14.1 < (([(Array.toList (List.toArray [(48 : UInt8)])), (Array.toList (List.toArray [(49 : UInt8)])), (Array.toList (List.toArray [(42 : UInt8)]))].length : Nat) : Int)))) then
      (spec_l01Next r14.2 (4 : Int)).bind fun r15 =>
      (loop spec_l02Draw_l0 (r15.2, (([] : List UInt8), ([] : List UInt8), ()), (([] : List UInt8), ([] : List UInt8), ()), (Array.toList (List.toArray ([] : List UInt8))), ([(Array.toList (List.toArray [(48 : UInt8)])), (Array.toList (List.toArray [(49 : UInt8)])), (Array.toList (List.toArray [(42 : UInt8)]))].getD r14.1.toNat ([] : List UInt8)), r15.1, ())).bind fun r16 =>
      (spec_l01Next r16.1 (6 : Int)).bind fun r17 =>
      (loop spec_l02Draw_l1 (r17.2, r16.2.1, r16.2.2.1, r16.2.2.2.1, r16.2.2.2.2.1, r17.1, ())).bind fun r18 =>
      (spec_l01Canonical r18.2.2.2.1 r18.2.2.2.2.1).bind fun r19 =>
      (spec_l01Next r18.1 (40 : Int)).bind fun r20 =>
      bif (r20.1 == (0 : Int)) then
       some ((r19.1, (Array.toList (List.toArray ([] : List UInt8))), r19.2.2), r20.2)
      else bif (r20.1 == (1 : Int)) then
        bif (decide ((r19.1.length + r19.2.1.length) ≤ 1152921504606846976)) then
         some (((r19.1 ++ r19.2.1), r19.2), r20.2)
        else none
       else bif (r20.1 == (2 : Int)) then
         bif (decide ((r19.2.1.length + r19.2.1.length) ≤ 1152921504606846976)) then
          some ((r19.1, (r19.2.1 ++ r19.2.1), r19.2.2), r20.2)
         else none
        else bif (r20.1 == (3 : Int)) then
          bif (decide (((Array.toList (List.toArray [(50 : UInt8)])).length + r19.2.1.length) ≤ 1152921504606846976)) then
           some ((r19.1, ((Array.toList (List.toArray [(50 : UInt8)])) ++ r19.2.1), r19.2.2), r20.2)
          else none
         else some (r19, r20.2)
     else none
noncomputable def spec_DrawIsStarPeriodic (code : List Int) : Option (((List UInt8) × ((List UInt8) × Unit))) :=
  (spec_l01From code).bind fun r0 =>
  (spec_l02Draw r0).bind fun r1 =>
  some (r1.1)
noncomputable def impl_areLetters_f1 (c : Int) : Option (Bool) :=
  bif (c == (48 : Int)) then
   some (true)
  else bif (c == (49 : Int)) then
    some (true)
   else some ((c == (42 : Int)))
noncomputable def impl_areAll_byte_f1 (x : Int) : Option (Bool) :=
  (impl_areLetters_f1 x).bind fun r0 =>
  some ((!r0))
noncomputable def slices_IndexFunc__byte_byte_l0 : (List Int) × Unit × ((Unit × Unit) × Unit) × Int × Int × Unit → Option (Ctl ((List Int) × Unit × ((Unit × Unit) × Unit) × Int × Int × Unit) ((Int × Unit) ⊕ (Unit)))
  | (s, ((), (((), ()), ()), (t7, (t8, ())))) =>
    bif (decide (t8 < t7)) then
   bif ((decide ((0 : Int) ≤ t8)) && (decide (t8 < ((s.length : Nat) : Int)))) then
    (impl_areAll_byte_f1 (s.getD t8.toNat (0 : Int))).bind fun r0 =>
    bif r0 then
     some (.stop (.inl (t8, ())))
    else some (.next (s, ((), (((), ()), ()), (t7, ((w64 (t8 + (1 : Int))), ())))))
   else none
  else some (.stop (.inr (())))
noncomputable def slices_IndexFunc__byte_byte (s : List Int) : Option (Int) :=
  (loop slices_IndexFunc__byte_byte_l0 (s, (), (((), ()), ()), ((s.length : Nat) : Int), (0 : Int), ())).bind fun r0 =>
  alt r0 (fun r1 =>
   some (r1.1))
   (fun r2 =>
   some ((-1 : Int)))
noncomputable def slices_ContainsFunc__byte_byte (s : List Int) : Option (Bool) :=
  (slices_IndexFunc__byte_byte s).bind fun r0 =>
  some ((decide (r0 ≥ (0 : Int))))
noncomputable def impl_areAll_byte (list : List Int) : Option (Bool) :=
  (slices_ContainsFunc__byte_byte list).bind fun r0 =>
  some ((!r0))
noncomputable def impl_areLetters (s : List UInt8) : Option (Bool) :=
  bif (decide (s.length ≤ 140737488355328)) then
   (impl_areAll_byte (s.map (fun z2 => ((z2.toNat : Nat) : Int)))).bind fun r0 =>
   some (r0)
  else none
noncomputable def impl_areGiven (pre : List UInt8) (per : List UInt8) : Option (Bool) :=
  bif (!(per == (Array.toList (List.toArray ([] : List UInt8))))) then
   some ((decide ((w64 (((pre.length : Nat) : Int) + ((per.length : Nat) : Int))) ≤ (64 : Int))))
  else some (false)
noncomputable def strings_Repeat (s : List UInt8) (count : Int) : Option (List UInt8) :=
  repeatOf s count
noncomputable def impl_root_l0 : (List UInt8) × Int × Unit → Option (Ctl ((List UInt8) × Int × Unit) (((List UInt8) × Int × Unit)))
  | (word', (n, ())) =>
    bif (!(n == (0 : Int))) then
   bif ((((word'.length : Nat) : Int).tmod n) != (0 : Int)) then
    some (.next (word', ((w64 (n + (1 : Int))), ())))
   else bif (((decide ((0 : Int) ≤ (0 : Int))) && (decide ((0 : Int) ≤ n))) && (decide (n ≤ ((word'.length : Nat) : Int)))) then
     bif (!(n == (0 : Int))) then
      (strings_Repeat ((word'.take n.toNat).drop (0 : Int).toNat) (w64 (((word'.length : Nat) : Int).tdiv n))).bind fun r0 =>
      bif (!(r0 == word')) then
       some (.next (word', ((w64 (n + (1 : Int))), ())))
      else some (.stop ((word', (n, ()))))
     else none
    else none
  else none
noncomputable def impl_root (word' : List UInt8) : Option ((List UInt8)) :=
  (loop impl_root_l0 (word', (1 : Int), ())).bind fun r0 =>
  bif (((decide ((0 : Int) ≤ (0 : Int))) && (decide ((0 : Int) ≤ r0.2.1))) && (decide (r0.2.1 ≤ ((r0.1.length : Nat) : Int)))) then
   some (((r0.1.take r0.2.1.toNat).drop (0 : Int).toNat))
  else none
noncomputable def impl_sequence_l0 : (List UInt8) × (List UInt8) × (((List UInt8) × ((List UInt8) × Unit))) × Unit → Option (Ctl ((List UInt8) × (List UInt8) × (((List UInt8) × ((List UInt8) × Unit))) × Unit) (((List UInt8) × (List UInt8) × (((List UInt8) × ((List UInt8) × Unit))) × Unit)))
  | (pre, (per, (t4, ()))) =>
    bif (!(pre == (Array.toList (List.toArray ([] : List UInt8))))) then
   bif ((decide ((0 : Int) ≤ (w64 (((pre.length : Nat) : Int) - (1 : Int))))) && (decide ((w64 (((pre.length : Nat) : Int) - (1 : Int))) < ((pre.length : Nat) : Int)))) then
    bif ((decide ((0 : Int) ≤ (w64 (((per.length : Nat) : Int) - (1 : Int))))) && (decide ((w64 (((per.length : Nat) : Int) - (1 : Int))) < ((per.length : Nat) : Int)))) then
     bif ((((pre.getD (w64 (((pre.length : Nat) : Int) - (1 : Int))).toNat (0 : UInt8)).toNat : Nat) : Int) == (((per.getD (w64 (((per.length : Nat) : Int) - (1 : Int))).toNat (0 : UInt8)).toNat : Nat) : Int)) then
      bif (((decide ((0 : Int) ≤ (0 : Int))) && (decide ((0 : Int) ≤ (w64 (((pre.length : Nat) : Int) - (1 : Int)))))) && (decide ((w64 (((pre.length : Nat) : Int) - (1 : Int))) ≤ ((pre.length : Nat) : Int)))) then
       bif (((decide ((0 : Int) ≤ (w64 (((per.length : Nat) : Int) - (1 : Int))))) && (decide ((w64 (((per.length : Nat) : Int) - (1 : Int))) ≤ ((per.length : Nat) : Int)))) && (decide (((per.length : Nat) : Int) ≤ ((per.length : Nat) : Int)))) then
        bif (((decide ((0 : Int) ≤ (0 : Int))) && (decide ((0 : Int) ≤ (w64 (((per.length : Nat) : Int) - (1 : Int)))))) && (decide ((w64 (((per.length : Nat) : Int) - (1 : Int))) ≤ ((per.length : Nat) : Int)))) then
         bif (decide ((((per.take ((per.length : Nat) : Int).toNat).drop (w64 (((per.length : Nat) : Int) - (1 : Int))).toNat).length + ((per.take (w64 (((per.length : Nat) : Int) - (1 : Int))).toNat).drop (0 : Int).toNat).length) ≤ 1152921504606846976)) then
          some (.next (((pre.take (w64 (((pre.length : Nat) : Int) - (1 : Int))).toNat).drop (0 : Int).toNat), ((((per.take ((per.length : Nat) : Int).toNat).drop (w64 (((per.length : Nat) : Int) - (1 : Int))).toNat) ++ ((per.take (w64 (((per.length : Nat) : Int) - (1 : Int))).toNat).drop (0 : Int).toNat)), (t4, ()))))
         else none
        else none
       else none
      else none
     else some (.stop ((pre, (per, (t4, ())))))
    else none
   else none
  else some (.stop ((pre, (per, (t4, ())))))
noncomputable def impl_sequence (pre : List UInt8) (per : List UInt8) : Option (((List UInt8) × ((List UInt8) × Unit))) :=
  (impl_root per).bind fun r0 =>
  (loop impl_sequence_l0 (pre, r0, (([] : List UInt8), ([] : List UInt8), ()), ())).bind fun r1 =>
  some ((r1.1, r1.2.1, ()))
noncomputable def impl_IsSequence (s : ((List UInt8) × ((List UInt8) × Unit))) : Option (Bool) :=
  bif (decide ((s.1.length + s.2.1.length) ≤ 1152921504606846976)) then
   (impl_areLetters (s.1 ++ s.2.1)).bind fun r0 =>
   bif r0 then
    (impl_areGiven s.1 s.2.1).bind fun r1 =>
    bif r1 then
     (impl_sequence s.1 s.2.1).bind fun r2 =>
     some (((r2.1 == s.1) && ((r2.2.1 == s.2.1) && true)))
    else some (false)
   else some (false)
  else none
noncomputable def impl_areAll_impl_Sequence_f1 (x : ((List UInt8) × ((List UInt8) × Unit))) : Option (Bool) :=
  (impl_IsSequence x).bind fun r0 =>
  some ((!r0))
noncomputable def slices_IndexFunc__impl_Sequence_impl_Sequence_l0 : (List ((List UInt8) × ((List UInt8) × Unit))) × Unit × ((Unit × Unit) × Unit) × Int × Int × Unit → Option (Ctl ((List ((List UInt8) × ((List UInt8) × Unit))) × Unit × ((Unit × Unit) × Unit) × Int × Int × Unit) ((Int × Unit) ⊕ (Unit)))
  | (s, ((), (((), ()), ()), (t7, (t8, ())))) =>
    bif (decide (t8 < t7)) then
   bif ((decide ((0 : Int) ≤ t8)) && (decide (t8 < ((s.length : Nat) : Int)))) then
    (impl_areAll_impl_Sequence_f1 (s.getD t8.toNat (([] : List UInt8), ([] : List UInt8), ()))).bind fun r0 =>
    bif r0 then
     some (.stop (.inl (t8, ())))
    else some (.next (s, ((), (((), ()), ()), (t7, ((w64 (t8 + (1 : Int))), ())))))
   else none
  else some (.stop (.inr (())))
noncomputable def slices_IndexFunc__impl_Sequence_impl_Sequence (s : List ((List UInt8) × ((List UInt8) × Unit))) : Option (Int) :=
  (loop slices_IndexFunc__impl_Sequence_impl_Sequence_l0 (s, (), (((), ()), ()), ((s.length : Nat) : Int), (0 : Int), ())).bind fun r0 =>
  alt r0 (fun r1 =>
   some (r1.1))
   (fun r2 =>
   some ((-1 : Int)))
noncomputable def slices_ContainsFunc__impl_Sequence_impl_Sequence (s : List ((List UInt8) × ((List UInt8) × Unit))) : Option (Bool) :=
  (slices_IndexFunc__impl_Sequence_impl_Sequence s).bind fun r0 =>
  some ((decide (r0 ≥ (0 : Int))))
noncomputable def impl_areAll_impl_Sequence (list : List ((List UInt8) × ((List UInt8) × Unit))) : Option (Bool) :=
  (slices_ContainsFunc__impl_Sequence_impl_Sequence list).bind fun r0 =>
  some ((!r0))
noncomputable def impl_sequencesCode (isRange : Bool) (list : List ((List UInt8) × ((List UInt8) × Unit))) : Option (Int) :=
  (impl_areAll_impl_Sequence list).bind fun r0 =>
  bif (!r0) then
   some ((1 : Int))
  else bif (!isRange) then
    some ((2 : Int))
   else some ((0 : Int))
noncomputable def strings_IndexByte (s : List UInt8) (c : Int) : Option (Int) :=
  ixOf s c
noncomputable def impl_Sequence_isStar (s : ((List UInt8) × ((List UInt8) × Unit))) : Option (Bool) :=
  bif (s.1 == (Array.toList (List.toArray ([] : List UInt8)))) then
   (strings_IndexByte s.2.1 (42 : Int)).bind fun r0 =>
   bif (r0 == (w64 (((s.2.1.length : Nat) : Int) - (1 : Int)))) then
    bif (((s.2.1.length : Nat) : Int) == (1 : Int)) then
     some (true)
    else bif ((decide ((0 : Int) ≤ (0 : Int))) && (decide ((0 : Int) < ((s.2.1.length : Nat) : Int)))) then
      some (((((s.2.1.getD (0 : Int).toNat (0 : UInt8)).toNat : Nat) : Int) == (49 : Int)))
     else none
   else some (false)
  else some (false)
noncomputable def impl_IsStarPeriodic (s : ((List UInt8) × ((List UInt8) × Unit))) : Option (Bool × Int) :=
  (impl_sequencesCode true [s]).bind fun r0 =>
  bif (r0 != (0 : Int)) then
   some (false, r0)
  else (impl_Sequence_isStar s).bind fun r1 =>
   some (r1, (0 : Int))
noncomputable def spec_l01Letters_l0 : (List UInt8) × Int × Unit → Option (Ctl ((List UInt8) × Int × Unit) ((Bool × Unit) ⊕ (Unit)))
  | (text, (i, ())) =>
    bif (decide (i < ((text.length : Nat) : Int))) then
   bif ((decide ((0 : Int) ≤ i)) && (decide (i < ((text.length : Nat) : Int)))) then
    bif ((((text.getD i.toNat (0 : UInt8)).toNat : Nat) : Int) != (48 : Int)) then
     bif ((decide ((0 : Int) ≤ i)) && (decide (i < ((text.length : Nat) : Int)))) then
      bif ((((text.getD i.toNat (0 : UInt8)).toNat : Nat) : Int) != (49 : Int)) then
       bif ((decide ((0 : Int) ≤ i)) && (decide (i < ((text.length : Nat) : Int)))) then
        bif ((((text.getD i.toNat (0 : UInt8)).toNat : Nat) : Int) != (42 : Int)) then
         some (.stop (.inl (false, ())))
        else some (.next (text, ((w64 (i + (1 : Int))), ())))
       else none
      else some (.next (text, ((w64 (i + (1 : Int))), ())))
     else none
    else some (.next (text, ((w64 (i + (1 : Int))), ())))
   else none
  else some (.stop (.inr (())))
noncomputable def spec_l01Letters (text : List UInt8) : Option (Bool) :=
  (loop spec_l01Letters_l0 (text, (0 : Int), ())).bind fun r0 =>
  alt r0 (fun r1 =>
   some (r1.1))
   (fun r2 =>
   some (true))
noncomputable def spec_l01Seq (s : ((List UInt8) × ((List UInt8) × Unit))) : Option (Bool) :=
  (spec_l01Letters s.1).bind fun r0 =>
  bif (!r0) then
   some (false)
  else (spec_l01Letters s.2.1).bind fun r1 =>
   bif (!r1) then
    some (false)
   else bif (s.2.1 == (Array.toList (List.toArray ([] : List UInt8)))) then
     some (false)
    else bif (decide ((w64 (((s.1.length : Nat) : Int) + ((s.2.1.length : Nat) : Int))) > (64 : Int))) then
      some (false)
     else (spec_l01Canonical s.1 s.2.1).bind fun r2 =>
      some (((r2.1 == s.1) && ((r2.2.1 == s.2.1) && true)))
noncomputable def spec_l02Star_l0 : (((List UInt8) × ((List UInt8) × Unit))) × Int × Int × Unit → Option (Ctl ((((List UInt8) × ((List UInt8) × Unit))) × Int × Int × Unit) ((Bool × Unit) ⊕ (Unit)))
  | (s, (n, (i, ()))) =>
    bif (decide (i < (w64 (n - (1 : Int))))) then
   bif ((decide ((0 : Int) ≤ i)) && (decide (i < ((s.2.1.length : Nat) : Int)))) then
    bif ((((s.2.1.getD i.toNat (0 : UInt8)).toNat : Nat) : Int) == (42 : Int)) then
     some (.stop (.inl (false, ())))
    else some (.next (s, (n, ((w64 (i + (1 : Int))), ()))))
   else none
  else some (.stop (.inr (())))
noncomputable def spec_l02Star (s : ((List UInt8) × ((List UInt8) × Unit))) : Option (Bool) :=
  bif (!(s.1 == (Array.toList (List.toArray ([] : List UInt8))))) then
   some (false)
  else bif ((decide ((0 : Int) ≤ (w64 (((s.2.1.length : Nat) : Int) - (1 : Int))))) && (decide ((w64 (((s.2.1.length : Nat) : Int) - (1 : Int))) < ((s.2.1.length : Nat) : Int)))) then
    bif ((((s.2.1.getD (w64 (((s.2.1.length : Nat) : Int) - (1 : Int))).toNat (0 : UInt8)).toNat : Nat) : Int) != (42 : Int)) then
     some (false)
    else bif (decide (((s.2.1.length : Nat) : Int) > (1 : Int))) then
      bif ((decide ((0 : Int) ≤ (0 : Int))) && (decide ((0 : Int) < ((s.2.1.length : Nat) : Int)))) then
       bif ((((s.2.1.getD (0 : Int).toNat (0 : UInt8)).toNat : Nat) : Int) != (49 : Int)) then
        some (false)
       else (loop spec_l02Star_l0 (s, ((s.2.1.length : Nat) : Int), (0 : Int), ())).bind fun r0 =>
        alt r0 (fun r1 =>
         some (r1.1))
         (fun r2 =>
         some (true))
      else none
     else (loop spec_l02Star_l0 (s, ((s.2.1.length : Nat) : Int), (0 : Int), ())).bind fun r3 =>
      alt r3 (fun r4 =>
       some (r4.1))
       (fun r5 =>
       some (true))
   else none
noncomputable def spec_IsStarPeriodic (s : ((List UInt8) × ((List UInt8) × Unit))) : Option (Bool × Int) :=
  (spec_l01Seq s).bind fun r0 =>
  bif (!r0) then
   some (false, (1 : Int))
  else (spec_l02Star s).bind fun r1 =>
   some (r1, (0 : Int))
noncomputable def spec_DrawFailsFor (code : List Int) : Option (((List UInt8) × ((List UInt8) × Unit)) × Int) :=
  (spec_l01From code).bind fun r0 =>
  (spec_l02Star1 r0).bind fun r1 =>
  (spec_l01Next r1.2 (8 : Int)).bind fun r2 =>
  bif (r2.1 == (0 : Int)) then
   (spec_l02Draw r2.2).bind fun r3 =>
   (spec_l01Next r3.2 ((r3.1.2.1.length : Nat) : Int)).bind fun r4 =>
   (spec_l01Next r4.2 (12 : Int)).bind fun r5 =>
   bif (!((11 : Int) == (0 : Int))) then
    some (r3.1, (w64 (r4.1 + (w64 (r5.1.tdiv (11 : Int))))))
   else none
  else (spec_l01Next r2.2 ((r1.1.2.1.length : Nat) : Int)).bind fun r6 =>
   (spec_l01Next r6.2 (12 : Int)).bind fun r7 =>
   bif (!((11 : Int) == (0 : Int))) then
    some (r1.1, (w64 (r6.1 + (w64 (r7.1.tdiv (11 : Int))))))
   else none
noncomputable def impl_within (n : Int) (low : Int) (high : Int) : Option (Bool) :=
  bif (decide (low ≤ n)) then
   some ((decide (n ≤ high)))
  else some (false)
noncomputable def impl_Sequence_at (s : ((List UInt8) × ((List UInt8) × Unit))) (k : Int) : Option (Int) :=
  bif (decide (k < ((s.1.length : Nat) : Int))) then
   bif ((decide ((0 : Int) ≤ k)) && (decide (k < ((s.1.length : Nat) : Int)))) then
    some ((((s.1.getD k.toNat (0 : UInt8)).toNat : Nat) : Int))
   else none
  else bif (!(((s.2.1.length : Nat) : Int) == (0 : Int))) then
    bif ((decide ((0 : Int) ≤ ((w64 (k - ((s.1.length : Nat) : Int))).tmod ((s.2.1.length : Nat) : Int)))) && (decide (((w64 (k - ((s.1.length : Nat) : Int))).tmod ((s.2.1.length : Nat) : Int)) < ((s.2.1.length : Nat) : Int)))) then
     some ((((s.2.1.getD ((w64 (k - ((s.1.length : Nat) : Int))).tmod ((s.2.1.length : Nat) : Int)).toNat (0 : UInt8)).toNat : Nat) : Int))
    else none
   else none
noncomputable def impl_Sequence_rho_l0 : Int × (((List UInt8) × ((List UInt8) × Unit))) × Int × Int × Unit → Option (Ctl (Int × (((List UInt8) × ((List UInt8) × Unit))) × Int × Int × Unit) ((Int × Unit) ⊕ (Unit)))
  | (k, (s, (t12, (t13, ())))) =>
    bif (decide (t13 < t12)) then
   (impl_Sequence_at s t13).bind fun r0 =>
   (impl_Sequence_at s (w64 (t13 + k))).bind fun r1 =>
   bif (r0 != r1) then
    some (.stop (.inl ((w64 ((w64 (t13 + k)) + (1 : Int))), ())))
   else some (.next (k, (s, (t12, ((w64 (t13 + (1 : Int))), ())))))
  else some (.stop (.inr (())))
noncomputable def impl_Sequence_rho (s : ((List UInt8) × ((List UInt8) × Unit))) (k : Int) : Option (Int) :=
  (loop impl_Sequence_rho_l0 (k, s, (w64 (((s.1.length : Nat) : Int) + ((s.2.1.length : Nat) : Int))), (0 : Int), ())).bind fun r0 =>
  alt r0 (fun r1 =>
   some (r1.1))
   (fun r2 =>
   some ((0 : Int)))
noncomputable def impl_Sequence_reaches_l0 : Int × Int × (((List UInt8) × ((List UInt8) × Unit))) × Unit → Option (Ctl (Int × Int × (((List UInt8) × ((List UInt8) × Unit))) × Unit) ((Int × Int × Unit)))
  | (from', (to', (s, ()))) =>
    bif (from' != (0 : Int)) then
   bif (decide (from' < to')) then
    (impl_Sequence_rho s from').bind fun r0 =>
    some (.next (r0, (to', (s, ()))))
   else some (.stop ((from', (to', ()))))
  else some (.stop ((from', (to', ()))))
noncomputable def impl_Sequence_reaches (s : ((List UInt8) × ((List UInt8) × Unit))) (from' : Int) (to' : Int) : Option (Bool) :=
  (loop impl_Sequence_reaches_l0 (from', to', s, ())).bind fun r0 =>
  some ((r0.1 == r0.2.1))
noncomputable def impl_Sequence_fails_l0 : Int × (((List UInt8) × ((List UInt8) × Unit))) × Int × Unit → Option (Ctl (Int × (((List UInt8) × ((List UInt8) × Unit))) × Int × Unit) ((Bool × Unit) ⊕ (Int × (((List UInt8) × ((List UInt8) × Unit))) × Unit)))
  | (m, (s, (k, ()))) =>
    bif (decide (k < m)) then
   bif (!(k == (0 : Int))) then
    bif ((m.tmod k) == (0 : Int)) then
     (impl_Sequence_rho s k).bind fun r0 =>
     bif (decide (r0 > m)) then
      some (.stop (.inl (false, ())))
     else some (.next (m, (s, ((w64 (k + (1 : Int))), ()))))
    else some (.next (m, (s, ((w64 (k + (1 : Int))), ()))))
   else none
  else some (.stop (.inr ((m, (s, ())))))
noncomputable def impl_Sequence_fails (s : ((List UInt8) × ((List UInt8) × Unit))) (m : Int) : Option (Bool) :=
  (impl_Sequence_reaches s (1 : Int) m).bind fun r0 =>
  bif r0 then
   some (false)
  else (loop impl_Sequence_fails_l0 (m, s, (1 : Int), ())).bind fun r1 =>
   alt r1 (fun r2 =>
    some (r2.1))
    (fun r3 =>
    (impl_Sequence_rho r3.2.1 r3.1).bind fun r4 =>
    bif (!(r3.1 == (0 : Int))) then
     (impl_Sequence_reaches r3.2.1 (w64 (((w64 (r4 - (1 : Int))).tmod r3.1) + (1 : Int))) r3.1).bind fun r5 =>
     some (r5)
    else none)
noncomputable def impl_FailsFor (s : ((List UInt8) × ((List UInt8) × Unit))) (m : Int) : Option (Bool × Int) :=
  (impl_IsSequence s).bind fun r0 =>
  bif (!r0) then
   some (false, (1 : Int))
  else (impl_Sequence_isStar s).bind fun r1 =>
   bif (!r1) then
    some (false, (5 : Int))
   else (impl_within m (1 : Int) (w64 (((s.2.1.length : Nat) : Int) - (1 : Int)))).bind fun r2 =>
    bif (!r2) then
     some (false, (2 : Int))
    else (impl_Sequence_fails s m).bind fun r3 =>
     some (r3, (0 : Int))
noncomputable def spec_l01In (n : Int) (low : Int) (high : Int) : Option (Bool) :=
  bif (decide (n ≥ low)) then
   some ((decide (n ≤ high)))
  else some (false)
noncomputable def spec_l01At (s : ((List UInt8) × ((List UInt8) × Unit))) (k : Int) : Option (Int) :=
  bif (decide (k < ((s.1.length : Nat) : Int))) then
   bif ((decide ((0 : Int) ≤ k)) && (decide (k < ((s.1.length : Nat) : Int)))) then
    some ((((s.1.getD k.toNat (0 : UInt8)).toNat : Nat) : Int))
   else none
  else bif (!(((s.2.1.length : Nat) : Int) == (0 : Int))) then
    bif ((decide ((0 : Int) ≤ ((w64 (k - ((s.1.length : Nat) : Int))).tmod ((s.2.1.length : Nat) : Int)))) && (decide (((w64 (k - ((s.1.length : Nat) : Int))).tmod ((s.2.1.length : Nat) : Int)) < ((s.2.1.length : Nat) : Int)))) then
     some ((((s.2.1.getD ((w64 (k - ((s.1.length : Nat) : Int))).tmod ((s.2.1.length : Nat) : Int)).toNat (0 : UInt8)).toNat : Nat) : Int))
    else none
   else none
noncomputable def spec_l02Rho_l0 : Int × (((List UInt8) × ((List UInt8) × Unit))) × Int × Unit → Option (Ctl (Int × (((List UInt8) × ((List UInt8) × Unit))) × Int × Unit) ((Int × Unit) ⊕ (Unit)))
  | (k, (s, (j, ()))) =>
    bif (decide (j ≤ (w64 (k + (w64 (((s.1.length : Nat) : Int) + ((s.2.1.length : Nat) : Int))))))) then
   (spec_l01At s (w64 (j - (1 : Int)))).bind fun r0 =>
   (spec_l01At s (w64 ((w64 (j - k)) - (1 : Int)))).bind fun r1 =>
   bif (r0 != r1) then
    some (.stop (.inl (j, ())))
   else some (.next (k, (s, ((w64 (j + (1 : Int))), ()))))
  else some (.stop (.inr (())))
noncomputable def spec_l02Rho (s : ((List UInt8) × ((List UInt8) × Unit))) (k : Int) : Option (Int) :=
  (loop spec_l02Rho_l0 (k, s, (w64 (k + (1 : Int))), ())).bind fun r0 =>
  alt r0 (fun r1 =>
   some (r1.1))
   (fun r2 =>
   some ((0 : Int)))
noncomputable def spec_l02Along_l0 : Int × (((List UInt8) × ((List UInt8) × Unit))) × (List Int) × Int × Unit → Option (Ctl (Int × (((List UInt8) × ((List UInt8) × Unit))) × (List Int) × Int × Unit) (((List Int) × Unit)))
  | (most, (s, (out, (k, ())))) =>
    bif (decide (k > (0 : Int))) then
   bif (decide (((out.length : Nat) : Int) < most)) then
    bif (decide (((out.length + [k].length) * 8) ≤ 140737488355328)) then
     (spec_l02Rho s k).bind fun r0 =>
     some (.next (most, (s, ((out ++ [k]), (r0, ())))))
    else none
   else some (.stop ((out, ())))
  else some (.stop ((out, ())))
noncomputable def spec_l02Along (s : ((List UInt8) × ((List UInt8) × Unit))) (from' : Int) (most : Int) : Option ((List Int)) :=
  (loop spec_l02Along_l0 (most, s, ([] : List Int), from', ())).bind fun r0 =>
  some (r0.1)
noncomputable def spec_l02Has_l0 : (List Int) × Int × Int × Unit → Option (Ctl ((List Int) × Int × Int × Unit) ((Bool × Unit) ⊕ (Unit)))
  | (list, (m, (i, ()))) =>
    bif (decide (i < ((list.length : Nat) : Int))) then
   bif ((decide ((0 : Int) ≤ i)) && (decide (i < ((list.length : Nat) : Int)))) then
    bif ((list.getD i.toNat (0 : Int)) == m) then
     some (.stop (.inl (true, ())))
    else some (.next (list, (m, ((w64 (i + (1 : Int))), ()))))
   else none
  else some (.stop (.inr (())))
noncomputable def spec_l02Has (list : List Int) (m : Int) : Option (Bool) :=
  (loop spec_l02Has_l0 (list, m, (0 : Int), ())).bind fun r0 =>
  alt r0 (fun r1 =>
   some (r1.1))
   (fun r2 =>
   some (false))
noncomputable def spec_l02Fails_l0 : Int × (((List UInt8) × ((List UInt8) × Unit))) × Int × Int × Unit → Option (Ctl (Int × (((List UInt8) × ((List UInt8) × Unit))) × Int × Int × Unit) ((Bool × Unit) ⊕ (Int × (((List UInt8) × ((List UInt8) × Unit))) × Int × Unit)))
  | (m, (s, (n, (k, ())))) =>
    bif (decide (k < m)) then
   (spec_l02Rho s k).bind fun r0 =>
   bif (!(k == (0 : Int))) then
    bif ((m.tmod k) == (0 : Int)) then
     bif (r0 == (0 : Int)) then
      some (.stop (.inl (false, ())))
     else bif (decide (r0 > m)) then
       some (.stop (.inl (false, ())))
      else some (.next (m, (s, (n, ((w64 (k + (1 : Int))), ())))))
    else some (.next (m, (s, (n, ((w64 (k + (1 : Int))), ())))))
   else none
  else some (.stop (.inr ((m, (s, (n, ()))))))
noncomputable def spec_l02Fails (s : ((List UInt8) × ((List UInt8) × Unit))) (m : Int) : Option (Bool) :=
  (spec_l02Along s (1 : Int) (w64 (((s.2.1.length : Nat) : Int) + (1 : Int)))).bind fun r0 =>
  (spec_l02Has r0 m).bind fun r1 =>
  bif r1 then
   some (false)
  else (loop spec_l02Fails_l0 (m, s, ((s.2.1.length : Nat) : Int), (1 : Int), ())).bind fun r2 =>
   alt r2 (fun r3 =>
    some (r3.1))
    (fun r4 =>
    (spec_l02Rho r4.2.1 r4.1).bind fun r5 =>
    bif (!(r4.1 == (0 : Int))) then
     (spec_l02Along r4.2.1 (w64 (((w64 (r5 - (1 : Int))).tmod r4.1) + (1 : Int))) (w64 (r4.2.2.1 + (1 : Int)))).bind fun r6 =>
     (spec_l02Has r6 r4.1).bind fun r7 =>
     some (r7)
    else none)
noncomputable def spec_FailsFor (s : ((List UInt8) × ((List UInt8) × Unit))) (m : Int) : Option (Bool × Int) :=
  (spec_l01Seq s).bind fun r0 =>
  bif (!r0) then
   some (false, (1 : Int))
  else (spec_l02Star s).bind fun r1 =>
   bif (!r1) then
    some (false, (5 : Int))
   else (spec_l01In m (1 : Int) (w64 (((s.2.1.length : Nat) : Int) - (1 : Int)))).bind fun r2 =>
    bif (!r2) then
     some (false, (2 : Int))
    else (spec_l02Fails s m).bind fun r3 =>
     some (r3, (0 : Int))
noncomputable def spec_DrawIsAdmissible (code : List Int) : Option (((List UInt8) × ((List UInt8) × Unit))) :=
  (spec_l01From code).bind fun r0 =>
  (spec_l01Next r0 (6 : Int)).bind fun r1 =>
  bif (r1.1 == (0 : Int)) then
   (spec_l01Next r1.2 (5 : Int)).bind fun r2 =>
   bif ((decide ((0 : Int) ≤ r2.1)) && (decide (r2.1 < (([(Array.toList (List.toArray [(49 : UInt8), (48 : UInt8), (49 : UInt8), (49 : UInt8), (48 : UInt8), (42 : UInt8)])), (Array.toList (List.toArray [(49 : UInt8), (48 : UInt8), (49 : UInt8), (49 : UInt8), (48 : UInt8), (48 : UInt8), (42 : UInt8)])), (Array.toList (List.toArray [(49 : UInt8), (48 : UInt8), (49 : UInt8), (49 : UInt8), (49 : UInt8), (42 : UInt8)])), (Array.toList (List.toArray [(49 : UInt8), (42 : UInt8)])), (Array.toList (List.toArray [(42 : UInt8)]))].length : Nat) : Int)))) then
    some ((([] : List UInt8), ([(Array.toList (List.toArray [(49 : UInt8), (48 : UInt8), (49 : UInt8), (49 : UInt8), (48 : UInt8), (42 : UInt8)])), (Array.toList (List.toArray [(49 : UInt8), (48 : UInt8), (49 : UInt8), (49 : UInt8), (48 : UInt8), (48 : UInt8), (42 : UInt8)])), (Array.toList (List.toArray [(49 : UInt8), (48 : UInt8), (49 : UInt8), (49 : UInt8), (49 : UInt8), (42 : UInt8)])), (Array.toList (List.toArray [(49 : UInt8), (42 : UInt8)])), (Array.toList (List.toArray [(42 : UInt8)]))].getD r2.1.toNat ([] : List UInt8)), ()))
   else none
  else (spec_DrawFailsFor code).bind fun r3 =>
   some (r3.1)
noncomputable def impl_Sequence_isAdmissible_l0 : (((List UInt8) × ((List UInt8) × Unit))) × Int × Int × Unit → Option (Ctl ((((List UInt8) × ((List UInt8) × Unit))) × Int × Int × Unit) ((Bool × Unit) ⊕ (Unit)))
  | (s, (t6, (t7, ()))) =>
    bif (decide (t7 < t6)) then
   bif (decide (t7 > (0 : Int))) then
    (impl_Sequence_fails s t7).bind fun r0 =>
    bif r0 then
     some (.stop (.inl (false, ())))
    else some (.next (s, (t6, ((w64 (t7 + (1 : Int))), ()))))
   else some (.next (s, (t6, ((w64 (t7 + (1 : Int))), ()))))
  else some (.stop (.inr (())))
noncomputable def impl_Sequence_isAdmissible (s : ((List UInt8) × ((List UInt8) × Unit))) : Option (Bool) :=
  (loop impl_Sequence_isAdmissible_l0 (s, ((s.2.1.length : Nat) : Int), (0 : Int), ())).bind fun r0 =>
  alt r0 (fun r1 =>
   some (r1.1))
   (fun r2 =>
   some (true))
noncomputable def impl_IsAdmissible (s : ((List UInt8) × ((List UInt8) × Unit))) : Option (Bool × Int) :=
  (impl_IsSequence s).bind fun r0 =>
  bif (!r0) then
   some (false, (1 : Int))
  else (impl_Sequence_isStar s).bind fun r1 =>
   bif (!r1) then
    some (false, (5 : Int))
   else (impl_Sequence_isAdmissible s).bind fun r2 =>
    some (r2, (0 : Int))
noncomputable def spec_l02Good_l0 : (((List UInt8) × ((List UInt8) × Unit))) × Int × Unit → Option (Ctl ((((List UInt8) × ((List UInt8) × Unit))) × Int × Unit) ((Bool × Unit) ⊕ (Unit)))
  | (s, (m, ())) =>
    bif (decide (m < ((s.2.1.length : Nat) : Int))) then
   (spec_l02Fails s m).bind fun r0 =>
   bif r0 then
    some (.stop (.inl (false, ())))
   else some (.next (s, ((w64 (m + (1 : Int))), ())))
  else some (.stop (.inr (())))
noncomputable def spec_l02Good (s : ((List UInt8) × ((List UInt8) × Unit))) : Option (Bool) :=
  (loop spec_l02Good_l0 (s, (1 : Int), ())).bind fun r0 =>
  alt r0 (fun r1 =>
   some (r1.1))
   (fun r2 =>
   some (true))
noncomputable def spec_IsAdmissible (s : ((List UInt8) × ((List UInt8) × Unit))) : Option (Bool × Int) :=
  (spec_l01Seq s).bind fun r0 =>
  bif (!r0) then
   some (false, (1 : Int))
  else (spec_l02Star s).bind fun r1 =>
   bif (!r1) then
    some (false, (5 : Int))
   else (spec_l02Good s).bind fun r2 =>
    some (r2, (0 : Int))
noncomputable def spec_DrawAdmissibleWords (code : List Int) : Option (Int) :=
  (spec_l01From code).bind fun r0 =>
  (spec_l01Next r0 (9 : Int)).bind fun r1 =>
  (spec_l01From code).bind fun r2 =>
  (spec_l01Next r2 (40 : Int)).bind fun r3 =>
  bif (!((39 : Int) == (0 : Int))) then
   some ((w64 (r1.1 + (w64 ((w64 (r3.1.tdiv (39 : Int))) * (2 : Int))))))
  else none
noncomputable def impl_AdmissibleWords_l1 : Int × (List (List UInt8)) × (List (List UInt8)) × Int × Int × Int × Int × Unit → Option (Ctl (Int × (List (List UInt8)) × (List (List UInt8)) × Int × Int × Int × Int × Unit) ((Int × (List (List UInt8)) × Int × Int × Unit)))
  | (n, (words, (next', (t16, (t17, (t20, (t21, ()))))))) =>
    bif (decide (t21 < t20)) then
   bif ((decide ((0 : Int) ≤ t21)) && (decide (t21 < ((words.length : Nat) : Int)))) then
    bif (decide (((words.getD t21.toNat ([] : List UInt8)).length + (Array.toList (List.toArray [(48 : UInt8)])).length) ≤ 1152921504606846976)) then
     bif (decide (((words.getD t21.toNat ([] : List UInt8)).length + (Array.toList (List.toArray [(49 : UInt8)])).length) ≤ 1152921504606846976)) then
      bif (decide (((next'.length + [((words.getD t21.toNat ([] : List UInt8)) ++ (Array.toList (List.toArray [(48 : UInt8)]))), ((words.getD t21.toNat ([] : List UInt8)) ++ (Array.toList (List.toArray [(49 : UInt8)])))].length) * 16) ≤ 140737488355328)) then
       some (.next (n, (words, ((next' ++ [((words.getD t21.toNat ([] : List UInt8)) ++ (Array.toList (List.toArray [(48 : UInt8)]))), ((words.getD t21.toNat ([] : List UInt8)) ++ (Array.toList (List.toArray [(49 : UInt8)])))]), (t16, (t17, (t20, ((w64 (t21 + (1 : Int))), ()))))))))
      else none
     else none
    else none
   else none
  else some (.stop ((n, (next', (t16, (t17, ()))))))
noncomputable def impl_AdmissibleWords_l0 : Int × (List (List UInt8)) × Int × Int × Unit → Option (Ctl (Int × (List (List UInt8)) × Int × Int × Unit) ((Int × (List (List UInt8)) × Unit)))
  | (n, (words, (t16, (t17, ())))) =>
    bif (decide (t17 < t16)) then
   (loop impl_AdmissibleWords_l1 (n, words, ([] : List (List UInt8)), t16, t17, ((words.length : Nat) : Int), (0 : Int), ())).bind fun r0 =>
   some (.next (r0.1, (r0.2.1, (r0.2.2.1, ((w64 (r0.2.2.2.1 + (1 : Int))), ())))))
  else some (.stop ((n, (words, ()))))
noncomputable def impl_AdmissibleWords_l2 : (List (List UInt8)) × (List (List UInt8)) × Int × Int × Unit → Option (Ctl ((List (List UInt8)) × (List (List UInt8)) × Int × Int × Unit) (((List (List UInt8)) × Unit)))
  | (words, (out, (t39, (t40, ())))) =>
    bif (decide (t40 < t39)) then
   bif ((decide ((0 : Int) ≤ t40)) && (decide (t40 < ((words.length : Nat) : Int)))) then
    bif (decide (((words.getD t40.toNat ([] : List UInt8)).length + (Array.toList (List.toArray [(42 : UInt8)])).length) ≤ 1152921504606846976)) then
     (impl_Sequence_isAdmissible ((Array.toList (List.toArray ([] : List UInt8))), ((words.getD t40.toNat ([] : List UInt8)) ++ (Array.toList (List.toArray [(42 : UInt8)]))), ())).bind fun r0 =>
     bif r0 then
      bif (decide (((words.getD t40.toNat ([] : List UInt8)).length + (Array.toList (List.toArray [(42 : UInt8)])).length) ≤ 1152921504606846976)) then
       bif (decide (((out.length + [((words.getD t40.toNat ([] : List UInt8)) ++ (Array.toList (List.toArray [(42 : UInt8)])))].length) * 16) ≤ 140737488355328)) then
        some (.next (words, ((out ++ [((words.getD t40.toNat ([] : List UInt8)) ++ (Array.toList (List.toArray [(42 : UInt8)])))]), (t39, ((w64 (t40 + (1 : Int))), ())))))
       else none
      else none
     else some (.next (words, (out, (t39, ((w64 (t40 + (1 : Int))), ())))))
    else none
   else none
  else some (.stop ((out, ())))
noncomputable def impl_AdmissibleWords (n : Int) : Option ((List (List UInt8)) × Int) :=
  (impl_within n (1 : Int) (10 : Int)).bind fun r0 =>
  bif (!r0) then
   some (([] : List (List UInt8)), (2 : Int))
  else (loop impl_AdmissibleWords_l0 (n, [(Array.toList (List.toArray [(49 : UInt8)]))], (w64 (n - (2 : Int))), (0 : Int), ())).bind fun r1 =>
   bif (r1.1 == (1 : Int)) then
    (loop impl_AdmissibleWords_l2 ([(Array.toList (List.toArray ([] : List UInt8)))], ([] : List (List UInt8)), (([(Array.toList (List.toArray ([] : List UInt8)))].length : Nat) : Int), (0 : Int), ())).bind fun r2 =>
    some (r2.1, (0 : Int))
   else (loop impl_AdmissibleWords_l2 (r1.2.1, ([] : List (List UInt8)), ((r1.2.1.length : Nat) : Int), (0 : Int), ())).bind fun r3 =>
    some (r3.1, (0 : Int))
noncomputable def spec_AdmissibleWords_l1 : Int × (List (List UInt8)) × Int × (List Int) × Int × Unit → Option (Ctl (Int × (List (List UInt8)) × Int × (List Int) × Int × Unit) ((Int × (List (List UInt8)) × Int × (List Int) × Unit)))
  | (n, (out, (k, (word', (i, ()))))) =>
    bif (decide (i ≥ (0 : Int))) then
   bif (decide ((0 : Int) ≤ (wu64 i))) then
    bif (decide (((word'.length + [(wu8 (w64 ((48 : Int) + (w64 (((BitVec.toNat (HAnd.hAnd (BitVec.ofInt 64 (k.fdiv ((2 : Int) ^ (min (wu64 i).toNat 64)))) (BitVec.ofInt 64 (1 : Int)))) : Nat) : Int)))))].length) * 1) ≤ 140737488355328)) then
     some (.next (n, (out, (k, ((word' ++ [(wu8 (w64 ((48 : Int) + (w64 (((BitVec.toNat (HAnd.hAnd (BitVec.ofInt 64 (k.fdiv ((2 : Int) ^ (min (wu64 i).toNat 64)))) (BitVec.ofInt 64 (1 : Int)))) : Nat) : Int)))))]), ((w64 (i - (1 : Int))), ()))))))
    else none
   else none
  else some (.stop ((n, (out, (k, (word', ()))))))
noncomputable def spec_AdmissibleWords_l0 : Int × (List (List UInt8)) × Int × Unit → Option (Ctl (Int × (List (List UInt8)) × Int × Unit) (((List (List UInt8)) × Unit)))
  | (n, (out, (k, ()))) =>
    bif (decide ((0 : Int) ≤ (wu64 (w64 (n - (2 : Int)))))) then
   bif (decide (k < (w64 ((1 : Int) * ((2 : Int) ^ (min (wu64 (w64 (n - (2 : Int)))).toNat 64)))))) then
    (loop spec_AdmissibleWords_l1 (n, out, k, [(49 : Int)], (w64 (n - (3 : Int))), ())).bind fun r0 =>
    bif (decide (((r0.2.2.2.1.map (fun z8 => (UInt8.ofNat z8.toNat))).length + (Array.toList (List.toArray [(42 : UInt8)])).length) ≤ 1152921504606846976)) then
     (spec_l02Good (([] : List UInt8), ((r0.2.2.2.1.map (fun z7 => (UInt8.ofNat z7.toNat))) ++ (Array.toList (List.toArray [(42 : UInt8)]))), ())).bind fun r1 =>
     bif r1 then
      bif (decide (((r0.2.1.length + [((r0.2.2.2.1.map (fun z6 => (UInt8.ofNat z6.toNat))) ++ (Array.toList (List.toArray [(42 : UInt8)])))].length) * 16) ≤ 140737488355328)) then
       some (.next (r0.1, ((r0.2.1 ++ [((r0.2.2.2.1.map (fun z5 => (UInt8.ofNat z5.toNat))) ++ (Array.toList (List.toArray [(42 : UInt8)])))]), ((w64 (r0.2.2.1 + (1 : Int))), ()))))
      else none
     else some (.next (r0.1, (r0.2.1, ((w64 (r0.2.2.1 + (1 : Int))), ()))))
    else none
   else some (.stop ((out, ())))
  else none
noncomputable def spec_AdmissibleWords (n : Int) : Option ((List (List UInt8)) × Int) :=
  (spec_l01In n (1 : Int) (10 : Int)).bind fun r0 =>
  bif (!r0) then
   some (([] : List (List UInt8)), (2 : Int))
  else bif (n == (1 : Int)) then
    some ([(Array.toList (List.toArray [(42 : UInt8)]))], (0 : Int))
   else (loop spec_AdmissibleWords_l0 (n, ([] : List (List UInt8)), (0 : Int), ())).bind fun r1 =>
    some (r1.1, (0 : Int))
noncomputable def laws_texts9_l0 : (List (List UInt8)) × (List (List UInt8)) × Int × Unit → Option (Ctl ((List (List UInt8)) × (List (List UInt8)) × Int × Unit) ((Bool × Unit) ⊕ (Unit)))
  | (a, (b, (i, ()))) =>
    bif (decide (i < ((a.length : Nat) : Int))) then
   bif ((decide ((0 : Int) ≤ i)) && (decide (i < ((a.length : Nat) : Int)))) then
    bif ((decide ((0 : Int) ≤ i)) && (decide (i < ((b.length : Nat) : Int)))) then
     bif (!((a.getD i.toNat ([] : List UInt8)) == (b.getD i.toNat ([] : List UInt8)))) then
      some (.stop (.inl (false, ())))
     else some (.next (a, (b, ((w64 (i + (1 : Int))), ()))))
    else none
   else none
  else some (.stop (.inr (())))
noncomputable def laws_texts9 (a : List (List UInt8)) (b : List (List UInt8)) : Option (Bool) :=
  bif (((a.length : Nat) : Int) != ((b.length : Nat) : Int)) then
   some (false)
  else (loop laws_texts9_l0 (a, b, (0 : Int), ())).bind fun r0 =>
   alt r0 (fun r1 =>
    some (r1.1))
    (fun r2 =>
    some (true))
noncomputable def laws_FnAdmissible_l0 : (((List UInt8) × ((List UInt8) × Unit))) × Bool × Int × (List (List UInt8)) × Int × Bool × Int × Unit → Option (Ctl ((((List UInt8) × ((List UInt8) × Unit))) × Bool × Int × (List (List UInt8)) × Int × Bool × Int × Unit) ((Bool × Unit) ⊕ (Bool × Int × (List (List UInt8)) × Int × Bool × Unit)))
  | (a, (good, (n, (words, (four, (all, (k, ()))))))) =>
    bif (decide (k < ((a.2.1.length : Nat) : Int))) then
   (impl_FailsFor a k).bind fun r0 =>
   bif (r0.2 != (0 : Int)) then
    some (.stop (.inl (false, ())))
   else bif all then
     some (.next (a, (good, (n, (words, (four, ((!r0.1), ((w64 (k + (1 : Int))), ()))))))))
    else some (.next (a, (good, (n, (words, (four, (false, ((w64 (k + (1 : Int))), ()))))))))
  else some (.stop (.inr ((good, (n, (words, (four, (all, ()))))))))
noncomputable def impl_isPeriod (n : Int) : Option (Bool) :=
  (impl_within n (2 : Int) (8 : Int)).bind fun r0 =>
  some (r0)
noncomputable def impl_divisor_l0 : Int × Int × Unit → Option (Ctl (Int × Int × Unit) ((Int × Unit)))
  | (a, (b, ())) =>
    bif (b != (0 : Int)) then
   bif (!(b == (0 : Int))) then
    some (.next (b, ((a.tmod b), ())))
   else none
  else some (.stop ((a, ())))
noncomputable def impl_divisor (a : Int) (b : Int) : Option (Int) :=
  (loop impl_divisor_l0 (a, b, ())).bind fun r0 =>
  some (r0.1)
noncomputable def impl_angle (num : Int) (den : Int) : Option ((Int × (Int × Unit))) :=
  bif (!(den == (0 : Int))) then
   bif (!(den == (0 : Int))) then
    (impl_divisor den ((w64 ((num.tmod den) + den)).tmod den)).bind fun r0 =>
    bif (!(r0 == (0 : Int))) then
     bif (!(r0 == (0 : Int))) then
      some (((w64 (((w64 ((num.tmod den) + den)).tmod den).tdiv r0)), (w64 (den.tdiv r0)), ()))
     else none
    else none
   else none
  else none
noncomputable def impl_Angle_double (a : (Int × (Int × Unit))) : Option ((Int × (Int × Unit))) :=
  (impl_angle (w64 ((2 : Int) * a.1)) a.2.1).bind fun r0 =>
  some (r0)
noncomputable def impl_periodOf_l0 : ((Int × (Int × Unit))) × ((Int × (Int × Unit))) × Int × Unit → Option (Ctl (((Int × (Int × Unit))) × ((Int × (Int × Unit))) × Int × Unit) ((Int × Unit) ⊕ (Unit)))
  | (a, (x, (n, ()))) =>
    bif (decide (n ≤ (8 : Int))) then
   (impl_Angle_double x).bind fun r0 =>
   bif ((r0.1 == a.1) && ((r0.2.1 == a.2.1) && true)) then
    some (.stop (.inl (n, ())))
   else some (.next (a, (r0, ((w64 (n + (1 : Int))), ()))))
  else some (.stop (.inr (())))
noncomputable def impl_periodOf (a : (Int × (Int × Unit))) : Option (Int) :=
  (loop impl_periodOf_l0 (a, a, (1 : Int), ())).bind fun r0 =>
  alt r0 (fun r1 =>
   some (r1.1))
   (fun r2 =>
   some ((0 : Int)))
noncomputable def impl_anglesOfPeriod_l0 : Int × (List (Int × (Int × Unit))) × Int × Int × Int × Unit → Option (Ctl (Int × (List (Int × (Int × Unit))) × Int × Int × Int × Unit) (((List (Int × (Int × Unit))) × Unit)))
  | (n, (out, (den, (t10, (t11, ()))))) =>
    bif (decide (t11 < t10)) then
   (impl_angle t11 den).bind fun r0 =>
   (impl_periodOf r0).bind fun r1 =>
   bif (r1 == n) then
    bif (decide (((out.length + [r0].length) * 16) ≤ 140737488355328)) then
     some (.next (n, ((out ++ [r0]), (den, (t10, ((w64 (t11 + (1 : Int))), ()))))))
    else none
   else some (.next (n, (out, (den, (t10, ((w64 (t11 + (1 : Int))), ()))))))
  else some (.stop ((out, ())))
noncomputable def impl_anglesOfPeriod (n : Int) : Option ((List (Int × (Int × Unit)))) :=
  bif (decide ((0 : Int) ≤ n)) then
   (loop impl_anglesOfPeriod_l0 (n, ([] : List (Int × (Int × Unit))), (w64 ((w64 ((1 : Int) * ((2 : Int) ^ (min n.toNat 64)))) - (1 : Int))), (w64 ((w64 ((1 : Int) * ((2 : Int) ^ (min n.toNat 64)))) - (1 : Int))), (0 : Int), ())).bind fun r0 =>
   some (r0.1)
  else none
noncomputable def impl_RayPair_leaf (p : ((Int × (Int × Unit)) × ((Int × (Int × Unit)) × Unit))) : Option (((Int × (Int × Unit)) × ((Int × (Int × Unit)) × Unit))) :=
  some ((p.1, p.2.1, ()))
noncomputable def impl_Angle_minus (a : (Int × (Int × Unit))) (b : (Int × (Int × Unit))) : Option ((Int × (Int × Unit))) :=
  (impl_angle (w64 ((w64 (a.1 * b.2.1)) - (w64 (b.1 * a.2.1)))) (w64 (a.2.1 * b.2.1))).bind fun r0 =>
  some (r0)
noncomputable def cmp_isNaN_int64 (x : Int) : Option (Bool) :=
  some ((x != x))
noncomputable def cmp_Compare_int64 (x : Int) (y : Int) : Option (Int) :=
  (cmp_isNaN_int64 x).bind fun r0 =>
  (cmp_isNaN_int64 y).bind fun r1 =>
  bif r0 then
   bif r1 then
    some ((0 : Int))
   else some ((-1 : Int))
  else bif r1 then
    some ((1 : Int))
   else bif (decide (x < y)) then
     some ((-1 : Int))
    else bif (decide (x > y)) then
      some ((1 : Int))
     else some ((0 : Int))
noncomputable def impl_Angle_compare (a : (Int × (Int × Unit))) (b : (Int × (Int × Unit))) : Option (Int) :=
  (cmp_Compare_int64 (w64 (a.1 * b.2.1)) (w64 (b.1 * a.2.1))).bind fun r0 =>
  some (r0)
noncomputable def impl_order (a : (Int × (Int × Unit))) (b : (Int × (Int × Unit))) (c : (Int × (Int × Unit))) : Option (Int) :=
  bif ((a.1 == b.1) && ((a.2.1 == b.2.1) && true)) then
   some ((0 : Int))
  else bif ((b.1 == c.1) && ((b.2.1 == c.2.1) && true)) then
    some ((0 : Int))
   else bif ((a.1 == c.1) && ((a.2.1 == c.2.1) && true)) then
     some ((0 : Int))
    else (impl_Angle_minus b a).bind fun r0 =>
     (impl_Angle_minus c a).bind fun r1 =>
     (impl_Angle_compare r0 r1).bind fun r2 =>
     bif (decide (r2 < (0 : Int))) then
      some ((1 : Int))
     else some ((-1 : Int))
noncomputable def impl_Leaf_cross (l : ((Int × (Int × Unit)) × ((Int × (Int × Unit)) × Unit))) (m : ((Int × (Int × Unit)) × ((Int × (Int × Unit)) × Unit))) : Option (Bool) :=
  (impl_order l.1 m.1 l.2.1).bind fun r0 =>
  (impl_order l.1 m.2.1 l.2.1).bind fun r1 =>
  some (((w64 (r0 * r1)) == (-1 : Int)))
noncomputable def impl_pairsUpTo_f1_f1 (p : ((Int × (Int × Unit)) × ((Int × (Int × Unit)) × Unit))) (t1 : ((Int × (Int × Unit)) × ((Int × (Int × Unit)) × Unit))) : Option (Bool) :=
  (impl_RayPair_leaf p).bind fun r0 =>
  (impl_Leaf_cross t1 r0).bind fun r1 =>
  some ((!r1))
noncomputable def impl_areAll_impl_RayPair_f1 (x : ((Int × (Int × Unit)) × ((Int × (Int × Unit)) × Unit))) (t1_0 : ((Int × (Int × Unit)) × ((Int × (Int × Unit)) × Unit))) : Option (Bool) :=
  (impl_pairsUpTo_f1_f1 x t1_0).bind fun r0 =>
  some ((!r0))
noncomputable def slices_IndexFunc__impl_RayPair_impl_RayPair_l0 : (List ((Int × (Int × Unit)) × ((Int × (Int × Unit)) × Unit))) × Unit × ((Unit × (((Int × (Int × Unit)) × ((Int × (Int × Unit)) × Unit)) × Unit)) × Unit) × Int × Int × Unit → Option (Ctl ((List ((Int × (Int × Unit)) × ((Int × (Int × Unit)) × Unit))) × Unit × ((Unit × (((Int × (Int × Unit)) × ((Int × (Int × Unit)) × Unit)) × Unit)) × Unit) × Int × Int × Unit) ((Int × Unit) ⊕ (Unit)))
  | (s, ((), (((), (f, ())), ()), (t7, (t8, ())))) =>
    bif (decide (t8 < t7)) then
   bif ((decide ((0 : Int) ≤ t8)) && (decide (t8 < ((s.length : Nat) : Int)))) then
    (impl_areAll_impl_RayPair_f1 (s.getD t8.toNat (((0 : Int), (0 : Int), ()), ((0 : Int), (0 : Int), ()), ())) f).bind fun r0 =>
    bif r0 then
     some (.stop (.inl (t8, ())))
    else some (.next (s, ((), (((), (f, ())), ()), (t7, ((w64 (t8 + (1 : Int))), ())))))
   else none
  else some (.stop (.inr (())))
noncomputable def slices_IndexFunc__impl_RayPair_impl_RayPair (s : List ((Int × (Int × Unit)) × ((Int × (Int × Unit)) × Unit))) (f_0_1 : ((Int × (Int × Unit)) × ((Int × (Int × Unit)) × Unit))) : Option (Int) :=
  (loop slices_IndexFunc__impl_RayPair_impl_RayPair_l0 (s, (), (((), f_0_1, ()), ()), ((s.length : Nat) : Int), (0 : Int), ())).bind fun r0 =>
  alt r0 (fun r1 =>
   some (r1.1))
   (fun r2 =>
   some ((-1 : Int)))
noncomputable def slices_ContainsFunc__impl_RayPair_impl_RayPair (s : List ((Int × (Int × Unit)) × ((Int × (Int × Unit)) × Unit))) (f_0_1 : ((Int × (Int × Unit)) × ((Int × (Int × Unit)) × Unit))) : Option (Bool) :=
  (slices_IndexFunc__impl_RayPair_impl_RayPair s f_0_1).bind fun r0 =>
  some ((decide (r0 ≥ (0 : Int))))
noncomputable def impl_areAll_impl_RayPair (list : List ((Int × (Int × Unit)) × ((Int × (Int × Unit)) × Unit))) (is'_0 : ((Int × (Int × Unit)) × ((Int × (Int × Unit)) × Unit))) : Option (Bool) :=
  (slices_ContainsFunc__impl_RayPair_impl_RayPair list is'_0).bind fun r0 =>
  some ((!r0))
noncomputable def impl_pairsUpTo_f1 (a : (Int × (Int × Unit))) (t1 : List (Int × (Int × Unit))) (t2 : List ((Int × (Int × Unit)) × ((Int × (Int × Unit)) × Unit))) : Option (Bool) :=
  bif ((decide ((0 : Int) ≤ (0 : Int))) && (decide ((0 : Int) < ((t1.length : Nat) : Int)))) then
   (impl_areAll_impl_RayPair t2 ((t1.getD (0 : Int).toNat ((0 : Int), (0 : Int), ())), a, ())).bind fun r0 =>
   some (r0)
  else none
noncomputable def slices_IndexFunc__impl_Angle_impl_Angle_v2_l0 : (List (Int × (Int × Unit))) × Unit × (List (Int × (Int × Unit)) × (List ((Int × (Int × Unit)) × ((Int × (Int × Unit)) × Unit)) × Unit)) × Int × Int × Unit → Option (Ctl ((List (Int × (Int × Unit))) × Unit × (List (Int × (Int × Unit)) × (List ((Int × (Int × Unit)) × ((Int × (Int × Unit)) × Unit)) × Unit)) × Int × Int × Unit) ((Int × Unit) ⊕ (Unit)))
  | (s, ((), (f_0, (f_1, ())), (t7, (t8, ())))) =>
    bif (decide (t8 < t7)) then
   bif ((decide ((0 : Int) ≤ t8)) && (decide (t8 < ((s.length : Nat) : Int)))) then
    (impl_pairsUpTo_f1 (s.getD t8.toNat ((0 : Int), (0 : Int), ())) f_0 f_1).bind fun r0 =>
    bif r0 then
     some (.stop (.inl (t8, ())))
    else some (.next (s, ((), (f_0, (f_1, ())), (t7, ((w64 (t8 + (1 : Int))), ())))))
   else none
  else some (.stop (.inr (())))
noncomputable def slices_IndexFunc__impl_Angle_impl_Angle_v2 (s : List (Int × (Int × Unit))) (f_0 : List (Int × (Int × Unit))) (f_1 : List ((Int × (Int × Unit)) × ((Int × (Int × Unit)) × Unit))) : Option (Int) :=
  (loop slices_IndexFunc__impl_Angle_impl_Angle_v2_l0 (s, (), (f_0, f_1, ()), ((s.length : Nat) : Int), (0 : Int), ())).bind fun r0 =>
  alt r0 (fun r1 =>
   some (r1.1))
   (fun r2 =>
   some ((-1 : Int)))
noncomputable def impl_pairsUpTo (n : Int) : Option (List ((Int × (Int × Unit)) × ((Int × (Int × Unit)) × Unit))) :=
  pairsOf (fun p => impl_anglesOfPeriod p) (fun xs ys ps => slices_IndexFunc__impl_Angle_impl_Angle_v2 xs ys ps) n
noncomputable def impl_pairsOf_f1 (p : ((Int × (Int × Unit)) × ((Int × (Int × Unit)) × Unit))) (t1 : Int) : Option (Bool) :=
  (impl_periodOf p.1).bind fun r0 =>
  some ((r0 != t1))
noncomputable def slices_IndexFunc__impl_RayPair_impl_RayPair_v2_l0 : (List ((Int × (Int × Unit)) × ((Int × (Int × Unit)) × Unit))) × Unit × (Int × Unit) × Int × Int × Unit → Option (Ctl ((List ((Int × (Int × Unit)) × ((Int × (Int × Unit)) × Unit))) × Unit × (Int × Unit) × Int × Int × Unit) ((Int × Unit) ⊕ (Unit)))
  | (s, ((), (f, ()), (t7, (t8, ())))) =>
    bif (decide (t8 < t7)) then
   bif ((decide ((0 : Int) ≤ t8)) && (decide (t8 < ((s.length : Nat) : Int)))) then
    (impl_pairsOf_f1 (s.getD t8.toNat (((0 : Int), (0 : Int), ()), ((0 : Int), (0 : Int), ()), ())) f).bind fun r0 =>
    bif r0 then
     some (.stop (.inl (t8, ())))
    else some (.next (s, ((), (f, ()), (t7, ((w64 (t8 + (1 : Int))), ())))))
   else none
  else some (.stop (.inr (())))
noncomputable def slices_IndexFunc__impl_RayPair_impl_RayPair_v2 (s : List ((Int × (Int × Unit)) × ((Int × (Int × Unit)) × Unit))) (f_0 : Int) : Option (Int) :=
  (loop slices_IndexFunc__impl_RayPair_impl_RayPair_v2_l0 (s, (), (f_0, ()), ((s.length : Nat) : Int), (0 : Int), ())).bind fun r0 =>
  alt r0 (fun r1 =>
   some (r1.1))
   (fun r2 =>
   some ((-1 : Int)))
noncomputable def slices_DeleteFunc__impl_RayPair_impl_RayPair_l0 : (List ((Int × (Int × Unit)) × ((Int × (Int × Unit)) × Unit))) × Unit × (Int × Unit) × Int × Int × Unit → Option (Ctl ((List ((Int × (Int × Unit)) × ((Int × (Int × Unit)) × Unit))) × Unit × (Int × Unit) × Int × Int × Unit) (((List ((Int × (Int × Unit)) × ((Int × (Int × Unit)) × Unit))) × Int × Unit)))
  | (s, ((), (del, ()), (i, (j, ())))) =>
    bif (decide (j < ((s.length : Nat) : Int))) then
   bif ((decide ((0 : Int) ≤ j)) && (decide (j < ((s.length : Nat) : Int)))) then
    (impl_pairsOf_f1 (s.getD j.toNat (((0 : Int), (0 : Int), ()), ((0 : Int), (0 : Int), ()), ())) del).bind fun r0 =>
    bif (!r0) then
     bif ((decide ((0 : Int) ≤ i)) && (decide (i < ((s.length : Nat) : Int)))) then
      some (.next ((s.set i.toNat (s.getD j.toNat (((0 : Int), (0 : Int), ()), ((0 : Int), (0 : Int), ()), ()))), ((), (del, ()), ((w64 (i + (1 : Int))), ((w64 (j + (1 : Int))), ())))))
     else none
    else some (.next (s, ((), (del, ()), (i, ((w64 (j + (1 : Int))), ())))))
   else none
  else some (.stop ((s, (i, ()))))
noncomputable def slices_DeleteFunc__impl_RayPair_impl_RayPair (s : List ((Int × (Int × Unit)) × ((Int × (Int × Unit)) × Unit))) (del_0 : Int) : Option ((List ((Int × (Int × Unit)) × ((Int × (Int × Unit)) × Unit)))) :=
  (slices_IndexFunc__impl_RayPair_impl_RayPair_v2 s del_0).bind fun r0 =>
  bif (r0 == (-1 : Int)) then
   some (s)
  else (loop slices_DeleteFunc__impl_RayPair_impl_RayPair_l0 (s, (), (del_0, ()), r0, (w64 (r0 + (1 : Int))), ())).bind fun r1 =>
   bif (((decide ((0 : Int) ≤ r1.2.1)) && (decide (r1.2.1 ≤ ((r1.1.length : Nat) : Int)))) && (decide (((r1.1.length : Nat) : Int) ≤ ((r1.1.length : Nat) : Int)))) then
    bif (((decide ((0 : Int) ≤ (0 : Int))) && (decide ((0 : Int) ≤ r1.2.1))) && (decide (r1.2.1 ≤ (((Go.K.cleared r1.1 (((0 : Int), (0 : Int), ()), ((0 : Int), (0 : Int), ()), ()) r1.2.1.toNat ((r1.1.length : Nat) : Int).toNat).length : Nat) : Int)))) then
     bif (Nat.beq (0 : Int).toNat 0) then
      some (((Go.K.cleared r1.1 (((0 : Int), (0 : Int), ()), ((0 : Int), (0 : Int), ()), ()) r1.2.1.toNat ((r1.1.length : Nat) : Int).toNat).take r1.2.1.toNat))
     else none
    else none
   else none
noncomputable def impl_pairsOf_f2 (p : ((Int × (Int × Unit)) × ((Int × (Int × Unit)) × Unit))) (q : ((Int × (Int × Unit)) × ((Int × (Int × Unit)) × Unit))) : Option (Int) :=
  (impl_Angle_compare p.1 q.1).bind fun r0 =>
  some (r0)
noncomputable def slices_SortFunc__impl_RayPair_impl_RayPair (xs : List ((Int × (Int × Unit)) × ((Int × (Int × Unit)) × Unit)))  : Option (List ((Int × (Int × Unit)) × ((Int × (Int × Unit)) × Unit))) :=
  sortOf (fun x y => impl_pairsOf_f2 x y ) xs
noncomputable def impl_pairsOf (n : Int) : Option ((List ((Int × (Int × Unit)) × ((Int × (Int × Unit)) × Unit)))) :=
  (impl_pairsUpTo n).bind fun r0 =>
  (slices_DeleteFunc__impl_RayPair_impl_RayPair r0 n).bind fun r1 =>
  (slices_SortFunc__impl_RayPair_impl_RayPair r1).bind fun r2 =>
  some (r2)
noncomputable def impl_PairsOfPeriod (n : Int) : Option ((List ((Int × (Int × Unit)) × ((Int × (Int × Unit)) × Unit))) × Int) :=
  (impl_isPeriod n).bind fun r0 =>
  bif (!r0) then
   some (([] : List ((Int × (Int × Unit)) × ((Int × (Int × Unit)) × Unit))), (2 : Int))
  else (impl_pairsOf n).bind fun r1 =>
   some (r1, (0 : Int))
noncomputable def impl_IsAngle (a : (Int × (Int × Unit))) : Option (Bool) :=
  (impl_within a.2.1 (1 : Int) (8191 : Int)).bind fun r0 =>
  bif r0 then
   (impl_within a.1 (0 : Int) (w64 (a.2.1 - (1 : Int)))).bind fun r1 =>
   bif r1 then
    (impl_divisor a.2.1 a.1).bind fun r2 =>
    some ((r2 == (1 : Int)))
   else some (false)
  else some (false)
noncomputable def impl_areAll_impl_Angle_f1 (x : (Int × (Int × Unit))) : Option (Bool) :=
  (impl_IsAngle x).bind fun r0 =>
  some ((!r0))
noncomputable def slices_IndexFunc__impl_Angle_impl_Angle_l0 : (List (Int × (Int × Unit))) × Unit × ((Unit × Unit) × Unit) × Int × Int × Unit → Option (Ctl ((List (Int × (Int × Unit))) × Unit × ((Unit × Unit) × Unit) × Int × Int × Unit) ((Int × Unit) ⊕ (Unit)))
  | (s, ((), (((), ()), ()), (t7, (t8, ())))) =>
    bif (decide (t8 < t7)) then
   bif ((decide ((0 : Int) ≤ t8)) && (decide (t8 < ((s.length : Nat) : Int)))) then
    (impl_areAll_impl_Angle_f1 (s.getD t8.toNat ((0 : Int), (0 : Int), ()))).bind fun r0 =>
    bif r0 then
     some (.stop (.inl (t8, ())))
    else some (.next (s, ((), (((), ()), ()), (t7, ((w64 (t8 + (1 : Int))), ())))))
   else none
  else some (.stop (.inr (())))
noncomputable def slices_IndexFunc__impl_Angle_impl_Angle (s : List (Int × (Int × Unit))) : Option (Int) :=
  (loop slices_IndexFunc__impl_Angle_impl_Angle_l0 (s, (), (((), ()), ()), ((s.length : Nat) : Int), (0 : Int), ())).bind fun r0 =>
  alt r0 (fun r1 =>
   some (r1.1))
   (fun r2 =>
   some ((-1 : Int)))
noncomputable def slices_ContainsFunc__impl_Angle_impl_Angle (s : List (Int × (Int × Unit))) : Option (Bool) :=
  (slices_IndexFunc__impl_Angle_impl_Angle s).bind fun r0 =>
  some ((decide (r0 ≥ (0 : Int))))
noncomputable def impl_areAll_impl_Angle (list : List (Int × (Int × Unit))) : Option (Bool) :=
  (slices_ContainsFunc__impl_Angle_impl_Angle list).bind fun r0 =>
  some ((!r0))
noncomputable def impl_anglesCode (list : List (Int × (Int × Unit))) : Option (Int) :=
  (impl_areAll_impl_Angle list).bind fun r0 =>
  bif (!r0) then
   some ((1 : Int))
  else some ((0 : Int))
noncomputable def slices_Index__impl_Angle_impl_Angle_l0 : (List (Int × (Int × Unit))) × ((Int × (Int × Unit))) × Int × Int × Unit → Option (Ctl ((List (Int × (Int × Unit))) × ((Int × (Int × Unit))) × Int × Int × Unit) ((Int × Unit) ⊕ (Unit)))
  | (s, (v, (t7, (t8, ())))) =>
    bif (decide (t8 < t7)) then
   bif ((decide ((0 : Int) ≤ t8)) && (decide (t8 < ((s.length : Nat) : Int)))) then
    bif ((v.1 == (s.getD t8.toNat ((0 : Int), (0 : Int), ())).1) && ((v.2.1 == (s.getD t8.toNat ((0 : Int), (0 : Int), ())).2.1) && true)) then
     some (.stop (.inl (t8, ())))
    else some (.next (s, (v, (t7, ((w64 (t8 + (1 : Int))), ())))))
   else none
  else some (.stop (.inr (())))
noncomputable def slices_Index__impl_Angle_impl_Angle (s : List (Int × (Int × Unit))) (v : (Int × (Int × Unit))) : Option (Int) :=
  (loop slices_Index__impl_Angle_impl_Angle_l0 (s, v, ((s.length : Nat) : Int), (0 : Int), ())).bind fun r0 =>
  alt r0 (fun r1 =>
   some (r1.1))
   (fun r2 =>
   some ((-1 : Int)))
noncomputable def impl_Angle_orbit_l0 : ((Int × (Int × Unit))) × (List (Int × (Int × Unit))) × Unit → Option (Ctl (((Int × (Int × Unit))) × (List (Int × (Int × Unit))) × Unit) ((Int × Bool × (List (Int × (Int × Unit))) × Unit) ⊕ ((List (Int × (Int × Unit))) × Int × Bool × (List (Int × (Int × Unit))) × Unit)))
  | (a, (list, ())) =>
    (slices_Index__impl_Angle_impl_Angle list a).bind fun r0 =>
  bif (decide (r0 ≥ (0 : Int))) then
   some (.stop (.inl (r0, (true, (list, ())))))
  else bif (((list.length : Nat) : Int) == (64 : Int)) then
    some (.stop (.inr ((([] : List (Int × (Int × Unit))), ((0 : Int), (false, (list, ())))))))
   else bif (decide (((list.length + [a].length) * 16) ≤ 140737488355328)) then
     (impl_Angle_double a).bind fun r1 =>
     some (.next (r1, ((list ++ [a]), ())))
    else none
noncomputable def impl_Angle_orbit (a : (Int × (Int × Unit))) : Option ((List (Int × (Int × Unit))) × Int × Bool) :=
  (loop impl_Angle_orbit_l0 (a, ([] : List (Int × (Int × Unit))), ())).bind fun r0 =>
  alt r0 (fun r1 =>
   some (r1.2.2.1, r1.1, r1.2.1))
   (fun r2 =>
   some (r2.1, r2.2.1, r2.2.2.1))
noncomputable def impl_orbitOf (a : (Int × (Int × Unit))) : Option ((List (Int × (Int × Unit))) × Int × Int) :=
  (impl_IsAngle a).bind fun r0 =>
  bif (!r0) then
   some (([] : List (Int × (Int × Unit))), (0 : Int), (1 : Int))
  else (impl_Angle_orbit a).bind fun r1 =>
   bif (!r1.2.2) then
    some (([] : List (Int × (Int × Unit))), (0 : Int), (3 : Int))
   else some (r1.1, r1.2.1, (0 : Int))
noncomputable def impl_letterOf (x : (Int × (Int × Unit))) (t : (Int × (Int × Unit))) : Option (Int) :=
  bif ((w64 ((w64 ((2 : Int) * x.1)) * t.2.1)) == (w64 (t.1 * x.2.1))) then
   some ((42 : Int))
  else bif ((w64 ((w64 ((2 : Int) * x.1)) * t.2.1)) == (w64 ((w64 (t.1 * x.2.1)) + (w64 (x.2.1 * t.2.1))))) then
    some ((42 : Int))
   else bif (decide ((w64 (t.1 * x.2.1)) < (w64 ((w64 ((2 : Int) * x.1)) * t.2.1)))) then
     bif (decide ((w64 ((w64 ((2 : Int) * x.1)) * t.2.1)) < (w64 ((w64 (t.1 * x.2.1)) + (w64 (x.2.1 * t.2.1)))))) then
      some ((49 : Int))
     else some ((48 : Int))
    else some ((48 : Int))
noncomputable def impl_itinerary_f1 (a : (Int × (Int × Unit))) (t1 : (Int × (Int × Unit))) : Option (Int) :=
  (impl_letterOf a t1).bind fun r0 =>
  some (r0)
noncomputable def impl_spelled_l0 : (List (Int × (Int × Unit))) × Int × Unit × ((Int × (Int × Unit)) × Unit) × (((List UInt8) × ((List UInt8) × Unit))) × (List Int) × (List (Int × (Int × Unit))) × Int × Int × Unit → Option (Ctl ((List (Int × (Int × Unit))) × Int × Unit × ((Int × (Int × Unit)) × Unit) × (((List UInt8) × ((List UInt8) × Unit))) × (List Int) × (List (Int × (Int × Unit))) × Int × Int × Unit) ((Int × (((List UInt8) × ((List UInt8) × Unit))) × (List Int) × Unit)))
  | (list, (pre, ((), (letter, ()), (t6, (word', (t10, (t11, (t12, ())))))))) =>
    bif (decide (t12 < t11)) then
   bif ((decide ((0 : Int) ≤ t12)) && (decide (t12 < ((t10.length : Nat) : Int)))) then
    (impl_itinerary_f1 (t10.getD t12.toNat ((0 : Int), (0 : Int), ())) letter).bind fun r0 =>
    bif (decide (((word'.length + [r0].length) * 1) ≤ 140737488355328)) then
     some (.next (list, (pre, ((), (letter, ()), (t6, ((word' ++ [r0]), (t10, (t11, ((w64 (t12 + (1 : Int))), ())))))))))
    else none
   else none
  else some (.stop ((pre, (t6, (word', ())))))
noncomputable def impl_spelled (list : List (Int × (Int × Unit))) (pre : Int) (letter_0 : (Int × (Int × Unit))) : Option (((List UInt8) × ((List UInt8) × Unit))) :=
  (loop impl_spelled_l0 (list, pre, (), (letter_0, ()), (([] : List UInt8), ([] : List UInt8), ()), ([] : List Int), list, ((list.length : Nat) : Int), (0 : Int), ())).bind fun r0 =>
  bif (((decide ((0 : Int) ≤ (0 : Int))) && (decide ((0 : Int) ≤ r0.1))) && (decide (r0.1 ≤ ((r0.2.2.1.length : Nat) : Int)))) then
   bif (((decide ((0 : Int) ≤ r0.1)) && (decide (r0.1 ≤ ((r0.2.2.1.length : Nat) : Int)))) && (decide (((r0.2.2.1.length : Nat) : Int) ≤ ((r0.2.2.1.length : Nat) : Int)))) then
    (impl_sequence (((r0.2.2.1.take r0.1.toNat).drop (0 : Int).toNat).map (fun z5 => (UInt8.ofNat z5.toNat))) (((r0.2.2.1.take ((r0.2.2.1.length : Nat) : Int).toNat).drop r0.1.toNat).map (fun z6 => (UInt8.ofNat z6.toNat)))).bind fun r1 =>
    some (r1)
   else none
  else none
noncomputable def impl_itinerary (x : (Int × (Int × Unit))) (t : (Int × (Int × Unit))) : Option (((List UInt8) × ((List UInt8) × Unit))) :=
  (impl_Angle_orbit x).bind fun r0 =>
  (impl_spelled r0.1 r0.2.1 t).bind fun r1 =>
  some (r1)
noncomputable def impl_ItineraryOf (x : (Int × (Int × Unit))) (t : (Int × (Int × Unit))) : Option (((List UInt8) × ((List UInt8) × Unit)) × Int) :=
  (impl_anglesCode [x, t]).bind fun r0 =>
  bif (r0 != (0 : Int)) then
   some ((([] : List UInt8), ([] : List UInt8), ()), r0)
  else (impl_orbitOf x).bind fun r1 =>
   bif (r1.2.2 != (0 : Int)) then
    some ((([] : List UInt8), ([] : List UInt8), ()), r1.2.2)
   else (impl_itinerary x t).bind fun r2 =>
    some (r2, (0 : Int))
noncomputable def impl_KneadingOf (t : (Int × (Int × Unit))) : Option (((List UInt8) × ((List UInt8) × Unit)) × Int) :=
  (impl_ItineraryOf t t).bind fun r0 =>
  some (r0.1, r0.2)
noncomputable def laws_FnAdmissible_l2 : Int × (List (List UInt8)) × (List ((Int × (Int × Unit)) × ((Int × (Int × Unit)) × Unit))) × (List Bool) × Int × (((List UInt8) × ((List UInt8) × Unit))) × Int × Bool × Int × Unit → Option (Ctl (Int × (List (List UInt8)) × (List ((Int × (Int × Unit)) × ((Int × (Int × Unit)) × Unit))) × (List Bool) × Int × (((List UInt8) × ((List UInt8) × Unit))) × Int × Bool × Int × Unit) ((Int × (List (List UInt8)) × (List ((Int × (Int × Unit)) × ((Int × (Int × Unit)) × Unit))) × (List Bool) × Int × Int × Bool × Unit)))
  | (n, (words, (pairs, (met, (i, (kneading, (seven, (found, (k, ()))))))))) =>
    bif (decide (k < ((words.length : Nat) : Int))) then
   bif (kneading.1 == (Array.toList (List.toArray ([] : List UInt8)))) then
    bif ((decide ((0 : Int) ≤ k)) && (decide (k < ((words.length : Nat) : Int)))) then
     bif (kneading.2.1 == (words.getD k.toNat ([] : List UInt8))) then
      bif ((decide ((0 : Int) ≤ k)) && (decide (k < ((met.length : Nat) : Int)))) then
       some (.next (n, (words, (pairs, ((met.set k.toNat true), (i, (kneading, (seven, (true, ((w64 (k + (1 : Int))), ()))))))))))
      else none
     else some (.next (n, (words, (pairs, (met, (i, (kneading, (seven, (found, ((w64 (k + (1 : Int))), ()))))))))))
    else none
   else some (.next (n, (words, (pairs, (met, (i, (kneading, (seven, (found, ((w64 (k + (1 : Int))), ()))))))))))
  else some (.stop ((n, (words, (pairs, (met, (i, (seven, (found, ())))))))))
noncomputable def laws_FnAdmissible_l1 : Int × (List (List UInt8)) × (List ((Int × (Int × Unit)) × ((Int × (Int × Unit)) × Unit))) × (List Bool) × Int × Unit → Option (Ctl (Int × (List (List UInt8)) × (List ((Int × (Int × Unit)) × ((Int × (Int × Unit)) × Unit))) × (List Bool) × Int × Unit) ((Bool × Unit) ⊕ (Int × (List Bool) × Unit)))
  | (n, (words, (pairs, (met, (i, ()))))) =>
    bif (decide (i < ((pairs.length : Nat) : Int))) then
   bif ((decide ((0 : Int) ≤ i)) && (decide (i < ((pairs.length : Nat) : Int)))) then
    (impl_KneadingOf (pairs.getD i.toNat (((0 : Int), (0 : Int), ()), ((0 : Int), (0 : Int), ()), ())).1).bind fun r0 =>
    (loop laws_FnAdmissible_l2 (n, words, pairs, met, i, r0.1, r0.2, false, (0 : Int), ())).bind fun r1 =>
    bif (r1.2.2.2.2.2.1 != (0 : Int)) then
     some (.stop (.inl (false, ())))
    else bif (!r1.2.2.2.2.2.2.1) then
      some (.stop (.inl (false, ())))
     else some (.next (r1.1, (r1.2.1, (r1.2.2.1, (r1.2.2.2.1, ((w64 (r1.2.2.2.2.1 + (1 : Int))), ()))))))
   else none
  else some (.stop (.inr ((n, (met, ())))))
noncomputable def laws_FnAdmissible_l3 : Int × (List Bool) × Int × Unit → Option (Ctl (Int × (List Bool) × Int × Unit) ((Bool × Unit) ⊕ (Unit)))
  | (n, (met, (k, ()))) =>
    bif (decide (k < ((met.length : Nat) : Int))) then
   bif ((decide ((0 : Int) ≤ k)) && (decide (k < ((met.length : Nat) : Int)))) then
    bif (!(met.getD k.toNat false)) then
     bif (decide (n < (6 : Int))) then
      some (.stop (.inl (false, ())))
     else some (.next (n, (met, ((w64 (k + (1 : Int))), ()))))
    else some (.next (n, (met, ((w64 (k + (1 : Int))), ()))))
   else none
  else some (.stop (.inr (())))
noncomputable def laws_FnAdmissible (code : List Int) : Option (Bool) :=
  (laws_big code).bind fun r0 =>
  bif r0 then
   some (true)
  else (spec_DrawIsStarPeriodic code).bind fun r1 =>
   (impl_IsStarPeriodic r1).bind fun r2 =>
   (spec_IsStarPeriodic r1).bind fun r3 =>
   bif (r2.2 != r3.2) then
    some (false)
   else bif (!(r2.1 == r3.1)) then
     some (false)
    else (spec_DrawFailsFor code).bind fun r4 =>
     (impl_FailsFor r4.1 r4.2).bind fun r5 =>
     (spec_FailsFor r4.1 r4.2).bind fun r6 =>
     bif (r5.2 != r6.2) then
      some (false)
     else bif (!(r5.1 == r6.1)) then
       some (false)
      else (spec_DrawIsAdmissible code).bind fun r7 =>
       (impl_IsAdmissible r7).bind fun r8 =>
       (spec_IsAdmissible r7).bind fun r9 =>
       bif (r8.2 != r9.2) then
        some (false)
       else bif (!(r8.1 == r9.1)) then
         some (false)
        else (spec_DrawAdmissibleWords code).bind fun r10 =>
         (impl_AdmissibleWords r10).bind fun r11 =>
         (spec_AdmissibleWords r10).bind fun r12 =>
         bif (r11.2 != r12.2) then
          some (false)
         else (laws_texts9 r11.1 r12.1).bind fun r13 =>
          bif (!r13) then
           some (false)
          else bif (r8.2 == (0 : Int)) then
            (loop laws_FnAdmissible_l0 (r7, r8.1, r10, r11.1, r11.2, true, (1 : Int), ())).bind fun r14 =>
            alt r14 (fun r15 =>
             some (r15.1))
             (fun r16 =>
             bif (!(r16.2.2.2.2.1 == r16.1)) then
              some (false)
             else bif (r16.2.2.2.1 != (0 : Int)) then
               some (true)
              else bif (decide (r16.2.1 < (2 : Int))) then
                some (true)
               else bif (decide (r16.2.1 > (6 : Int))) then
                 some (true)
                else (impl_PairsOfPeriod r16.2.1).bind fun r17 =>
                 bif (r17.2 != (0 : Int)) then
                  some (false)
                 else bif (((decide ((0 : Int) ≤ ((r16.2.2.1.length : Nat) : Int))) && (decide (((r16.2.2.1.length : Nat) : Int) ≤ ((r16.2.2.1.length : Nat) : Int)))) && (decide ((((r16.2.2.1.length : Nat) : Int) * ((1 : Nat) : Int)) ≤ (140737488355328 : Int)))) then
                   (loop laws_FnAdmissible_l1 (r16.2.1, r16.2.2.1, r17.1, (List.replicate ((r16.2.2.1.length : Nat) : Int).toNat false), (0 : Int), ())).bind fun r18 =>
                   alt r18 (fun r19 =>
                    some (r19.1))
                    (fun r20 =>
                    (loop laws_FnAdmissible_l3 (r20.1, r20.2.1, (0 : Int), ())).bind fun r21 =>
                    alt r21 (fun r22 =>
                     some (r22.1))
                     (fun r23 =>
                     some (true)))
                  else none)
           else bif (r11.2 != (0 : Int)) then
             some (true)
            else bif (decide (r10 < (2 : Int))) then
              some (true)
             else bif (decide (r10 > (6 : Int))) then
               some (true)
              else (impl_PairsOfPeriod r10).bind fun r24 =>
               bif (r24.2 != (0 : Int)) then
                some (false)
               else bif (((decide ((0 : Int) ≤ ((r11.1.length : Nat) : Int))) && (decide (((r11.1.length : Nat) : Int) ≤ ((r11.1.length : Nat) : Int)))) && (decide ((((r11.1.length : Nat) : Int) * ((1 : Nat) : Int)) ≤ (140737488355328 : Int)))) then
                 (loop laws_FnAdmissible_l1 (r10, r11.1, r24.1, (List.replicate ((r11.1.length : Nat) : Int).toNat false), (0 : Int), ())).bind fun r25 =>
                 alt r25 (fun r26 =>
                  some (r26.1))
                  (fun r27 =>
                  (loop laws_FnAdmissible_l3 (r27.1, r27.2.1, (0 : Int), ())).bind fun r28 =>
                  alt r28 (fun r29 =>
                   some (r29.1))
                   (fun r30 =>
                   some (true)))
                else none
noncomputable def spec_l04Period (x : (Int × (Int × Unit))) : Option (Int) :=
  (spec_l01Orbit x).bind fun r0 =>
  bif (!r0.2.2) then
   some ((0 : Int))
  else bif (decide (r0.2.1 > (0 : Int))) then
    some ((0 : Int))
   else some (((r0.1.length : Nat) : Int))
noncomputable def spec_l04Angles_l0 : Int × (List (Int × (Int × Unit))) × Int × Int × Unit → Option (Ctl (Int × (List (Int × (Int × Unit))) × Int × Int × Unit) (((List (Int × (Int × Unit))) × Unit)))
  | (n, (out, (den, (k, ())))) =>
    bif (decide (k < den)) then
   (spec_l01Of k den).bind fun r0 =>
   (spec_l04Period r0).bind fun r1 =>
   bif (r1 == n) then
    bif (decide (((out.length + [r0].length) * 16) ≤ 140737488355328)) then
     some (.next (n, ((out ++ [r0]), (den, ((w64 (k + (1 : Int))), ())))))
    else none
   else some (.next (n, (out, (den, ((w64 (k + (1 : Int))), ())))))
  else some (.stop ((out, ())))
noncomputable def spec_l04Angles (n : Int) : Option ((List (Int × (Int × Unit)))) :=
  bif (decide ((0 : Int) ≤ (wu64 n))) then
   (loop spec_l04Angles_l0 (n, ([] : List (Int × (Int × Unit))), (w64 ((w64 ((1 : Int) * ((2 : Int) ^ (min (wu64 n).toNat 64)))) - (1 : Int))), (0 : Int), ())).bind fun r0 =>
   some (r0.1)
  else none
noncomputable def spec_l01Less (a : (Int × (Int × Unit))) (b : (Int × (Int × Unit))) : Option (Bool) :=
  some ((decide ((w64 (a.1 * b.2.1)) < (w64 (b.1 * a.2.1)))))
noncomputable def spec_l01Within (x : (Int × (Int × Unit))) (a : (Int × (Int × Unit))) (b : (Int × (Int × Unit))) : Option (Bool) :=
  (spec_l01Less a b).bind fun r0 =>
  bif r0 then
   (spec_l01Less a x).bind fun r1 =>
   bif r1 then
    (spec_l01Less x b).bind fun r2 =>
    some (r2)
   else some (false)
  else (spec_l01Less a x).bind fun r3 =>
   bif r3 then
    some (true)
   else (spec_l01Less x b).bind fun r4 =>
    some (r4)
noncomputable def spec_l04Inside (x : (Int × (Int × Unit))) (p : ((Int × (Int × Unit)) × ((Int × (Int × Unit)) × Unit))) : Option (Bool) :=
  (spec_l01Within x p.1 p.2.1).bind fun r0 =>
  some (r0)
noncomputable def spec_l04Cross (a : ((Int × (Int × Unit)) × ((Int × (Int × Unit)) × Unit))) (b : ((Int × (Int × Unit)) × ((Int × (Int × Unit)) × Unit))) : Option (Bool) :=
  bif ((a.1.1 == b.1.1) && ((a.1.2.1 == b.1.2.1) && true)) then
   some (false)
  else bif ((a.1.1 == b.2.1.1) && ((a.1.2.1 == b.2.1.2.1) && true)) then
    some (false)
   else bif ((a.2.1.1 == b.1.1) && ((a.2.1.2.1 == b.1.2.1) && true)) then
     some (false)
    else bif ((a.2.1.1 == b.2.1.1) && ((a.2.1.2.1 == b.2.1.2.1) && true)) then
      some (false)
     else (spec_l04Inside a.1 b).bind fun r0 =>
      (spec_l04Inside a.2.1 b).bind fun r1 =>
      some ((!(r0 == r1)))
noncomputable def spec_l01Bad (s : ((List Int) × (Int × (Int × Unit)))) (a : (Int × (Int × Unit))) : Option ((Int × (Int × Unit)) × (((List Int) × (Int × (Int × Unit))))) :=
  (spec_l01Next s (40 : Int)).bind fun r0 =>
  bif (r0.1 == (0 : Int)) then
   (spec_l01Pick r0.2 [(-1 : Int), a.2.1, (w64 (a.2.1 + (1 : Int))), (1099511627776 : Int)]).bind fun r1 =>
   some ((r1.1, a.2), r1.2)
  else bif (r0.1 == (1 : Int)) then
    (spec_l01Pick r0.2 [(0 : Int), (-3 : Int), (8192 : Int), (1099511627776 : Int)]).bind fun r2 =>
    some ((a.1, r2.1, a.2.2), r2.2)
   else bif (r0.1 == (2 : Int)) then
     some (((w64 ((2 : Int) * a.1)), (w64 ((2 : Int) * a.2.1)), a.2.2), r0.2)
    else some (a, r0.2)
noncomputable def spec_l01Spoil (s : ((List Int) × (Int × (Int × Unit)))) : Option ((Int × (Int × Unit)) × (((List Int) × (Int × (Int × Unit))))) :=
  (spec_l01Draw s).bind fun r0 =>
  (spec_l01Bad r0.2 r0.1).bind fun r1 =>
  some (r1.1, r1.2)
noncomputable def spec_l04Draw (s : ((List Int) × (Int × (Int × Unit)))) : Option ((Int × (Int × Unit)) × (((List Int) × (Int × (Int × Unit))))) :=
  (spec_l01Pick s [(2 : Int), (3 : Int), (4 : Int), (5 : Int), (5 : Int), (6 : Int), (7 : Int), (8 : Int)]).bind fun r0 =>
  bif (decide ((0 : Int) ≤ (wu64 r0.1))) then
   (spec_l01Next r0.2 (12 : Int)).bind fun r1 =>
   bif (r1.1 == (0 : Int)) then
    (spec_l01Spoil r1.2).bind fun r2 =>
    some (r2.1, r2.2)
   else (spec_l01Next r1.2 (w64 ((w64 ((1 : Int) * ((2 : Int) ^ (min (wu64 r0.1).toNat 64)))) - (1 : Int)))).bind fun r3 =>
    (spec_l01Of r3.1 (w64 ((w64 ((1 : Int) * ((2 : Int) ^ (min (wu64 r0.1).toNat 64)))) - (1 : Int)))).bind fun r4 =>
    some (r4, r3.2)
  else none
noncomputable def spec_l01Is (a : (Int × (Int × Unit))) : Option (Bool) :=
  (spec_l01In a.2.1 (1 : Int) (8191 : Int)).bind fun r0 =>
  bif r0 then
   (spec_l01In a.1 (0 : Int) (w64 (a.2.1 - (1 : Int)))).bind fun r1 =>
   bif r1 then
    (spec_l01Divisor a.1 a.2.1).bind fun r2 =>
    some ((r2 == (1 : Int)))
   else some (false)
  else some (false)

end Go.K.Pure

/- Plain laws of ray pairs, part A: loops, words, angles (turned from the parts of portraits). -/
set_option linter.all false
namespace Go.K.Pure
theorem w64_id {n : Int} (h1 : -9223372036854775808 ≤ n) (h2 : n < 9223372036854775808) : w64 n = n := by
  simp [w64, IntKind.wrap, IntKind.bits, IntKind.signed]; omega
/-- A loop with an invariant and a measure. -/
theorem loop_inv {α β : Type} {step : α → Option (Ctl α β)} (I : α → Prop) (μ : α → Nat) (Q : β → Prop)
    (h : ∀ a, I a → (∃ b, step a = some (.stop b) ∧ Q b) ∨ ∃ a', step a = some (.next a') ∧ I a' ∧ μ a' < μ a) : ∀ a, I a → ∃ b, loop step a = some b ∧ Q b := by
  have key : ∀ n a, μ a ≤ n → I a → ∃ b, loop step a = some b ∧ Q b := by
    intro n
    induction n with
    | zero =>
      intro a hm ha
      rcases h a ha with ⟨b, h1, h2⟩ | ⟨a', _, _, h3⟩
      · exact ⟨b, by rw [loop_eq, h1], h2⟩
      · omega
    | succ n ih =>
      intro a hm ha
      rcases h a ha with ⟨b, h1, h2⟩ | ⟨a', h1, h2, h3⟩
      · exact ⟨b, by rw [loop_eq, h1], h2⟩
      · obtain ⟨b, h4, h5⟩ := ih a' (by omega) h2
        exact ⟨b, by rw [loop_eq, h1]; exact h4, h5⟩
  exact fun a ha => key (μ a) a (Nat.le_refl _) ha
/-- A counted loop: from state `s i` to `s (i + 1)` while `i < n`. -/
theorem loop_count {α β : Type} {step : α → Option (Ctl α β)} (s : Nat → α) (n : Nat) (b : β) (h1 : ∀ i, i < n → step (s i) = some (.next (s (i + 1)))) (h2 : step (s n) = some (.stop b)) : ∀ i, i ≤ n → loop step (s i) = some b := by
  have key : ∀ k i, n - i = k → i ≤ n → loop step (s i) = some b := by
    intro k
    induction k with
    | zero =>
      intro i hk hi
      have : i = n := by omega
      subst this
      rw [loop_eq, h2]
    | succ k ih =>
      intro i hk hi
      rw [loop_eq, h1 i (by omega)]
      exact ih (i + 1) (by omega) (by omega)
  exact fun i hi => key _ i rfl hi
/-- A counted loop that may stop early: it stops at the first `i` at which `stop i` gives something. -/
theorem loop_find {α β : Type} {step : α → Option (Ctl α β)} (s : Nat → α) (n : Nat) (b : β) (stop : Nat → Option β) (h1 : ∀ i, i < n → step (s i) = match stop i with | some c => some (.stop c) | none => some (.next (s (i + 1)))) (h2 : step (s n) = some (.stop b)) :
    ∀ i, i ≤ n → (loop step (s i) = some b ∧ ∀ j, i ≤ j → j < n → stop j = none) ∨ ∃ j c, i ≤ j ∧ j < n ∧ stop j = some c ∧ loop step (s i) = some c ∧ ∀ k, i ≤ k → k < j → stop k = none := by
  have key : ∀ k i, n - i = k → i ≤ n → (loop step (s i) = some b ∧ ∀ j, i ≤ j → j < n → stop j = none) ∨ ∃ j c, i ≤ j ∧ j < n ∧ stop j = some c ∧ loop step (s i) = some c ∧ ∀ k, i ≤ k → k < j → stop k = none := by
    intro k
    induction k with
    | zero =>
      intro i hk hi
      have : i = n := by omega
      subst this
      exact .inl ⟨by rw [loop_eq, h2], fun j h3 h4 => by omega⟩
    | succ k ih =>
      intro i hk hi
      have h3 := h1 i (by omega)
      cases hs : stop i with
      | some c =>
        rw [hs] at h3
        exact .inr ⟨i, c, Nat.le_refl _, by omega, hs, by rw [loop_eq, h3], fun k h4 h5 => by omega⟩
      | none =>
        rw [hs] at h3
        rcases ih (i + 1) (by omega) (by omega) with ⟨h4, h5⟩ | ⟨j, c, h4, h5, h6, h7, h8⟩
        · refine .inl ⟨by rw [loop_eq, h3]; exact h4, fun j h6 h7 => ?_⟩
          by_cases hj : j = i
          · subst hj; exact hs
          · exact h5 j (by omega) h7
        · refine .inr ⟨j, c, by omega, h5, h6, by rw [loop_eq, h3]; exact h7, fun k h9 h10 => ?_⟩
          by_cases hj : k = i
          · subst hj; exact hs
          · exact h8 k (by omega) h10
  exact fun i hi => key _ i rfl hi
theorem getD_at {α : Type} {l : List α} {i : Nat} {d : α} (h : i < l.length) : l.getD i d = l[i] := by
  simp [List.getD_eq_getElem?_getD, h]

abbrev Ang := Int × Int × Unit
abbrev Lf := Ang × Ang × Unit
abbrev InI (n : Int) : Prop := -9223372036854775808 ≤ n ∧ n < 9223372036854775808
theorem bif_pos {α : Type} {p : Prop} [Decidable p] (h : p) {x y : α} : (bif decide p then x else y) = x := by simp [h]
theorem bif_neg {α : Type} {p : Prop} [Decidable p] (h : ¬ p) {x y : α} : (bif decide p then x else y) = y := by simp [h]

abbrev InA (a : Ang) : Prop := InI a.1 ∧ InI a.2.1
abbrev isA (a : Ang) : Prop := 1 ≤ a.2.1 ∧ a.2.1 ≤ 8191 ∧ 0 ≤ a.1 ∧ a.1 < a.2.1 ∧ Int.gcd a.1 a.2.1 = 1
theorem gcd_step {x y : Int} (hx : 0 ≤ x) (hy : 0 < y) : Int.gcd y (x.tmod y) = Int.gcd x y := by
  rw [Int.tmod_eq_emod_of_nonneg hx]
  obtain ⟨x, rfl⟩ := Int.eq_ofNat_of_zero_le hx
  obtain ⟨y, rfl⟩ := Int.eq_ofNat_of_zero_le (Int.le_of_lt hy)
  show Nat.gcd y (x % y) = Nat.gcd x y
  rw [Nat.gcd_comm y, ← Nat.gcd_rec, Nat.gcd_comm]
theorem spec_div {a b : Int} (ha : 0 ≤ a) (hb : 0 ≤ b) : spec_l01Divisor a b = some (Int.gcd a b : Int) := by
  unfold spec_l01Divisor
  obtain ⟨r, h1, h2⟩ := loop_inv (step := spec_l01Divisor_l0) (fun s => 0 ≤ s.1 ∧ 0 ≤ s.2.1 ∧ Int.gcd s.1 s.2.1 = Int.gcd a b) (fun s => s.2.1.toNat) (fun r => r.1 = (Int.gcd a b : Int)) (by
    rintro ⟨x, y, ⟨⟩⟩ ⟨hx, hy, hg⟩
    simp only at hx hy hg
    by_cases h : y > 0
    · right
      refine ⟨(y, x.tmod y, ()), ?_, ⟨hy, Int.tmod_nonneg _ hx, ?_⟩, ?_⟩
      · have : ¬ y = 0 := by omega
        have e : (y == 0) = false := by simpa using this
        simp [spec_l01Divisor_l0, h, e]
      · rw [gcd_step hx h]; exact hg
      · have h1 := Int.tmod_lt_of_pos x h
        have h2 := Int.tmod_nonneg y hx
        simp only
        omega
    · left
      have : y = 0 := by omega
      subst this
      refine ⟨(x, ()), by simp [spec_l01Divisor_l0], ?_⟩
      simp only
      rw [← hg, Int.gcd_zero_right]
      omega) (a, b, ()) ⟨ha, hb, rfl⟩
  rw [h1]
  simp only [Option.bind_some]
  rw [h2]
theorem impl_div {a b : Int} (ha : 0 ≤ a) (hb : 0 ≤ b) : impl_divisor a b = some (Int.gcd a b : Int) := by
  unfold impl_divisor
  obtain ⟨r, h1, h2⟩ := loop_inv (step := impl_divisor_l0) (fun s => 0 ≤ s.1 ∧ 0 ≤ s.2.1 ∧ Int.gcd s.1 s.2.1 = Int.gcd a b) (fun s => s.2.1.toNat) (fun r => r.1 = (Int.gcd a b : Int)) (by
    rintro ⟨x, y, ⟨⟩⟩ ⟨hx, hy, hg⟩
    simp only at hx hy hg
    by_cases h : y > 0
    · right
      refine ⟨(y, x.tmod y, ()), ?_, ⟨hy, Int.tmod_nonneg _ hx, ?_⟩, ?_⟩
      · have : ¬ y = 0 := by omega
        have e : (y == 0) = false := by simpa using this
        have e2 : (y != 0) = true := by simpa using this
        simp [impl_divisor_l0, e, e2]
      · rw [gcd_step hx h]; exact hg
      · have h1 := Int.tmod_lt_of_pos x h
        have h2 := Int.tmod_nonneg y hx
        simp only
        omega
    · left
      have : y = 0 := by omega
      subst this
      refine ⟨(x, ()), by simp [impl_divisor_l0], ?_⟩
      simp only
      rw [← hg, Int.gcd_zero_right]
      omega) (a, b, ()) ⟨ha, hb, rfl⟩
  rw [h1]
  simp only [Option.bind_some]
  rw [h2]
theorem spec_in {n l h : Int} : spec_l01In n l h = some (decide (l ≤ n ∧ n ≤ h)) := by
  unfold spec_l01In
  by_cases h1 : n ≥ l
  · have : l ≤ n := h1
    simp [h1, this]
  · have : ¬ l ≤ n := h1
    simp [h1, this]
theorem impl_in {n l h : Int} : impl_within n l h = some (decide (l ≤ n ∧ n ≤ h)) := by
  unfold impl_within
  by_cases h1 : l ≤ n <;> simp [h1]
theorem spec_isA {a : Ang} (ha : InA a) : spec_l01Is a = some (decide (isA a)) := by
  obtain ⟨⟨a1, a2⟩, a3, a4⟩ := ha
  unfold spec_l01Is isA
  rw [spec_in]
  by_cases h1 : 1 ≤ a.2.1 ∧ a.2.1 ≤ 8191
  · rw [w64_id (by omega) (by omega)]
    simp only [Option.bind_some, h1, and_self, decide_true, cond_true, spec_in, true_and]
    by_cases h2 : 0 ≤ a.1 ∧ a.1 ≤ a.2.1 - 1
    · simp only [h2, and_self, decide_true, cond_true]
      rw [spec_div (by omega) (by omega)]
      have h3 : a.1 < a.2.1 := by omega
      simp only [Option.bind_some, h3, true_and]
      congr 1
      by_cases hg : Int.gcd a.1 a.2.1 = 1
      · simp [hg]
      · have : ¬ ((Int.gcd a.1 a.2.1 : Nat) : Int) = 1 := by omega
        simp [hg, this]
    · simp only [h2, decide_false, cond_false]
      congr 1
      symm
      exact decide_eq_false (by omega)
  · simp only [Option.bind_some, h1, decide_false, cond_false]
    congr 1
    symm
    exact decide_eq_false (by omega)
theorem impl_isA {a : Ang} (ha : InA a) : impl_IsAngle a = some (decide (isA a)) := by
  obtain ⟨⟨a1, a2⟩, a3, a4⟩ := ha
  unfold impl_IsAngle isA
  rw [impl_in]
  by_cases h1 : 1 ≤ a.2.1 ∧ a.2.1 ≤ 8191
  · rw [w64_id (by omega) (by omega)]
    simp only [Option.bind_some, h1, and_self, decide_true, cond_true, impl_in, true_and]
    by_cases h2 : 0 ≤ a.1 ∧ a.1 ≤ a.2.1 - 1
    · simp only [h2, and_self, decide_true, cond_true]
      rw [impl_div (by omega) (by omega), Int.gcd_comm]
      have h3 : a.1 < a.2.1 := by omega
      simp only [Option.bind_some, h3, true_and]
      congr 1
      by_cases hg : Int.gcd a.1 a.2.1 = 1
      · simp [hg]
      · have : ¬ ((Int.gcd a.1 a.2.1 : Nat) : Int) = 1 := by omega
        simp [hg, this]
    · simp only [h2, decide_false, cond_false]
      congr 1
      symm
      exact decide_eq_false (by omega)
  · simp only [Option.bind_some, h1, decide_false, cond_false]
    congr 1
    symm
    exact decide_eq_false (by omega)

theorem common : ∀ n : Nat, ∃ K : Int, 0 < K ∧ ∀ d : Int, 1 ≤ d → d ≤ n → d ∣ K
  | 0 => ⟨1, by omega, fun d h1 h2 => by omega⟩
  | n + 1 => by
    obtain ⟨K, h1, h2⟩ := common n
    refine ⟨K * (n + 1), Int.mul_pos h1 (by omega), fun d h3 h4 => ?_⟩
    by_cases h : d ≤ n
    · exact Int.dvd_trans (h2 d h3 h) ⟨(n : Int) + 1, rfl⟩
    · have : d = (n : Int) + 1 := by omega
      subst this
      exact ⟨K, by rw [Int.mul_comm]⟩
/-- A common multiple of all denominators. -/
noncomputable def KK : Int := Classical.choose (common 8191)
theorem KK_pos : 0 < KK := (Classical.choose_spec (common 8191)).1
theorem KK_dvd {d : Int} (h1 : 1 ≤ d) (h2 : d ≤ 8191) : d ∣ KK := (Classical.choose_spec (common 8191)).2 d h1 h2
/-- An angle's value, over the common denominator. -/
noncomputable def val (a : Ang) : Int := a.1 * (KK / a.2.1)
theorem KK_div {a : Ang} (h : isA a) : a.2.1 * (KK / a.2.1) = KK := Int.mul_ediv_cancel' (KK_dvd h.1 h.2.1)
theorem kd_pos {a : Ang} (h : isA a) : 0 < KK / a.2.1 := by
  have h1 := KK_div h
  have h2 := KK_pos
  have h3 := h.1
  by_cases h4 : 0 < KK / a.2.1
  · exact h4
  · exfalso
    have : a.2.1 * (KK / a.2.1) ≤ 0 := Int.mul_nonpos_of_nonneg_of_nonpos (by omega) (by omega)
    omega
theorem val_nonneg {a : Ang} (h : isA a) : 0 ≤ val a := Int.mul_nonneg h.2.2.1 (Int.le_of_lt (kd_pos h))
theorem val_lt_KK {a : Ang} (h : isA a) : val a < KK := by
  have h1 := Int.mul_lt_mul_of_pos_right h.2.2.2.1 (kd_pos h)
  rw [KK_div h] at h1
  exact h1
/-- The difference of two values. -/
theorem val_cross {a b : Ang} (ha : isA a) (hb : isA b) : (val b - val a) * (a.2.1 * b.2.1) = (b.1 * a.2.1 - a.1 * b.2.1) * KK := by
  have h1 := KK_div ha
  have h2 := KK_div hb
  unfold val
  generalize KK / a.2.1 = x at *
  generalize KK / b.2.1 = y at *
  have e1 : b.1 * y * (a.2.1 * b.2.1) = b.1 * a.2.1 * KK := by rw [← h2]; ac_rfl
  have e2 : a.1 * x * (a.2.1 * b.2.1) = a.1 * b.2.1 * KK := by rw [← h1]; ac_rfl
  rw [Int.sub_mul, Int.sub_mul, e1, e2]
def lt (a b : Ang) : Prop := a.1 * b.2.1 < b.1 * a.2.1
instance (a b : Ang) : Decidable (lt a b) := by unfold lt; infer_instance
theorem den_pos {a b : Ang} (ha : isA a) (hb : isA b) : 0 < a.2.1 * b.2.1 := Int.mul_pos (by have := ha.1; omega) (by have := hb.1; omega)
theorem lt_val {a b : Ang} (ha : isA a) (hb : isA b) : lt a b ↔ val a < val b := by
  have h1 := val_cross ha hb
  have h2 := den_pos ha hb
  have h3 := KK_pos
  unfold lt
  constructor
  · intro h
    have : 0 < (b.1 * a.2.1 - a.1 * b.2.1) * KK := Int.mul_pos (by omega) h3
    rw [← h1] at this
    have := Int.pos_of_mul_pos_left this h2
    omega
  · intro h
    have : 0 < (val b - val a) * (a.2.1 * b.2.1) := Int.mul_pos (by omega) h2
    rw [h1] at this
    have := Int.pos_of_mul_pos_left this h3
    omega
theorem dvd_of_gcd {a b c : Int} (h : a ∣ b * c) (g : Int.gcd a b = 1) : a ∣ c := by
  rw [← Int.natAbs_dvd_natAbs, Int.natAbs_mul] at h
  rw [← Int.natAbs_dvd_natAbs]
  exact Nat.Coprime.dvd_of_dvd_mul_left (show Nat.Coprime a.natAbs b.natAbs from g) h
theorem val_inj {a b : Ang} (ha : isA a) (hb : isA b) (h : val a = val b) : a = b := by
  have h1 := val_cross ha hb
  have h3 := KK_pos
  rw [h, Int.sub_self, Int.zero_mul] at h1
  have h4 : a.1 * b.2.1 = b.1 * a.2.1 := by
    rcases Int.mul_eq_zero.1 h1.symm with h5 | h5 <;> omega
  obtain ⟨a1, a2, ⟨⟩⟩ := a
  obtain ⟨b1, b2, ⟨⟩⟩ := b
  simp only [isA] at ha hb h4 ⊢
  obtain ⟨x1, x2, x3, x4, x5⟩ := ha
  obtain ⟨y1, y2, y3, y4, y5⟩ := hb
  have d1 : a2 ∣ b2 := by
    have : a2 ∣ a1 * b2 := ⟨b1, by rw [h4, Int.mul_comm]⟩
    exact dvd_of_gcd this (by rw [Int.gcd_comm]; exact x5)
  have d2 : b2 ∣ a2 := by
    have : b2 ∣ b1 * a2 := ⟨a1, by rw [← h4, Int.mul_comm]⟩
    exact dvd_of_gcd this (by rw [Int.gcd_comm]; exact y5)
  have e : a2 = b2 := Int.dvd_antisymm (by omega) (by omega) d1 d2
  subst e
  have : a1 = b1 := Int.eq_of_mul_eq_mul_right (by omega) h4
  rw [this]
theorem mul_bnd {x y : Int} (h1 : 0 ≤ x) (h2 : x ≤ 8191) (h3 : 0 ≤ y) (h4 : y ≤ 8191) : 0 ≤ x * y ∧ x * y ≤ 67092481 := by
  refine ⟨Int.mul_nonneg h1 h3, ?_⟩
  have := Int.mul_le_mul h2 h4 h3 (by omega)
  omega
theorem cross_bnd {a b : Ang} (ha : isA a) (hb : isA b) : 0 ≤ a.1 * b.2.1 ∧ a.1 * b.2.1 ≤ 67092481 := by
  obtain ⟨x1, x2, x3, x4, x5⟩ := ha
  obtain ⟨y1, y2, y3, y4, y5⟩ := hb
  exact mul_bnd (by omega) (by omega) (by omega) (by omega)
theorem spec_less {a b : Ang} (ha : isA a) (hb : isA b) : spec_l01Less a b = some (decide (lt a b)) := by
  unfold spec_l01Less lt
  have h1 := cross_bnd ha hb
  have h2 := cross_bnd hb ha
  rw [w64_id (by omega) (by omega), w64_id (by omega) (by omega)]
theorem impl_cmp {x y : Int} : cmp_Compare_int64 x y = some (if x < y then -1 else if y < x then 1 else 0) := by
  unfold cmp_Compare_int64 cmp_isNaN_int64
  simp only [Option.bind_some, bne_self_eq_false, cond_false]
  by_cases h1 : x < y
  · simp [h1]
  · by_cases h2 : y < x
    · have : x > y := h2
      simp [h1, this]
    · have : ¬ x > y := h2
      simp [h1, this]
def cmpA (a b : Ang) : Int := if lt a b then -1 else if lt b a then 1 else 0
theorem impl_compare {a b : Ang} (ha : isA a) (hb : isA b) : impl_Angle_compare a b = some (cmpA a b) := by
  unfold impl_Angle_compare cmpA lt
  have h1 := cross_bnd ha hb
  have h2 := cross_bnd hb ha
  rw [w64_id (by omega) (by omega), w64_id (by omega) (by omega), impl_cmp]
  rfl

theorem mul_lt_iff {x y c : Int} (hc : 0 < c) : x * c < y * c ↔ x < y := ⟨fun h => Int.lt_of_mul_lt_mul_right h (Int.le_of_lt hc), fun h => Int.mul_lt_mul_of_pos_right h hc⟩
theorem angle_ok {num den : Int} (h1 : 0 < den) (h2 : den ≤ 67092481) (h3 : -67092481 ≤ num) (h4 : num ≤ 67092481) :
    ∃ g n d : Int, 0 < g ∧ num % den = g * n ∧ den = g * d ∧ 0 ≤ n ∧ n < d ∧ d ≤ den ∧ impl_angle num den = some (n, d, ()) := by
  have e0 : (den == 0) = false := by simpa using (by omega : ¬ den = 0)
  have m1 : -den < num.tmod den := Int.lt_tmod_of_pos num h1
  have m2 : num.tmod den < den := Int.tmod_lt_of_pos num h1
  have e1 : (num.tmod den + den).tmod den = num % den := by
    rw [Int.tmod_eq_emod_of_nonneg (by omega), Int.add_emod_right, Int.emod_eq_emod_iff_emod_sub_eq_zero]
    have : num.tmod den - num = den * (-(num.tdiv den)) := by
      have := Int.mul_tdiv_add_tmod num den
      rw [Int.mul_neg]; omega
    rw [this]
    exact Int.mul_emod_right _ _
  have n1 := Int.emod_nonneg num (show den ≠ 0 by omega)
  have n2 := Int.emod_lt_of_pos num h1
  unfold impl_angle
  simp only [e0, Bool.not_false, cond_true]
  rw [w64_id (n := num.tmod den + den) (by omega) (by omega), e1]
  rw [impl_div (by omega) (by omega)]
  simp only [Option.bind_some]
  have g0 : 0 < Int.gcd den (num % den) := Int.gcd_pos_of_ne_zero_left _ (by omega)
  generalize hg : Int.gcd den (num % den) = g at g0
  have e2 : (((g : Nat) : Int) == 0) = false := by simpa using (by omega : ¬ (g : Int) = 0)
  simp only [e2, Bool.not_false, cond_true]
  obtain ⟨d, hd⟩ : (g : Int) ∣ den := by rw [← hg]; exact Int.gcd_dvd_left _ _
  obtain ⟨n, hn⟩ : (g : Int) ∣ num % den := by rw [← hg]; exact Int.gcd_dvd_right _ _
  have t1 : (num % den).tdiv (g : Int) = n := by rw [hn]; exact Int.mul_tdiv_cancel_left _ (by omega)
  have t2 : den.tdiv (g : Int) = d := by
    conv => lhs; rw [hd]
    exact Int.mul_tdiv_cancel_left _ (by omega)
  have hgp : (0 : Int) < g := by omega
  have d0 : 0 < d := by
    rw [hd] at h1
    exact Int.pos_of_mul_pos_right h1 hgp
  have n0 : 0 ≤ n := by
    rw [← t1]; exact Int.tdiv_nonneg n1 (by omega)
  have nd : n < d := by
    rw [hn] at n2
    have n2' : n * g < d * g := by rw [Int.mul_comm n, Int.mul_comm d, ← hd]; exact n2
    exact Int.lt_of_mul_lt_mul_right n2' (by omega)
  have dd : d ≤ den := by
    have : d * 1 ≤ d * g := Int.mul_le_mul_of_nonneg_left (by omega) (by omega)
    rw [hd, Int.mul_comm (g : Int)]; omega
  refine ⟨g, n, d, hgp, hn, hd, n0, nd, dd, ?_⟩
  rw [t1, t2, w64_id (by omega) (by omega), w64_id (by omega) (by omega)]
/-- How far it is from one to the other, ahead. -/
noncomputable def dv (x y : Ang) : Int := if val y ≤ val x then val x - val y else val x - val y + KK
theorem minus_ok {a b : Ang} (ha : isA a) (hb : isA b) : ∃ n d : Int, impl_Angle_minus b a = some (n, d, ()) ∧ 0 ≤ n ∧ n < d ∧ d ≤ 67092481 ∧ n * KK = dv b a * d := by
  have c1 := cross_bnd hb ha
  have c2 := cross_bnd ha hb
  have c3 := mul_bnd (show 0 ≤ b.2.1 by have := hb.1; omega) hb.2.1 (show 0 ≤ a.2.1 by have := ha.1; omega) ha.2.1
  have c4 := den_pos hb ha
  have hv := val_cross ha hb
  have v1 := val_nonneg ha
  have v2 := val_lt_KK ha
  have v3 := val_nonneg hb
  have v4 := val_lt_KK hb
  have hK := KK_pos
  have hlt := lt_val hb ha
  unfold impl_Angle_minus
  rw [w64_id (n := b.1 * a.2.1) (by omega) (by omega), w64_id (n := a.1 * b.2.1) (by omega) (by omega), w64_id (n := b.1 * a.2.1 - a.1 * b.2.1) (by omega) (by omega), w64_id (n := b.2.1 * a.2.1) (by omega) (by omega)]
  obtain ⟨g, n, d, h1, h2, h3, h4, h5, h6, h7⟩ := angle_ok (num := b.1 * a.2.1 - a.1 * b.2.1) (den := b.2.1 * a.2.1) c4 c3.2 (by omega) (by omega)
  refine ⟨n, d, by rw [h7]; rfl, h4, h5, by omega, ?_⟩
  -- the fractional part, over the common denominator
  have key : (b.1 * a.2.1 - a.1 * b.2.1) % (b.2.1 * a.2.1) * KK = dv b a * (b.2.1 * a.2.1) := by
    have hn1 := hb.2.2.2.1
    have hn2 := ha.2.2.2.1
    have p1 : b.1 * a.2.1 < b.2.1 * a.2.1 := Int.mul_lt_mul_of_pos_right hn1 (by have := ha.1; omega)
    have p2 : a.1 * b.2.1 < a.2.1 * b.2.1 := Int.mul_lt_mul_of_pos_right hn2 (by have := hb.1; omega)
    rw [Int.mul_comm a.2.1 b.2.1] at hv p2
    unfold lt at hlt
    unfold dv
    generalize b.2.1 * a.2.1 = D at *
    by_cases hc : val a ≤ val b
    · rw [if_pos hc, hv]
      have : ¬ (b.1 * a.2.1 < a.1 * b.2.1) := fun h => by have := hlt.1 h; omega
      rw [Int.emod_eq_of_lt (by omega) (by omega)]
    · rw [if_neg hc, Int.add_mul, hv]
      have : b.1 * a.2.1 < a.1 * b.2.1 := hlt.2 (by omega)
      rw [← Int.add_emod_right, Int.emod_eq_of_lt (by omega) (by omega), Int.add_mul, Int.mul_comm KK]
  rw [h2, h3] at key
  have key' : (n * KK) * g = (dv b a * d) * g := by
    calc (n * KK) * g = g * n * KK := by ac_rfl
      _ = dv b a * (g * d) := key
      _ = (dv b a * d) * g := by ac_rfl
  exact Int.eq_of_mul_eq_mul_right (by omega) key'
theorem impl_order_ok {a b c : Ang} (ha : isA a) (hb : isA b) (hc : isA c) : impl_order a b c = some (if a = b ∨ b = c ∨ a = c then 0 else if dv b a < dv c a then 1 else -1) := by
  have beqA : ∀ x y : Ang, ((x.1 == y.1) && ((x.2.1 == y.2.1) && true)) = decide (x = y) := by
    rintro ⟨x1, x2, ⟨⟩⟩ ⟨y1, y2, ⟨⟩⟩
    by_cases h1 : x1 = y1 <;> by_cases h2 : x2 = y2 <;> simp [h1, h2]
  unfold impl_order
  rw [beqA, beqA, beqA]
  by_cases h1 : a = b
  · simp [h1]
  · by_cases h2 : b = c
    · simp [h1, h2]
    · by_cases h3 : a = c
      · simp [h1, h2, h3]
      · simp only [h1, h2, h3, decide_false, cond_false, or_self, if_false]
        obtain ⟨n0, d0, e0, p1, p2, p3, p4⟩ := minus_ok ha hb
        obtain ⟨n1, d1, e1, q1, q2, q3, q4⟩ := minus_ok ha hc
        rw [e0, e1]
        simp only [Option.bind_some]
        have hK := KK_pos
        have b1 : 0 ≤ n0 * d1 ∧ n0 * d1 ≤ 67092481 * 67092481 := ⟨Int.mul_nonneg p1 (by omega), by
          have := Int.mul_le_mul (show n0 ≤ 67092481 by omega) q3 (by omega) (by omega); omega⟩
        have b2 : 0 ≤ n1 * d0 ∧ n1 * d0 ≤ 67092481 * 67092481 := ⟨Int.mul_nonneg q1 (by omega), by
          have := Int.mul_le_mul (show n1 ≤ 67092481 by omega) p3 (by omega) (by omega); omega⟩
        unfold impl_Angle_compare
        simp only
        rw [w64_id (n := n0 * d1) (by omega) (by omega), w64_id (n := n1 * d0) (by omega) (by omega), impl_cmp]
        have hiff : n0 * d1 < n1 * d0 ↔ dv b a < dv c a := by
          have k1 : n0 * d1 * KK = dv b a * (d0 * d1) := by
            calc n0 * d1 * KK = n0 * KK * d1 := by ac_rfl
              _ = dv b a * d0 * d1 := by rw [p4]
              _ = _ := by ac_rfl
          have k2 : n1 * d0 * KK = dv c a * (d0 * d1) := by
            calc n1 * d0 * KK = n1 * KK * d0 := by ac_rfl
              _ = dv c a * d1 * d0 := by rw [q4]
              _ = _ := by ac_rfl
          rw [← mul_lt_iff hK, k1, k2, mul_lt_iff (Int.mul_pos (by omega) (by omega))]
        simp only [Option.bind_some]
        by_cases h : n0 * d1 < n1 * d0
        · rw [if_pos h, if_pos (hiff.1 h)]; rfl
        · rw [if_neg h, if_neg (fun h' => h (hiff.2 h'))]
          split <;> rfl
theorem beqA (x y : Ang) : ((x.1 == y.1) && ((x.2.1 == y.2.1) && true)) = decide (x = y) := by
  obtain ⟨x1, x2, ⟨⟩⟩ := x
  obtain ⟨y1, y2, ⟨⟩⟩ := y
  by_cases h1 : x1 = y1 <;> by_cases h2 : x2 = y2 <;> simp [h1, h2]
theorem spec_within {x a b : Ang} (hx : isA x) (ha : isA a) (hb : isA b) (h : lt a b) : spec_l01Within x a b = some (decide (lt a x ∧ lt x b)) := by
  unfold spec_l01Within
  rw [spec_less ha hb, decide_eq_true h]
  simp only [Option.bind_some, cond_true]
  rw [spec_less ha hx]
  simp only [Option.bind_some]
  by_cases h1 : lt a x
  · rw [decide_eq_true h1, cond_true, spec_less hx hb]
    simp [h1]
  · rw [decide_eq_false h1, cond_false]
    simp [h1]
theorem inb {n m : Nat} (h : n < m) : (decide ((0 : Int) ≤ (n : Int)) && decide ((n : Int) < (m : Int))) = true := by
  simp only [Bool.and_eq_true, decide_eq_true_eq]; omega
theorem nn {n : Nat} : decide ((0 : Int) ≤ (n : Int)) = true := by simp only [decide_eq_true_eq]; omega
theorem ltb {n m : Nat} (h : n < m) : decide ((n : Int) < (m : Int)) = true := by simp only [decide_eq_true_eq]; omega
theorem nltb {n m : Nat} (h : ¬ n < m) : decide ((n : Int) < (m : Int)) = false := by simp only [decide_eq_false_iff_not]; omega
theorem w64_succ {n : Nat} (h : n < 4611686018427387904) : w64 ((n : Int) + 1) = ((n + 1 : Nat) : Int) := by rw [w64_id (by omega) (by omega)]; omega
theorem w64_pred {n : Nat} (h : n < 4611686018427387904) (h0 : 0 < n) : w64 ((n : Int) - 1) = ((n - 1 : Nat) : Int) := by rw [w64_id (by omega) (by omega)]; omega

open Classical
abbrev dA : Ang := ((0 : Int), (0 : Int), ())
abbrev ea (xs : List Ang) (i : Nat) : Ang := xs.getD i dA
theorem ea_mem {xs : List Ang} {i : Nat} (h : i < xs.length) : ea xs i ∈ xs := by rw [ea, getD_at h]; exact List.getElem_mem h
/-- What is sorted: ascending, with repeats. -/
def tab {α : Type} (g : Nat → α) (N : Nat) : List α := (List.range N).map g
section
variable {α : Type} {g h : Nat → α} {N p : Nat} {d v : α}
theorem tab_len : (tab g N).length = N := by simp [tab]
theorem tab_at (hp : p < N) : (tab g N).getD p d = g p := by simp [tab, hp]
theorem tab_ext (hh : ∀ p, p < N → g p = h p) : tab g N = tab h N := List.map_congr_left fun p hp => hh p (List.mem_range.1 hp)
theorem tab_set (hp : p < N) : (tab g N).set p v = tab (fun q => if q = p then v else g q) N := by
  apply List.ext_getElem?
  intro i
  rw [List.getElem?_set]
  unfold tab
  by_cases hi : i < N
  · by_cases e : p = i
    · subst e; simp [hi]
    · have : ¬ i = p := fun h => e h.symm
      simp [hi, e, this]
  · have : ¬ p = i := by omega
    simp [hi, this]
theorem tab_self (l : List α) : tab (fun i => l.getD i d) l.length = l := by
  apply List.ext_getElem?
  intro i
  unfold tab
  by_cases hi : i < l.length
  · simp [hi]
  · simp [hi]
theorem tab_rep : List.replicate N v = tab (fun _ => v) N := by
  apply List.ext_getElem?
  intro i
  unfold tab
  by_cases hi : i < N <;> simp [hi]
end
theorem w64_add1 {n : Int} (h1 : 0 ≤ n) (h2 : n ≤ 1000000000000) : w64 (n + 1) = n + 1 := w64_id (by omega) (by omega)
end Go.K.Pure

/- Plain laws of ray pairs, part B: doubling, orbits (turned from the parts of portraits). -/
set_option linter.all false
namespace Go.K.Pure
open Classical
/-- One or the other. -/
noncomputable def sel {α : Type} (p : Prop) (x y : α) : α := @ite _ p (Classical.propDecidable p) x y
theorem sel_pos {α : Type} {p : Prop} (h : p) {x y : α} : sel p x y = x := if_pos h
theorem sel_neg {α : Type} {p : Prop} (h : ¬ p) {x y : α} : sel p x y = y := if_neg h
theorem sel_congr {α : Type} {p q : Prop} (h : p ↔ q) {x y : α} : sel p x y = sel q x y := by rw [propext h]
theorem decide_eq_sel (p : Prop) [Decidable p] : decide p = sel p true false := by
  by_cases h : p
  · rw [sel_pos h, decide_eq_true h]
  · rw [sel_neg h, decide_eq_false h]
/-- A loop that stops with one answer at the first place where something holds. -/
theorem loop_any {α β : Type} {step : α → Option (Ctl α β)} (s : Nat → α) (n : Nat) (b c : β) (P : Nat → Prop)
    (h1 : ∀ i, i < n → (∀ j, j < i → ¬ P j) → step (s i) = some (sel (P i) (.stop c) (.next (s (i + 1))))) (h2 : (∀ j, j < n → ¬ P j) → step (s n) = some (.stop b)) : loop step (s 0) = some (sel (∃ i, i < n ∧ P i) c b) := by
  have key : ∀ k i, n - i = k → i ≤ n → (∀ j, j < i → ¬ P j) → loop step (s i) = some (sel (∃ j, j < n ∧ P j) c b) := by
    intro k
    induction k with
    | zero =>
      intro i hk hi hj
      have : i = n := by omega
      subst this
      rw [loop_eq, h2 hj, sel_neg (fun ⟨j, h3, h4⟩ => hj j h3 h4)]
    | succ k ih =>
      intro i hk hi hj
      have h3 := h1 i (by omega) hj
      by_cases hp : P i
      · rw [sel_pos hp] at h3
        rw [loop_eq, h3, sel_pos ⟨i, by omega, hp⟩]
      · rw [sel_neg hp] at h3
        rw [loop_eq, h3]
        exact ih (i + 1) (by omega) (by omega) fun j hj' => by
          by_cases e : j = i
          · subst e; exact hp
          · exact hj j (by omega)
  exact key _ 0 rfl (Nat.zero_le _) fun j h => by omega
theorem loop_first {α β : Type} {step : α → Option (Ctl α β)} (s : Nat → α) (n : Nat) (b : β) (c : Nat → β) (P : Nat → Prop)
    (h1 : ∀ i, i < n → (∀ j, j < i → ¬ P j) → step (s i) = some (sel (P i) (.stop (c i)) (.next (s (i + 1))))) (h2 : (∀ j, j < n → ¬ P j) → step (s n) = some (.stop b)) :
    (∃ i, i < n ∧ P i ∧ loop step (s 0) = some (c i)) ∨ ((∀ j, j < n → ¬ P j) ∧ loop step (s 0) = some b) := by
  have key : ∀ k i, n - i = k → i ≤ n → (∀ j, j < i → ¬ P j) → (∃ i', i' < n ∧ P i' ∧ loop step (s i) = some (c i')) ∨ ((∀ j, j < n → ¬ P j) ∧ loop step (s i) = some b) := by
    intro k
    induction k with
    | zero =>
      intro i hk hi hj
      have : i = n := by omega
      subst this
      exact .inr ⟨hj, by rw [loop_eq, h2 hj]⟩
    | succ k ih =>
      intro i hk hi hj
      have h3 := h1 i (by omega) hj
      by_cases hp : P i
      · rw [sel_pos hp] at h3
        exact .inl ⟨i, by omega, hp, by rw [loop_eq, h3]⟩
      · rw [sel_neg hp] at h3
        rw [loop_eq, h3]
        exact ih (i + 1) (by omega) (by omega) fun j hj' => by
          by_cases e : j = i
          · subst e; exact hp
          · exact hj j (by omega)
  exact key _ 0 rfl (Nat.zero_le _) fun j h => by omega
/-- Strictly ascending, one after the other. -/
theorem mem_ea {xs : List Ang} {x : Ang} (h : x ∈ xs) : ∃ i, i < xs.length ∧ ea xs i = x := by
  obtain ⟨i, hi, rfl⟩ := List.getElem_of_mem h
  exact ⟨i, hi, getD_at hi⟩


/-- An angle out of natural numbers, in lowest terms. -/
def angN (n d : Nat) : Ang := (((n % d / Nat.gcd (n % d) d : Nat) : Int), ((d / Nat.gcd (n % d) d : Nat) : Int), ())
theorem isA_nat {a : Ang} (h : isA a) : ∃ n d : Nat, a = ((n : Int), (d : Int), ()) ∧ 1 ≤ d ∧ d ≤ 8191 ∧ n < d ∧ Nat.gcd n d = 1 := by
  obtain ⟨x, y, ⟨⟩⟩ := a
  obtain ⟨h1, h2, h3, h4, h5⟩ := h
  simp only at h1 h2 h3 h4 h5
  obtain ⟨n, rfl⟩ := Int.eq_ofNat_of_zero_le h3
  obtain ⟨d, rfl⟩ := Int.eq_ofNat_of_zero_le (show 0 ≤ y by omega)
  exact ⟨n, d, rfl, by omega, by omega, by omega, h5⟩
theorem isA_of {n d : Nat} (h1 : 1 ≤ d) (h2 : d ≤ 8191) (h3 : n < d) (h4 : Nat.gcd n d = 1) : isA ((n : Int), (d : Int), ()) := by
  refine ⟨?_, ?_, ?_, ?_, h4⟩ <;> simp only <;> omega
theorem w64_nat {n : Nat} (h : n < 9223372036854775808) : w64 (n : Int) = (n : Int) := w64_id (by omega) (by omega)
theorem e0_false {n : Nat} (h : 0 < n) : (((n : Nat) : Int) == 0) = false := by simp; omega
theorem tmod_nat (n d : Nat) : ((n : Int)).tmod (d : Int) = ((n % d : Nat) : Int) := by
  rw [Int.tmod_eq_emod_of_nonneg (by omega)]; rfl
theorem tdiv_nat (n d : Nat) : ((n : Int)).tdiv (d : Int) = ((n / d : Nat) : Int) := by
  rw [Int.tdiv_eq_ediv_of_nonneg (by omega)]; rfl
theorem add_mod_nat {n d : Nat} : ((n % d : Nat) : Int) + (d : Int) = ((n % d + d : Nat) : Int) := by omega
theorem impl_angN {n d : Nat} (hd : 0 < d) (hd2 : d ≤ 67092481) (hn : n ≤ 67092481) : impl_angle (n : Int) (d : Int) = some (angN n d) := by
  have m := Nat.mod_lt n hd
  unfold impl_angle
  simp only [e0_false hd, Bool.not_false, cond_true]
  rw [tmod_nat, add_mod_nat, w64_nat (by omega), tmod_nat, Nat.add_mod_right, Nat.mod_mod, impl_div (by omega) (by omega)]
  simp only [Option.bind_some]
  have hg : Int.gcd (d : Int) ((n % d : Nat) : Int) = Nat.gcd (n % d) d := Nat.gcd_comm _ _
  rw [hg]
  have g0 : 0 < Nat.gcd (n % d) d := Nat.gcd_pos_of_pos_right _ hd
  simp only [e0_false g0, Bool.not_false, cond_true]
  have q1 : n % d / Nat.gcd (n % d) d ≤ n % d := Nat.div_le_self _ _
  have q2 : d / Nat.gcd (n % d) d ≤ d := Nat.div_le_self _ _
  rw [tdiv_nat, tdiv_nat, w64_nat (Nat.lt_of_le_of_lt q1 (by omega)), w64_nat (Nat.lt_of_le_of_lt q2 (by omega))]
  rfl
theorem spec_angN {n d : Nat} (hd : 0 < d) (hd2 : d ≤ 67092481) (hn : n ≤ 67092481) : spec_l01Of (n : Int) (d : Int) = some (angN n d) := by
  have m := Nat.mod_lt n hd
  unfold spec_l01Of
  simp only [e0_false hd, Bool.not_false, cond_true]
  rw [tmod_nat, add_mod_nat, w64_nat (by omega), tmod_nat, Nat.add_mod_right, Nat.mod_mod, spec_div (by omega) (by omega)]
  simp only [Option.bind_some]
  have hg : Int.gcd ((n % d : Nat) : Int) (d : Int) = Nat.gcd (n % d) d := rfl
  rw [hg]
  have g0 : 0 < Nat.gcd (n % d) d := Nat.gcd_pos_of_pos_right _ hd
  simp only [e0_false g0, Bool.not_false, cond_true]
  have q1 : n % d / Nat.gcd (n % d) d ≤ n % d := Nat.div_le_self _ _
  have q2 : d / Nat.gcd (n % d) d ≤ d := Nat.div_le_self _ _
  rw [tdiv_nat, tdiv_nat, w64_nat (Nat.lt_of_le_of_lt q1 (by omega)), w64_nat (Nat.lt_of_le_of_lt q2 (by omega))]
  rfl
def dbl (a : Ang) : Ang := angN (2 * a.1.toNat) a.2.1.toNat
theorem dbl_nat {n d : Nat} : dbl ((n : Int), (d : Int), ()) = angN (2 * n) d := rfl
theorem impl_dbl {a : Ang} (h : isA a) : impl_Angle_double a = some (dbl a) := by
  obtain ⟨n, d, rfl, h1, h2, h3, h4⟩ := isA_nat h
  unfold impl_Angle_double
  rw [w64_id (n := 2 * (n : Int)) (by omega) (by omega), show 2 * (n : Int) = ((2 * n : Nat) : Int) by omega]
  show (impl_angle _ (d : Int)).bind _ = _
  rw [impl_angN (by omega) (by omega) (by omega)]
  rfl
theorem spec_dbl {a : Ang} (h : isA a) : spec_l01Double a = some (dbl a) := by
  obtain ⟨n, d, rfl, h1, h2, h3, h4⟩ := isA_nat h
  unfold spec_l01Double
  rw [w64_id (n := 2 * (n : Int)) (by omega) (by omega), show 2 * (n : Int) = ((2 * n : Nat) : Int) by omega]
  show (spec_l01Of _ (d : Int)).bind _ = _
  rw [spec_angN (by omega) (by omega) (by omega)]
  rfl
theorem dbl_odd {n d : Nat} (h1 : 1 ≤ d) (h4 : Nat.gcd n d = 1) (ho : d % 2 = 1) : dbl ((n : Int), (d : Int), ()) = (((2 * n % d : Nat) : Int), (d : Int), ()) ∧ Nat.gcd (2 * n % d) d = 1 := by
  have g : Nat.gcd (2 * n % d) d = 1 := by
    rw [← Nat.gcd_rec, Nat.gcd_comm]
    have c2 : Nat.Coprime 2 d := by
      have : Nat.gcd 2 d = 1 := by rw [Nat.gcd_rec, ho]; rfl
      exact this
    exact Nat.Coprime.mul_left c2 h4
  rw [dbl_nat, angN, g, Nat.div_one, Nat.div_one]
  exact ⟨rfl, rfl⟩
theorem dbl_even {n e : Nat} (h1 : 1 ≤ e) (h4 : Nat.gcd n (2 * e) = 1) : dbl ((n : Int), ((2 * e : Nat) : Int), ()) = (((n % e : Nat) : Int), (e : Int), ()) ∧ Nat.gcd (n % e) e = 1 := by
  have g : Nat.gcd (n % e) e = 1 := by
    rw [← Nat.gcd_rec, Nat.gcd_comm]
    exact Nat.Coprime.coprime_dvd_right (Nat.dvd_mul_left e 2) h4
  have m : 2 * n % (2 * e) = 2 * (n % e) := Nat.mul_mod_mul_left 2 n e
  rw [dbl_nat, angN, m, Nat.gcd_mul_left, g, Nat.mul_one, Nat.mul_div_cancel_left _ (by omega), Nat.mul_div_cancel_left _ (by omega)]
  exact ⟨rfl, rfl⟩
theorem dbl_isA {a : Ang} (h : isA a) : isA (dbl a) := by
  obtain ⟨n, d, rfl, h1, h2, h3, h4⟩ := isA_nat h
  rcases Nat.mod_two_eq_zero_or_one d with he | ho
  · obtain ⟨e, rfl⟩ : ∃ e, d = 2 * e := ⟨d / 2, by omega⟩
    obtain ⟨e1, e2⟩ := dbl_even (n := n) (e := e) (by omega) h4
    rw [e1]
    exact isA_of (by omega) (by omega) (Nat.mod_lt _ (by omega)) e2
  · obtain ⟨e1, e2⟩ := dbl_odd h1 h4 ho
    rw [e1]
    exact isA_of h1 h2 (Nat.mod_lt _ (by omega)) e2
/-- Times doubled. -/
def dblN (a : Ang) : Nat → Ang
  | 0 => a
  | n + 1 => dbl (dblN a n)
theorem dblN_isA {a : Ang} (h : isA a) : ∀ n, isA (dblN a n)
  | 0 => h
  | n + 1 => dbl_isA (dblN_isA h n)
/-- How often 2 divides. -/
def v2 : Nat → Nat → Nat
  | 0, _ => 0
  | f + 1, d => if d % 2 = 0 then v2 f (d / 2) + 1 else 0
def pre (a : Ang) : Nat := v2 13 a.2.1.toNat
theorem v2_odd {f d : Nat} (h : d % 2 = 1) : v2 f d = 0 := by
  cases f with
  | zero => rfl
  | succ f => rw [v2, if_neg (by omega)]
theorem v2_s (f d : Nat) : v2 (f + 1) d = if d % 2 = 0 then v2 f (d / 2) + 1 else 0 := rfl
theorem v2_fuel : ∀ {f d : Nat}, 1 ≤ d → d < 2 ^ f → v2 (f + 1) d = v2 f d
  | 0, d, h1, h2 => by omega
  | f + 1, d, h1, h2 => by
    rw [v2_s (f + 1) d, v2_s f d]
    by_cases h : d % 2 = 0
    · rw [if_pos h, if_pos h, v2_fuel (f := f) (by omega) (by rw [Nat.pow_succ] at h2; omega)]
    · rw [if_neg h, if_neg h]
theorem v2_half {f e : Nat} (h1 : 1 ≤ e) (h2 : e < 2 ^ f) : v2 (f + 1) (2 * e) = v2 (f + 1) e + 1 := by
  rw [v2_fuel h1 h2]
  conv => lhs; rw [v2]
  rw [if_pos (by omega), Nat.mul_div_cancel_left _ (by omega)]
/-- Doubling takes one 2 out of the denominator, if there is one. -/
theorem pre_dbl {a : Ang} (h : isA a) : pre (dbl a) = pre a - 1 := by
  obtain ⟨n, d, rfl, h1, h2, h3, h4⟩ := isA_nat h
  rcases Nat.mod_two_eq_zero_or_one d with he | ho
  · obtain ⟨e, rfl⟩ : ∃ e, d = 2 * e := ⟨d / 2, by omega⟩
    obtain ⟨e1, e2⟩ := dbl_even (n := n) (e := e) (by omega) h4
    rw [e1]
    show v2 13 e = v2 13 (2 * e) - 1
    rw [v2_half (f := 12) (by omega) (by omega)]
    rfl
  · obtain ⟨e1, e2⟩ := dbl_odd h1 h4 ho
    rw [e1]
    show v2 13 d = v2 13 d - 1
    rw [v2_odd ho]
theorem pre_dblN {a : Ang} (h : isA a) : ∀ n, pre (dblN a n) = pre a - n
  | 0 => rfl
  | n + 1 => by
    show pre (dbl (dblN a n)) = _
    rw [pre_dbl (dblN_isA h n), pre_dblN h n]; omega
theorem pre_zero {a : Ang} (h : isA a) (h0 : pre a = 0) : a.2.1.toNat % 2 = 1 := by
  obtain ⟨n, d, rfl, h1, h2, h3, h4⟩ := isA_nat h
  show d % 2 = 1
  have h0' : v2 13 d = 0 := h0
  rw [v2] at h0'
  by_cases he : d % 2 = 0
  · rw [if_pos he] at h0'; omega
  · omega
/-- Doubling parts what has odd denominators. -/
theorem dbl_inj {a b : Ang} (ha : isA a) (hb : isA b) (pa : pre a = 0) (pb : pre b = 0) (h : dbl a = dbl b) : a = b := by
  have oa := pre_zero ha pa
  have ob := pre_zero hb pb
  obtain ⟨n, d, rfl, h1, h2, h3, h4⟩ := isA_nat ha
  obtain ⟨m, e, rfl, k1, k2, k3, k4⟩ := isA_nat hb
  have oa' : d % 2 = 1 := oa
  have ob' : e % 2 = 1 := ob
  rw [(dbl_odd h1 h4 oa').1, (dbl_odd k1 k4 ob').1] at h
  simp only [Prod.mk.injEq, and_true] at h
  obtain ⟨e1, e2⟩ := h
  have hde : d = e := by omega
  subst hde
  have e3 : 2 * n % d = 2 * m % d := by omega
  have hnm : n = m := by
    have s1 : 2 * n % d = if 2 * n < d then 2 * n else 2 * n - d := by
      split
      · exact Nat.mod_eq_of_lt (by omega)
      · rw [Nat.mod_eq_sub_mod (by omega), Nat.mod_eq_of_lt (by omega)]
    have s2 : 2 * m % d = if 2 * m < d then 2 * m else 2 * m - d := by
      split
      · exact Nat.mod_eq_of_lt (by omega)
      · rw [Nat.mod_eq_sub_mod (by omega), Nat.mod_eq_of_lt (by omega)]
    rw [s1, s2] at e3
    split at e3 <;> split at e3 <;> omega
  rw [hnm]


/-- The first place. -/
noncomputable def fi (a : Ang) : List Ang → Nat
  | [] => 0
  | x :: r => if x = a then 0 else fi a r + 1
theorem fi_spec {a : Ang} : ∀ {xs : List Ang}, a ∈ xs → fi a xs < xs.length ∧ ea xs (fi a xs) = a ∧ ∀ j, j < fi a xs → ea xs j ≠ a
  | [], h => by cases h
  | x :: r, h => by
    by_cases e : x = a
    · rw [fi, if_pos e]
      exact ⟨by simp, by simpa [ea] using e, fun j h => by omega⟩
    · rw [fi, if_neg e]
      have hr : a ∈ r := by
        rcases List.mem_cons.1 h with h | h
        · exact absurd h.symm e
        · exact h
      obtain ⟨h1, h2, h3⟩ := fi_spec hr
      refine ⟨by simp; omega, by simpa [ea] using h2, fun j hj => ?_⟩
      cases j with
      | zero => simpa [ea] using e
      | succ j =>
        have := h3 j (by omega)
        simpa [ea] using this
theorem fi_eq {a : Ang} {xs : List Ang} {k : Nat} (hk : k < xs.length) (h : ea xs k = a) (hj : ∀ j, j < k → ea xs j ≠ a) : fi a xs = k := by
  have hm : a ∈ xs := by rw [← h]; exact ea_mem hk
  obtain ⟨h1, h2, h3⟩ := fi_spec hm
  rcases Nat.lt_trichotomy (fi a xs) k with h4 | h4 | h4
  · exact absurd h2 (hj _ h4)
  · exact h4
  · exact absurd h (h3 _ h4)
/-- What looks for a place gives. -/
noncomputable def plc (xs : List Ang) (a : Ang) : Int := if a ∈ xs then (fi a xs : Int) else -1
theorem plc_nonneg {xs : List Ang} {a : Ang} : 0 ≤ plc xs a ↔ a ∈ xs := by
  unfold plc
  by_cases h : a ∈ xs
  · rw [if_pos h]; exact ⟨fun _ => h, fun _ => by omega⟩
  · rw [if_neg h]; exact ⟨fun h' => by omega, fun h' => absurd h' h⟩
theorem plc_of {xs : List Ang} {a : Ang} (h : a ∈ xs) : plc xs a = (fi a xs : Int) := if_pos h
theorem impl_index {xs : List Ang} {a : Ang} (hl : xs.length < 4611686018427387904) : slices_Index__impl_Angle_impl_Angle xs a = some (plc xs a) := by
  unfold slices_Index__impl_Angle_impl_Angle
  obtain ⟨b, h1, h2⟩ := loop_inv (step := slices_Index__impl_Angle_impl_Angle_l0) (fun s => ∃ k : Nat, k ≤ xs.length ∧ s = (xs, a, ((xs.length : Nat) : Int), (k : Int), ()) ∧ ∀ j, j < k → ea xs j ≠ a) (fun s => xs.length - s.2.2.2.1.toNat)
    (fun b => (b = .inl (plc xs a, ()) ∧ a ∈ xs) ∨ (b = .inr () ∧ ¬ a ∈ xs)) (by
    rintro _ ⟨k, hk, rfl, hj⟩
    by_cases h : k < xs.length
    · simp only [slices_Index__impl_Angle_impl_Angle_l0, ltb h, nn, Bool.and_self, cond_true, Int.toNat_natCast]
      rw [beqA]
      by_cases he : a = ea xs k
      · left
        have hm : a ∈ xs := by rw [he]; exact ea_mem h
        refine ⟨.inl (plc xs a, ()), ?_, .inl ⟨rfl, hm⟩⟩
        rw [show decide (a = xs.getD k dA) = true from decide_eq_true he, cond_true, plc_of hm, fi_eq h he.symm hj]
      · right
        rw [show decide (a = xs.getD k dA) = false from decide_eq_false he, cond_false, w64_succ (by omega)]
        refine ⟨_, rfl, ⟨k + 1, by omega, rfl, fun j hj' => ?_⟩, by simp; omega⟩
        by_cases e : j = k
        · subst e; exact fun h => he h.symm
        · exact hj j (by omega)
    · left
      have : k = xs.length := by omega
      subst this
      refine ⟨.inr (), by simp only [slices_Index__impl_Angle_impl_Angle_l0, nltb h, cond_false], .inr ⟨rfl, fun hm => ?_⟩⟩
      obtain ⟨i, hi, he⟩ := mem_ea hm
      exact hj i hi he) (xs, a, ((xs.length : Nat) : Int), (0 : Int), ()) ⟨0, by omega, rfl, fun j h => by omega⟩
  rw [h1]
  rcases h2 with ⟨rfl, _⟩ | ⟨rfl, h3⟩
  · rfl
  · simp only [Option.bind_some, alt, plc, if_neg h3]
def orbL (a : Ang) (n : Nat) : List Ang := tab (dblN a) n
theorem orbL_len {a : Ang} {n : Nat} : (orbL a n).length = n := tab_len
theorem orbL_at {a : Ang} {n j : Nat} (h : j < n) : ea (orbL a n) j = dblN a j := tab_at h
theorem orbL_succ {a : Ang} {n : Nat} : orbL a (n + 1) = orbL a n ++ [dblN a n] := by simp [orbL, tab, List.range_succ]
theorem orbL_mem {a x : Ang} {n : Nat} : x ∈ orbL a n ↔ ∃ j, j < n ∧ dblN a j = x := by
  simp [orbL, tab]
/-- No repeat among the first. -/
def Dis (a : Ang) (n : Nat) : Prop := ∀ i j, i < j → j < n → dblN a i ≠ dblN a j
theorem back_at {a : Ang} (h : isA a) {n j : Nat} (hd : Dis a n) (hj : j < n) (he : dblN a j = dblN a n) : j = pre a := by
  have p1 := pre_dblN h j
  have p2 := pre_dblN h n
  rw [he, p2] at p1
  rcases Nat.lt_trichotomy j (pre a) with h1 | h1 | h1
  · omega
  · exact h1
  · exfalso
    obtain ⟨j', rfl⟩ : ∃ j', j = j' + 1 := ⟨j - 1, by omega⟩
    obtain ⟨n', rfl⟩ : ∃ n', n = n' + 1 := ⟨n - 1, by omega⟩
    have q1 := pre_dblN h j'
    have q2 := pre_dblN h n'
    exact hd j' n' (by omega) (by omega) (dbl_inj (dblN_isA h j') (dblN_isA h n') (by omega) (by omega) he)
/-- What an orbit's reckoning gives: as far as it goes, and how it ends. -/
theorem orbit_loops {a : Ang} (h : isA a) : ∀ k n, 64 - n = k → n ≤ 64 → Dis a n →
    (∃ m, m ≤ 64 ∧ pre a < m ∧ Dis a m ∧ dblN a m = dblN a (pre a) ∧ loop impl_Angle_orbit_l0 (dblN a n, orbL a n, ()) = some (.inl ((pre a : Int), true, orbL a m, ())) ∧ loop spec_l01Orbit_l1 ((pre a : Int), orbL a n, dblN a n, ()) = some (.inl ((pre a : Int), true, orbL a m, ()))) ∨
    (∃ l, Dis a 64 ∧ loop impl_Angle_orbit_l0 (dblN a n, orbL a n, ()) = some (.inr ([], 0, false, l, ())) ∧ loop spec_l01Orbit_l1 ((pre a : Int), orbL a n, dblN a n, ()) = some (.inr ([], 0, false, l, ()))) := by
  intro k
  induction k with
  | zero =>
    intro n hk hn hd
    have h64 : n = 64 := by omega
    by_cases hm : dblN a n ∈ orbL a n
    · left
      obtain ⟨j, hj, he⟩ := orbL_mem.1 hm
      have hp := back_at h hd hj he
      subst hp
      refine ⟨n, hn, hj, hd, he.symm, ?_, ?_⟩
      · rw [loop_eq]
        simp only [impl_Angle_orbit_l0]
        rw [impl_index (by rw [orbL_len]; omega), plc_of hm, fi_eq (k := pre a) (by rw [orbL_len]; exact hj) (by rw [orbL_at hj]; exact he) (fun i hi => by rw [orbL_at (by omega), ← he]; exact hd i _ hi hj)]
        simp
      · rw [loop_eq]
        simp only [spec_l01Orbit_l1, orbL_len]
        have c1 : decide ((n : Int) > (pre a : Int)) = true := decide_eq_true (by omega)
        simp only [c1, cond_true, ltb hj, nn, Bool.and_self, Int.toNat_natCast]
        rw [beqA, show decide (dblN a n = (orbL a n).getD (pre a) dA) = true from decide_eq_true (by rw [show (orbL a n).getD (pre a) dA = dblN a (pre a) from orbL_at hj]; exact he.symm), cond_true]
    · right
      refine ⟨orbL a n, h64 ▸ hd, ?_, ?_⟩
      · rw [loop_eq]
        simp only [impl_Angle_orbit_l0]
        rw [impl_index (by rw [orbL_len]; omega)]
        have c1 : decide (plc (orbL a n) (dblN a n) ≥ 0) = false := decide_eq_false (fun h => hm (plc_nonneg.1 h))
        have c0 : (((n : Nat) : Int) == 64) = true := by rw [h64]; rfl
        simp only [Option.bind_some, c1, cond_false, orbL_len, c0, cond_true]
      · rw [loop_eq]
        simp only [spec_l01Orbit_l1, orbL_len]
        have c0 : (((n : Nat) : Int) == 64) = true := by rw [h64]; rfl
        by_cases hp : pre a < n
        · have c1 : decide ((n : Int) > (pre a : Int)) = true := decide_eq_true (by omega)
          simp only [c1, cond_true, ltb hp, nn, Bool.and_self, Int.toNat_natCast]
          rw [beqA, show decide (dblN a n = (orbL a n).getD (pre a) dA) = false from decide_eq_false (fun e => hm (orbL_mem.2 ⟨pre a, hp, by rw [show (orbL a n).getD (pre a) dA = dblN a (pre a) from orbL_at hp] at e; exact e.symm⟩)), cond_false, c0, cond_true]
        · have c1 : decide ((n : Int) > (pre a : Int)) = false := decide_eq_false (by omega)
          simp only [c1, cond_false, c0, cond_true]
  | succ k ih =>
    intro n hk hn hd
    by_cases hm : dblN a n ∈ orbL a n
    · left
      obtain ⟨j, hj, he⟩ := orbL_mem.1 hm
      have hp := back_at h hd hj he
      subst hp
      refine ⟨n, hn, hj, hd, he.symm, ?_, ?_⟩
      · rw [loop_eq]
        simp only [impl_Angle_orbit_l0]
        rw [impl_index (by rw [orbL_len]; omega), plc_of hm, fi_eq (k := pre a) (by rw [orbL_len]; exact hj) (by rw [orbL_at hj]; exact he) (fun i hi => by rw [orbL_at (by omega), ← he]; exact hd i _ hi hj)]
        simp
      · rw [loop_eq]
        simp only [spec_l01Orbit_l1, orbL_len]
        have c1 : decide ((n : Int) > (pre a : Int)) = true := decide_eq_true (by omega)
        simp only [c1, cond_true, ltb hj, nn, Bool.and_self, Int.toNat_natCast]
        rw [beqA, show decide (dblN a n = (orbL a n).getD (pre a) dA) = true from decide_eq_true (by rw [show (orbL a n).getD (pre a) dA = dblN a (pre a) from orbL_at hj]; exact he.symm), cond_true]
    · have hd' : Dis a (n + 1) := by
        intro i j hij hj e
        by_cases hjn : j = n
        · subst hjn; exact hm (orbL_mem.2 ⟨i, hij, e⟩)
        · exact hd i j hij (by omega) e
      have s1 : loop impl_Angle_orbit_l0 (dblN a n, orbL a n, ()) = loop impl_Angle_orbit_l0 (dblN a (n + 1), orbL a (n + 1), ()) := by
        conv => lhs; rw [loop_eq]
        simp only [impl_Angle_orbit_l0]
        rw [impl_index (by rw [orbL_len]; omega)]
        have c1 : decide (plc (orbL a n) (dblN a n) ≥ 0) = false := decide_eq_false (fun h => hm (plc_nonneg.1 h))
        have c0 : (((n : Nat) : Int) == 64) = false := by simp; omega
        have c2 : decide ((n + [dblN a n].length) * 16 ≤ 140737488355328) = true := decide_eq_true (by simp only [List.length_singleton]; omega)
        simp only [Option.bind_some, c1, cond_false, orbL_len, c0, c2, cond_true]
        rw [impl_dbl (dblN_isA h n), orbL_succ]
        rfl
      have s2 : loop spec_l01Orbit_l1 ((pre a : Int), orbL a n, dblN a n, ()) = loop spec_l01Orbit_l1 ((pre a : Int), orbL a (n + 1), dblN a (n + 1), ()) := by
        conv => lhs; rw [loop_eq]
        simp only [spec_l01Orbit_l1, orbL_len]
        have c0 : (((n : Nat) : Int) == 64) = false := by simp; omega
        have c2 : decide ((n + [dblN a n].length) * 16 ≤ 140737488355328) = true := decide_eq_true (by simp only [List.length_singleton]; omega)
        by_cases hp : pre a < n
        · have c1 : decide ((n : Int) > (pre a : Int)) = true := decide_eq_true (by omega)
          simp only [c1, cond_true, ltb hp, nn, Bool.and_self, Int.toNat_natCast]
          rw [beqA, show decide (dblN a n = (orbL a n).getD (pre a) dA) = false from decide_eq_false (fun e => hm (orbL_mem.2 ⟨pre a, hp, by rw [show (orbL a n).getD (pre a) dA = dblN a (pre a) from orbL_at hp] at e; exact e.symm⟩))]
          simp only [cond_false, c0, c2, cond_true]
          rw [spec_dbl (dblN_isA h n), orbL_succ]
          rfl
        · have c1 : decide ((n : Int) > (pre a : Int)) = false := decide_eq_false (by omega)
          simp only [c1, cond_false, c0, c2, cond_true]
          rw [spec_dbl (dblN_isA h n), orbL_succ]
          rfl
      rw [s1, s2]
      exact ih (n + 1) (by omega) (by omega) hd'
theorem spec_pre {a : Ang} (h : isA a) : loop spec_l01Orbit_l0 (a, (0 : Int), a.2.1, ()) = some (a, (pre a : Int), ()) := by
  obtain ⟨b, h1, h2⟩ := loop_inv (step := spec_l01Orbit_l0) (fun s => ∃ k e : Nat, s = (a, (k : Int), (e : Int), ()) ∧ 1 ≤ e ∧ e ≤ 8191 ∧ k + v2 13 e = pre a ∧ k ≤ 100) (fun s => s.2.2.1.toNat)
    (fun b => b = (a, (pre a : Int), ())) (by
    rintro _ ⟨k, e, rfl, h3, h4, h5, h6⟩
    simp only [spec_l01Orbit_l0]
    have c2 : (((2 : Int) == 0)) = false := rfl
    simp only [c2, Bool.not_false, cond_true]
    have ht : ((e : Int)).tmod 2 = ((e % 2 : Nat) : Int) := tmod_nat e 2
    have hq : ((e : Int)).tdiv 2 = ((e / 2 : Nat) : Int) := tdiv_nat e 2
    rw [ht, hq]
    rcases Nat.mod_two_eq_zero_or_one e with he | ho
    · right
      rw [he]
      obtain ⟨e', rfl⟩ : ∃ e', e = 2 * e' := ⟨e / 2, by omega⟩
      have h7 := v2_half (f := 12) (e := e') (by omega) (by omega)
      have h7' : v2 13 (2 * e') = v2 13 e' + 1 := h7
      have h8 : pre a ≤ 13 := by
        have : ∀ f d, v2 f d ≤ f := by
          intro f
          induction f with
          | zero => intro d; exact Nat.le_refl _
          | succ f ih => intro d; rw [v2_s]; split
                         · have := ih (d / 2); omega
                         · omega
        exact this 13 _
      refine ⟨(a, ((k + 1 : Nat) : Int), (e' : Int), ()), ?_, ⟨k + 1, e', rfl, by omega, by omega, by omega, by omega⟩, by simp; omega⟩
      rw [w64_succ (by omega), w64_nat (by omega), Nat.mul_div_cancel_left _ (by omega)]
      rfl
    · left
      rw [ho]
      refine ⟨_, rfl, ?_⟩
      rw [v2_odd ho] at h5
      rw [← h5]; rfl) (a, (0 : Int), a.2.1, ()) (by
      obtain ⟨n, d, rfl, h3, h4, _⟩ := isA_nat h
      exact ⟨0, d, rfl, h3, h4, by simp [pre], by omega⟩)
  rw [h1, h2]
/-- Orbits are the same. -/
theorem orbit_same {a : Ang} (h : isA a) : ∃ r : List Ang × Int × Bool, impl_Angle_orbit a = some r ∧ spec_l01Orbit a = some r ∧ r.1.length ≤ 64 ∧ (r.2.2 = true → r.2.1 = (pre a : Int) ∧ pre a < r.1.length ∧ r.1 = orbL a r.1.length) ∧ (r.2.2 = false → r.1 = [] ∧ r.2.1 = 0) := by
  unfold impl_Angle_orbit spec_l01Orbit
  rw [spec_pre h]
  simp only [Option.bind_some]
  rcases orbit_loops h 64 0 rfl (by omega) (fun i j h1 h2 => by omega) with ⟨m, m1, m2, _, _, m3, m4⟩ | ⟨l, _, m3, m4⟩
  · refine ⟨(orbL a m, (pre a : Int), true), ?_, ?_, by rw [orbL_len]; exact m1, fun _ => ⟨rfl, by rw [orbL_len]; exact m2, by rw [orbL_len]⟩, fun h => by cases h⟩
    · have : loop impl_Angle_orbit_l0 (a, ([] : List Ang), ()) = _ := m3
      rw [this]; rfl
    · have : loop spec_l01Orbit_l1 ((pre a : Int), ([] : List Ang), a, ()) = _ := m4
      rw [this]; rfl
  · refine ⟨([], 0, false), ?_, ?_, by simp, fun h => (by cases h), fun _ => ⟨rfl, rfl⟩⟩
    · have : loop impl_Angle_orbit_l0 (a, ([] : List Ang), ()) = _ := m3
      rw [this]; rfl
    · have : loop spec_l01Orbit_l1 ((pre a : Int), ([] : List Ang), a, ()) = _ := m4
      rw [this]; rfl
end Go.K.Pure

/- Plain laws of ray pairs, part C: the pairs up to period 8, on whole numbers. -/
set_option linter.all false
namespace Go.K.Pure
/-- The angles of the periods up to 8 have this denominator in common. -/
def LL : Nat := 21082635
def crossN (a b c d : Nat) : Bool := (Nat.blt a c && Nat.blt c b && Nat.blt b d) || (Nat.blt c a && Nat.blt a d && Nat.blt d b)
def freeN (a : Nat) (ps : List (Nat × Nat)) (b : Nat) : Bool := ps.all fun p => !crossN a b p.1 p.2
def takeF (f : Nat → Bool) : List Nat → Option (Nat × List Nat)
  | [] => none
  | x :: xs => match f x with
    | true => some (x, xs)
    | false => (match takeF f xs with | some (b, r) => some (b, x :: r) | none => none)
def joinN : Nat → List (Nat × Nat) → List Nat → Option (List (Nat × Nat))
  | 0, _, _ => none
  | _ + 1, ps, [] => some ps
  | k + 1, ps, a :: rest => match takeF (freeN a ps) rest with
    | some (b, r) => joinN k (ps ++ [(a, b)]) r
    | none => none
/-- The least number of doublings up to `f` more than `k` that leads back, or 0. -/
def perF (d x : Nat) : Nat → Nat → Nat → Nat
  | 0, _, _ => 0
  | f + 1, k, y => match Nat.beq (2 * y % d) x with
    | true => k + 1
    | false => perF d x f (k + 1) (2 * y % d)
def perJ (n j : Nat) : Nat := perF (2 ^ n - 1) j 8 0 j
def idx (n : Nat) : List Nat := (List.range (2 ^ n - 1)).filter fun j => Nat.beq (perJ n j) n
def AN (n : Nat) : List Nat := (idx n).map fun j => j * (LL / (2 ^ n - 1))
def upToN : Nat → Option (List (Nat × Nat))
  | 0 => some []
  | 1 => some []
  | n + 2 => match upToN (n + 1) with
    | some ps => joinN 300 ps (AN (n + 2))
    | none => none
set_option maxRecDepth 1000000 in
theorem upTo_some : (upToN 8).isSome = true := by decide +kernel
end Go.K.Pure

/- Plain laws of ray pairs, part D: fractions as angles; periods. -/
set_option linter.all false
namespace Go.K.Pure
open Classical
theorem angN_isA {n d : Nat} (h1 : 1 ≤ d) (h2 : d ≤ 8191) : isA (angN n d) := by
  have g0 : 0 < Nat.gcd (n % d) d := Nat.gcd_pos_of_pos_right _ h1
  have hm := Nat.mod_lt n (show 0 < d by omega)
  have hd : Nat.gcd (n % d) d ∣ d := Nat.gcd_dvd_right _ _
  have hn : Nat.gcd (n % d) d ∣ n % d := Nat.gcd_dvd_left _ _
  unfold angN
  refine isA_of ?_ ?_ ?_ ?_
  · exact Nat.div_pos (Nat.le_of_dvd h1 hd) g0
  · exact Nat.le_trans (Nat.div_le_self _ _) h2
  · exact Nat.div_lt_div_of_lt_of_dvd hd hm
  · exact Nat.coprime_div_gcd_div_gcd g0
theorem angN_scale {c n d : Nat} (hc : 0 < c) (hd : 0 < d) : angN (c * n) (c * d) = angN n d := by
  unfold angN
  rw [Nat.mul_mod_mul_left, Nat.gcd_mul_left, Nat.mul_div_mul_left _ _ hc, Nat.mul_div_mul_left _ _ hc]
theorem angN_mod {n d : Nat} : angN (n % d) d = angN n d := by
  unfold angN; rw [Nat.mod_mod]
theorem dbl_angN {n d : Nat} (hd : 0 < d) : dbl (angN n d) = angN (2 * n) d := by
  rw [← angN_mod (n := n)]
  have hm := Nat.mod_lt n hd
  have e2 : angN (2 * n) d = angN (2 * (n % d)) d := by
    rw [← angN_mod (n := 2 * n), ← angN_mod (n := 2 * (n % d)), Nat.mul_mod_mod]
  rw [e2]
  generalize n % d = m at hm
  have g0 : 0 < Nat.gcd m d := Nat.gcd_pos_of_pos_right _ hd
  obtain ⟨m', hm'⟩ := Nat.gcd_dvd_left m d
  obtain ⟨d', hd'⟩ := Nat.gcd_dvd_right m d
  have e : angN m d = ((m' : Int), (d' : Int), ()) := by
    unfold angN
    rw [Nat.mod_eq_of_lt hm]
    have e3 : m / Nat.gcd m d = m' := by
      conv => lhs; lhs; rw [hm']
      exact Nat.mul_div_cancel_left _ g0
    have e4 : d / Nat.gcd m d = d' := by
      conv => lhs; lhs; rw [hd']
      exact Nat.mul_div_cancel_left _ g0
    rw [e3, e4]
  rw [e, dbl_nat]
  have hd0 : 0 < d' := by
    rcases Nat.eq_zero_or_pos d' with h | h
    · rw [h, Nat.mul_zero] at hd'; omega
    · exact h
  have e5 : angN (2 * m) d = angN (Nat.gcd m d * (2 * m')) (Nat.gcd m d * d') := by
    rw [← hd', show Nat.gcd m d * (2 * m') = 2 * (Nat.gcd m d * m') by rw [Nat.mul_left_comm], ← hm']
  rw [e5, angN_scale g0 hd0]
theorem val_angN {n d : Nat} (h1 : 1 ≤ d) (h2 : d ≤ 8191) (h : n < d) : val (angN n d) * (d : Int) = (n : Int) * KK := by
  have hk := KK_div (angN_isA (n := n) h1 h2)
  have g0 : 0 < Nat.gcd n d := Nat.gcd_pos_of_pos_right _ h1
  have e1 : n / Nat.gcd n d * Nat.gcd n d = n := Nat.div_mul_cancel (Nat.gcd_dvd_left n d)
  have e2 : d / Nat.gcd n d * Nat.gcd n d = d := Nat.div_mul_cancel (Nat.gcd_dvd_right n d)
  unfold val
  unfold angN at hk ⊢
  rw [Nat.mod_eq_of_lt h] at hk ⊢
  simp only at hk ⊢
  generalize hx : n / Nat.gcd n d = x at *
  generalize hy : d / Nat.gcd n d = y at *
  generalize KK / (y : Int) = z at *
  generalize Nat.gcd n d = g at *
  rw [← e2, ← e1, ← hk]
  push_cast
  ac_rfl
noncomputable def ob (a : Ang) : List Ang × Int × Bool := (impl_Angle_orbit a).getD ([], 0, false)
section
variable {a : Ang} (h : isA a)
include h
theorem ob_impl : impl_Angle_orbit a = some (ob a) := by
  obtain ⟨r, h1, _⟩ := orbit_same h
  unfold ob
  rw [h1]; rfl
theorem ob_spec : spec_l01Orbit a = some (ob a) := by
  obtain ⟨r, h1, h2, _⟩ := orbit_same h
  unfold ob
  rw [h1, h2]; rfl
theorem ob_len : (ob a).1.length ≤ 64 := by
  obtain ⟨r, h1, h2, h3, _⟩ := orbit_same h
  unfold ob
  rw [h1]; exact h3
theorem ob_ok (hk : (ob a).2.2 = true) : (ob a).2.1 = (pre a : Int) ∧ pre a < (ob a).1.length := by
  obtain ⟨r, h1, h2, h3, h4, h5⟩ := orbit_same h
  unfold ob at hk ⊢
  rw [h1] at hk ⊢
  exact ⟨(h4 hk).1, (h4 hk).2.1⟩
end
theorem ob_ok2 {a : Ang} (h : isA a) (hk : (ob a).2.2 = true) : ∃ m, m ≤ 64 ∧ pre a < m ∧ Dis a m ∧ dblN a m = dblN a (pre a) ∧ ob a = (orbL a m, (pre a : Int), true) := by
  have key : impl_Angle_orbit a = some (ob a) := ob_impl h
  unfold impl_Angle_orbit at key
  rcases orbit_loops h 64 0 rfl (by omega) (fun i j h1 h2 => by omega) with ⟨m, m1, m2, m3, m4, m5, _⟩ | ⟨l, _, m5, _⟩
  · have e : loop impl_Angle_orbit_l0 (a, ([] : List Ang), ()) = _ := m5
    rw [e] at key
    simp only [Option.bind_some, alt] at key
    exact ⟨m, m1, m2, m3, m4, (Option.some.inj key).symm⟩
  · have e : loop impl_Angle_orbit_l0 (a, ([] : List Ang), ()) = _ := m5
    rw [e] at key
    simp only [Option.bind_some, alt] at key
    rw [← Option.some.inj key] at hk
    cases hk
theorem ob_no {a : Ang} (h : isA a) (hk : (ob a).2.2 = false) : Dis a 64 ∧ ob a = ([], 0, false) := by
  have key : impl_Angle_orbit a = some (ob a) := ob_impl h
  unfold impl_Angle_orbit at key
  rcases orbit_loops h 64 0 rfl (by omega) (fun i j h1 h2 => by omega) with ⟨m, m1, m2, m3, m4, m5, _⟩ | ⟨l, hd, m5, _⟩
  · have e : loop impl_Angle_orbit_l0 (a, ([] : List Ang), ()) = _ := m5
    rw [e] at key
    simp only [Option.bind_some, alt] at key
    rw [← Option.some.inj key] at hk
    cases hk
  · have e : loop impl_Angle_orbit_l0 (a, ([] : List Ang), ()) = _ := m5
    rw [e] at key
    simp only [Option.bind_some, alt] at key
    exact ⟨hd, (Option.some.inj key).symm⟩
/-- The least number up to 8 of doublings that lead back, or 0. -/
noncomputable def pg (a : Ang) : Nat := match (List.range 8).find? (fun k => decide (dblN a (k + 1) = a)) with | some k => k + 1 | none => 0
theorem pg_spec (a : Ang) : (pg a = 0 ∧ ∀ k, k < 8 → dblN a (k + 1) ≠ a) ∨ (1 ≤ pg a ∧ pg a ≤ 8 ∧ dblN a (pg a) = a ∧ ∀ k, 0 < k → k < pg a → dblN a k ≠ a) := by
  unfold pg
  cases hf : (List.range 8).find? (fun k => decide (dblN a (k + 1) = a)) with
  | none =>
    refine .inl ⟨rfl, fun k hk he => ?_⟩
    have := List.find?_eq_none.1 hf k (List.mem_range.2 hk)
    simp [he] at this
  | some k =>
    right
    have h1 := List.find?_some hf
    have h2 := List.mem_range.1 (List.mem_of_find?_eq_some hf)
    simp only [decide_eq_true_eq] at h1
    show 1 ≤ k + 1 ∧ k + 1 ≤ 8 ∧ dblN a (k + 1) = a ∧ ∀ j, 0 < j → j < k + 1 → dblN a j ≠ a
    refine ⟨by omega, by omega, h1, fun j hj hjk he => ?_⟩
    rw [List.find?_eq_some_iff_append] at hf
    obtain ⟨_, us, vs, e, hn⟩ := hf
    have hl : us.length = k := by
      have h3 : (List.range 8)[us.length]? = some k := by rw [e]; simp
      have h4 : us.length < 8 := by
        have := congrArg List.length e
        simp at this; omega
      rw [List.getElem?_range h4] at h3
      exact Option.some.inj h3
    have hm : j - 1 ∈ us := by
      have h3 : (List.range 8)[j - 1]? = some (j - 1) := List.getElem?_range (by omega)
      rw [e, List.getElem?_append_left (by omega)] at h3
      exact List.mem_of_getElem? h3
    have := hn (j - 1) hm
    rw [show j - 1 + 1 = j by omega] at this
    simp [he] at this
theorem pg_uniq {a : Ang} {n : Nat} (h1 : 1 ≤ n) (h2 : n ≤ 8) (h3 : dblN a n = a) (h4 : ∀ k, 0 < k → k < n → dblN a k ≠ a) : pg a = n := by
  rcases pg_spec a with ⟨_, h⟩ | ⟨p1, p2, p3, p4⟩
  · exact absurd (by rw [show n - 1 + 1 = n by omega]; exact h3) (h (n - 1) (by omega))
  · rcases Nat.lt_trichotomy (pg a) n with h | h | h
    · exact absurd p3 (h4 _ (by omega) h)
    · exact h
    · exact absurd h3 (p4 n (by omega) h)
theorem impl_period {a : Ang} (h : isA a) : impl_periodOf a = some (pg a : Int) := by
  unfold impl_periodOf
  rcases loop_find (step := impl_periodOf_l0) (fun k => (a, dblN a k, ((k + 1 : Nat) : Int), ())) 8 (.inr ()) (fun k => if dblN a (k + 1) = a then some (.inl (((k + 1 : Nat) : Int), ())) else none) (fun k hk => by
      have hd : impl_Angle_double (dblN a k) = some (dblN a (k + 1)) := impl_dbl (dblN_isA h k)
      have hc : decide (((k + 1 : Nat) : Int) ≤ 8) = true := by simp; omega
      simp only [impl_periodOf_l0, hc, cond_true, hd, Option.bind_some, beqA]
      by_cases he : dblN a (k + 1) = a
      · simp [he]
      · have hw : w64 (((k + 1 : Nat) : Int) + 1) = ((k + 1 + 1 : Nat) : Int) := w64_succ (by omega)
        simp only [he, decide_false, cond_false, if_false, hw]) (by simp [impl_periodOf_l0]) 0 (by omega) with ⟨h1, h2⟩ | ⟨j, c, _, h2, h3, h4, h5⟩
  · have e : loop impl_periodOf_l0 (a, a, (1 : Int), ()) = _ := h1
    rw [e]
    simp only [Option.bind_some, alt]
    rcases pg_spec a with ⟨p, _⟩ | ⟨p1, p2, p3, _⟩
    · rw [p]; rfl
    · have := h2 (pg a - 1) (by omega) (by omega)
      rw [show pg a - 1 + 1 = pg a by omega, if_pos p3] at this
      cases this
  · have e : loop impl_periodOf_l0 (a, a, (1 : Int), ()) = _ := h4
    rw [e]
    simp only [Option.bind_some]
    split at h3
    · rename_i hj
      simp only [Option.some.injEq] at h3
      subst h3
      simp only [alt]
      rw [pg_uniq (by omega) (by omega) hj (fun k hk hkj he => by
        have := h5 (k - 1) (by omega) (by omega)
        rw [show k - 1 + 1 = k by omega, if_pos he] at this
        cases this)]
    · cases h3
/-- The period by the orbit. -/
noncomputable def ps (a : Ang) : Nat := if (ob a).2.2 = true ∧ pre a = 0 then (ob a).1.length else 0
theorem spec_period {a : Ang} (h : isA a) : spec_l04Period a = some (ps a : Int) := by
  unfold spec_l04Period ps
  rw [ob_spec h]
  simp only [Option.bind_some]
  cases hk : (ob a).2.2 with
  | false => simp
  | true =>
    obtain ⟨h1, h2⟩ := ob_ok h hk
    rw [h1]
    by_cases h0 : pre a = 0
    · simp [h0]
    · have : decide ((pre a : Int) > 0) = true := decide_eq_true (by omega)
      rw [this]
      simp [h0]
theorem ps_pg {a : Ang} (h : isA a) : pg a = (if ps a ≤ 8 then ps a else 0) := by
  have hback : ∀ k, 0 < k → dblN a k = a → pre a = 0 := fun k hk he => by
    have := pre_dblN h k
    rw [he] at this; omega
  cases hk : (ob a).2.2 with
  | false =>
    obtain ⟨hd, he⟩ := ob_no h hk
    have : ps a = 0 := by unfold ps; rw [hk]; simp
    rw [this]
    rcases pg_spec a with ⟨p, _⟩ | ⟨p1, p2, p3, _⟩
    · rw [p]; rfl
    · exact absurd p3.symm (hd 0 (pg a) (by omega) (by omega))
  | true =>
    obtain ⟨m, m1, m2, m3, m4, m5⟩ := ob_ok2 h hk
    have hps : ps a = if pre a = 0 then m else 0 := by
      unfold ps
      rw [hk, m5]
      simp [orbL_len]
    by_cases h0 : pre a = 0
    · rw [hps, if_pos h0]
      rw [h0] at m4
      have m4' : dblN a m = a := m4
      have hmin : ∀ k, 0 < k → k < m → dblN a k ≠ a := fun k hk hkm he => m3 0 k hk hkm he.symm
      by_cases h8 : m ≤ 8
      · rw [if_pos h8]; exact pg_uniq (by omega) h8 m4' hmin
      · rw [if_neg h8]
        rcases pg_spec a with ⟨p, _⟩ | ⟨p1, p2, p3, _⟩
        · exact p
        · exact absurd p3 (hmin _ (by omega) (by omega))
    · rw [hps, if_neg h0]
      rcases pg_spec a with ⟨p, _⟩ | ⟨p1, p2, p3, _⟩
      · rw [p]; rfl
      · exact absurd (hback _ (by omega) p3) h0
end Go.K.Pure

/- Plain laws of ray pairs, part E: the angles of a period. -/
set_option linter.all false
namespace Go.K.Pure
open Classical
theorem dblN_angN {n d : Nat} (hd : 0 < d) : ∀ k, dblN (angN n d) k = angN (2 ^ k * n) d
  | 0 => by show angN n d = _; rw [Nat.pow_zero, Nat.one_mul]
  | k + 1 => by
    show dbl (dblN (angN n d) k) = _
    rw [dblN_angN hd k, dbl_angN hd]
    congr 1
    rw [Nat.pow_succ, Nat.mul_comm (2 ^ k) 2, Nat.mul_assoc]
theorem angN_inj {n m d : Nat} (h1 : 1 ≤ d) (h2 : d ≤ 8191) (hn : n < d) (hm : m < d) (h : angN n d = angN m d) : n = m := by
  have e1 := val_angN h1 h2 hn
  have e2 := val_angN h1 h2 hm
  rw [h, e2] at e1
  have := Int.eq_of_mul_eq_mul_right (Int.ne_of_gt KK_pos) e1
  omega
theorem perF_spec {d x : Nat} : ∀ f k y, y = 2 ^ k * x % d → (perF d x f k y = 0 ∧ ∀ i, k < i → i ≤ k + f → 2 ^ i * x % d ≠ x) ∨ (k < perF d x f k y ∧ perF d x f k y ≤ k + f ∧ 2 ^ (perF d x f k y) * x % d = x ∧ ∀ i, k < i → i < perF d x f k y → 2 ^ i * x % d ≠ x)
  | 0, k, y, hy => .inl ⟨rfl, fun i h1 h2 => by omega⟩
  | f + 1, k, y, hy => by
    have h2 : 2 * y % d = 2 ^ (k + 1) * x % d := by
      rw [hy, Nat.mul_mod_mod, Nat.pow_succ, Nat.mul_comm (2 ^ k) 2, Nat.mul_assoc]
    unfold perF
    cases hb : Nat.beq (2 * y % d) x with
    | true =>
      have := Nat.eq_of_beq_eq_true hb
      right
      refine ⟨Nat.lt_succ_self _, by show k + 1 ≤ _; omega, by show 2 ^ (k + 1) * x % d = x; rw [← h2]; exact this, fun i h1 h3 => ?_⟩
      have : i < k + 1 := h3
      omega
    | false =>
      have hne : 2 ^ (k + 1) * x % d ≠ x := fun e => by
        rw [← h2] at e
        rw [e, Nat.beq_refl] at hb; cases hb
      rcases perF_spec f (k + 1) (2 * y % d) h2 with ⟨p1, p2⟩ | ⟨p1, p2, p3, p4⟩
      · refine .inl ⟨p1, fun i h1 h3 => ?_⟩
        by_cases hi : i = k + 1
        · rw [hi]; exact hne
        · exact p2 i (by omega) (by omega)
      · refine .inr ⟨by show k < perF d x f (k + 1) (2 * y % d); omega, by show perF d x f (k + 1) (2 * y % d) ≤ _; omega, p3, fun i h1 h3 => ?_⟩
        by_cases hi : i = k + 1
        · rw [hi]; exact hne
        · exact p4 i (by omega) h3
theorem pg_perJ {n j : Nat} (h1 : 1 ≤ n) (h8 : n ≤ 8) (hj : j < 2 ^ n - 1) : pg (angN j (2 ^ n - 1)) = perJ n j := by
  have hd : 2 ^ n - 1 ≤ 8191 := by
    have : 2 ^ n ≤ 2 ^ 8 := Nat.pow_le_pow_right (by omega) h8
    omega
  have hd1 : 1 ≤ 2 ^ n - 1 := by omega
  have hiff : ∀ k, dblN (angN j (2 ^ n - 1)) k = angN j (2 ^ n - 1) ↔ 2 ^ k * j % (2 ^ n - 1) = j := fun k => by
    rw [dblN_angN (by omega)]
    constructor
    · intro h
      rw [← angN_mod] at h
      exact angN_inj hd1 hd (Nat.mod_lt _ (by omega)) hj h
    · intro h
      rw [← angN_mod, h]
  unfold perJ
  rcases perF_spec (d := 2 ^ n - 1) (x := j) 8 0 j (by rw [Nat.pow_zero, Nat.one_mul, Nat.mod_eq_of_lt hj]) with ⟨p1, p2⟩ | ⟨p1, p2, p3, p4⟩
  · rw [p1]
    rcases pg_spec (angN j (2 ^ n - 1)) with ⟨q, _⟩ | ⟨q1, q2, q3, _⟩
    · exact q
    · exact absurd ((hiff _).1 q3) (p2 _ (by omega) (by omega))
  · exact pg_uniq (by omega) (by omega) ((hiff _).2 p3) (fun k hk hk2 he => p4 k hk hk2 ((hiff k).1 he))
def aN (N : Nat) : Ang := angN N LL
def AL (n : Nat) : List Ang := (AN n).map aN
theorem LL_dvd {n : Nat} (h1 : 1 ≤ n) (h8 : n ≤ 8) : LL / (2 ^ n - 1) * (2 ^ n - 1) = LL ∧ 0 < LL / (2 ^ n - 1) := by
  rcases (by omega : n = 1 ∨ n = 2 ∨ n = 3 ∨ n = 4 ∨ n = 5 ∨ n = 6 ∨ n = 7 ∨ n = 8) with rfl | rfl | rfl | rfl | rfl | rfl | rfl | rfl <;> decide
theorem aN_of {n j : Nat} (h1 : 1 ≤ n) (h8 : n ≤ 8) : aN (j * (LL / (2 ^ n - 1))) = angN j (2 ^ n - 1) := by
  obtain ⟨e, h0⟩ := LL_dvd h1 h8
  have hd : 0 < 2 ^ n - 1 := by
    have : 2 ^ 1 ≤ 2 ^ n := Nat.pow_le_pow_right (by omega) h1
    omega
  unfold aN
  have := angN_scale (n := j) h0 hd
  rw [e, Nat.mul_comm] at this
  exact this
theorem AL_eq {n : Nat} (h1 : 1 ≤ n) (h8 : n ≤ 8) : AL n = (idx n).map fun j => angN j (2 ^ n - 1) := by
  unfold AL AN
  rw [List.map_map]
  exact List.map_congr_left (fun j _ => aN_of h1 h8)
def idxTo (n t : Nat) : List Nat := (List.range t).filter fun j => Nat.beq (perJ n j) n
theorem idxTo_succ (n t : Nat) : idxTo n (t + 1) = idxTo n t ++ (if perJ n t = n then [t] else []) := by
  unfold idxTo
  rw [List.range_succ, List.filter_append]
  congr 1
  by_cases h : perJ n t = n
  · simp [List.filter, h, Nat.beq_refl]
  · have : Nat.beq (perJ n t) n = false := by
      cases hb : Nat.beq (perJ n t) n with
      | false => rfl
      | true => exact absurd (Nat.eq_of_beq_eq_true hb) h
    simp [List.filter, h, this]
theorem idxTo_len (n t : Nat) : (idxTo n t).length ≤ t := by
  unfold idxTo
  exact Nat.le_trans (List.length_filter_le _ _) (by simp)
def outTo (n t : Nat) : List Ang := (idxTo n t).map fun j => angN j (2 ^ n - 1)
theorem den_facts {n : Nat} (h1 : 1 ≤ n) (h8 : n ≤ 8) : 1 ≤ 2 ^ n - 1 ∧ 2 ^ n - 1 ≤ 255 := by
  rcases (by omega : n = 1 ∨ n = 2 ∨ n = 3 ∨ n = 4 ∨ n = 5 ∨ n = 6 ∨ n = 7 ∨ n = 8) with rfl | rfl | rfl | rfl | rfl | rfl | rfl | rfl <;> decide
theorem den_w {n : Nat} (h1 : 1 ≤ n) (h8 : n ≤ 8) : (w64 ((w64 ((1 : Int) * ((2 : Int) ^ (min (n : Int).toNat 64)))) - (1 : Int))) = ((2 ^ n - 1 : Nat) : Int) := by
  rcases (by omega : n = 1 ∨ n = 2 ∨ n = 3 ∨ n = 4 ∨ n = 5 ∨ n = 6 ∨ n = 7 ∨ n = 8) with rfl | rfl | rfl | rfl | rfl | rfl | rfl | rfl <;> decide
theorem wu_small {n : Nat} (h : n ≤ 8) : wu64 (n : Int) = (n : Int) := by
  simp [wu64, IntKind.wrap, IntKind.bits, IntKind.signed]; omega
section
variable {n : Nat} (h1 : 1 ≤ n) (h8 : n ≤ 8)
include h1 h8
theorem out_step (t : Nat) : outTo n (t + 1) = outTo n t ++ (if perJ n t = n then [angN t (2 ^ n - 1)] else []) := by
  unfold outTo
  rw [idxTo_succ, List.map_append]
  congr 1
  split <;> rfl
theorem impl_angles : impl_anglesOfPeriod (n : Int) = some (AL n) := by
  obtain ⟨d1, d2⟩ := den_facts h1 h8
  unfold impl_anglesOfPeriod
  rw [den_w h1 h8]
  have hc : decide ((0 : Int) ≤ (n : Int)) = true := by simp
  rw [hc]
  simp only [cond_true]
  have := loop_count (step := impl_anglesOfPeriod_l0) (fun t => ((n : Int), outTo n t, ((2 ^ n - 1 : Nat) : Int), ((2 ^ n - 1 : Nat) : Int), (t : Int), ())) (2 ^ n - 1) (outTo n (2 ^ n - 1), ()) (fun t ht => by
    have e1 : impl_angle (t : Int) ((2 ^ n - 1 : Nat) : Int) = some (angN t (2 ^ n - 1)) := impl_angN (by omega) (by omega) (by omega)
    have hA := angN_isA (n := t) d1 (by omega)
    have hl := idxTo_len n t
    have hlen : (outTo n t).length ≤ t := by unfold outTo; simpa using hl
    have hw : w64 ((t : Int) + 1) = ((t + 1 : Nat) : Int) := w64_succ (by omega)
    simp only [impl_anglesOfPeriod_l0, ltb ht, cond_true, e1, Option.bind_some, impl_period hA, pg_perJ h1 h8 ht, hw]
    rw [out_step h1 h8]
    by_cases hp : perJ n t = n
    · have hb : ((n : Int) == (n : Int)) = true := by simp
      have hs : decide (((outTo n t).length + [angN t (2 ^ n - 1)].length) * 16 ≤ 140737488355328) = true := decide_eq_true (by simp; omega)
      simp only [hb, cond_true, hs, hp, if_true]
    · have hb : (((perJ n t : Nat) : Int) == (n : Int)) = false := by
        simp only [beq_eq_false_iff_ne, ne_eq, Int.natCast_inj]; exact hp
      simp only [hb, cond_false, hp, if_false, List.append_nil]) (by
    simp only [impl_anglesOfPeriod_l0, nltb (Nat.lt_irrefl _), cond_false]) 0 (by omega)
  have e : loop impl_anglesOfPeriod_l0 ((n : Int), ([] : List Ang), ((2 ^ n - 1 : Nat) : Int), ((2 ^ n - 1 : Nat) : Int), (0 : Int), ()) = _ := this
  rw [e]
  simp only [Option.bind_some]
  rw [AL_eq h1 h8]; rfl
theorem spec_angles : spec_l04Angles (n : Int) = some (AL n) := by
  obtain ⟨d1, d2⟩ := den_facts h1 h8
  unfold spec_l04Angles
  rw [wu_small h8, den_w h1 h8]
  have hc : decide ((0 : Int) ≤ (n : Int)) = true := by simp
  rw [hc]
  simp only [cond_true]
  have := loop_count (step := spec_l04Angles_l0) (fun t => ((n : Int), outTo n t, ((2 ^ n - 1 : Nat) : Int), (t : Int), ())) (2 ^ n - 1) (outTo n (2 ^ n - 1), ()) (fun t ht => by
    have e1 : spec_l01Of (t : Int) ((2 ^ n - 1 : Nat) : Int) = some (angN t (2 ^ n - 1)) := spec_angN (by omega) (by omega) (by omega)
    have hA := angN_isA (n := t) d1 (by omega)
    have hl := idxTo_len n t
    have hlen : (outTo n t).length ≤ t := by unfold outTo; simpa using hl
    have hw : w64 ((t : Int) + 1) = ((t + 1 : Nat) : Int) := w64_succ (by omega)
    have hps : ps (angN t (2 ^ n - 1)) = n ↔ perJ n t = n := by
      rw [← pg_perJ h1 h8 ht, ps_pg hA]
      split
      · rfl
      · rename_i h; constructor <;> intro h2 <;> omega
    simp only [spec_l04Angles_l0, ltb ht, cond_true, e1, Option.bind_some, spec_period hA, hw]
    rw [out_step h1 h8]
    by_cases hp : perJ n t = n
    · have hb : (((ps (angN t (2 ^ n - 1)) : Nat) : Int) == (n : Int)) = true := by rw [hps.2 hp]; simp
      have hs : decide (((outTo n t).length + [angN t (2 ^ n - 1)].length) * 16 ≤ 140737488355328) = true := decide_eq_true (by simp; omega)
      simp only [hb, cond_true, hs, hp, if_true]
    · have hb : (((ps (angN t (2 ^ n - 1)) : Nat) : Int) == (n : Int)) = false := by
        simp only [beq_eq_false_iff_ne, ne_eq, Int.natCast_inj, hps]; exact hp
      simp only [hb, cond_false, hp, if_false, List.append_nil]) (by
    simp only [spec_l04Angles_l0, nltb (Nat.lt_irrefl _), cond_false]) 0 (by omega)
  have e : loop spec_l04Angles_l0 ((n : Int), ([] : List Ang), ((2 ^ n - 1 : Nat) : Int), (0 : Int), ()) = _ := this
  rw [e]
  simp only [Option.bind_some]
  rw [AL_eq h1 h8]; rfl
end
end Go.K.Pure

/- Plain laws of ray pairs, part F: crossing; what the program's pairs are. -/
set_option linter.all false
namespace Go.K.Pure
open Classical
abbrev isL (l : Lf) : Prop := isA l.1 ∧ isA l.2.1 ∧ lt l.1 l.2.1
def X (l m : Lf) : Prop := val l.1 < val m.1 ∧ val m.1 < val l.2.1 ∧ val l.2.1 < val m.2.1 ∨ val m.1 < val l.1 ∧ val l.1 < val m.2.1 ∧ val m.2.1 < val l.2.1
theorem spec_cross {l m : Lf} (hl : isL l) (hm : isL m) : spec_l04Cross l m = some (decide (X l m)) := by
  have t1 := (lt_val hl.1 hl.2.1).1 hl.2.2
  have t2 := (lt_val hm.1 hm.2.1).1 hm.2.2
  have e1 : l.1 = m.1 ↔ val l.1 = val m.1 := ⟨fun h => by rw [h], val_inj hl.1 hm.1⟩
  have e2 : l.1 = m.2.1 ↔ val l.1 = val m.2.1 := ⟨fun h => by rw [h], val_inj hl.1 hm.2.1⟩
  have e3 : l.2.1 = m.1 ↔ val l.2.1 = val m.1 := ⟨fun h => by rw [h], val_inj hl.2.1 hm.1⟩
  have e4 : l.2.1 = m.2.1 ↔ val l.2.1 = val m.2.1 := ⟨fun h => by rw [h], val_inj hl.2.1 hm.2.1⟩
  have nX : (val l.1 = val m.1 ∨ val l.1 = val m.2.1 ∨ val l.2.1 = val m.1 ∨ val l.2.1 = val m.2.1) → ¬ X l m := by unfold X; omega
  unfold spec_l04Cross
  rw [beqA, beqA, beqA, beqA]
  by_cases h1 : l.1 = m.1
  · rw [decide_eq_true h1, cond_true, decide_eq_false (nX (.inl (e1.1 h1)))]
  rw [decide_eq_false h1, cond_false]
  by_cases h2 : l.1 = m.2.1
  · rw [decide_eq_true h2, cond_true, decide_eq_false (nX (.inr (.inl (e2.1 h2))))]
  rw [decide_eq_false h2, cond_false]
  by_cases h3 : l.2.1 = m.1
  · rw [decide_eq_true h3, cond_true, decide_eq_false (nX (.inr (.inr (.inl (e3.1 h3)))))]
  rw [decide_eq_false h3, cond_false]
  by_cases h4 : l.2.1 = m.2.1
  · rw [decide_eq_true h4, cond_true, decide_eq_false (nX (.inr (.inr (.inr (e4.1 h4)))))]
  rw [decide_eq_false h4, cond_false]
  have w1 : spec_l04Inside l.1 m = some (decide (lt m.1 l.1 ∧ lt l.1 m.2.1)) := by unfold spec_l04Inside; rw [spec_within hl.1 hm.1 hm.2.1 hm.2.2]; rfl
  have w2 : spec_l04Inside l.2.1 m = some (decide (lt m.1 l.2.1 ∧ lt l.2.1 m.2.1)) := by unfold spec_l04Inside; rw [spec_within hl.2.1 hm.1 hm.2.1 hm.2.2]; rfl
  rw [w1, w2]
  simp only [Option.bind_some]
  rw [e1] at h1; rw [e2] at h2; rw [e3] at h3; rw [e4] at h4
  have u1 := lt_val hm.1 hl.1
  have u2 := lt_val hl.1 hm.2.1
  have u3 := lt_val hm.1 hl.2.1
  have u4 := lt_val hl.2.1 hm.2.1
  congr 1
  have hh : X l m ↔ ¬ ((lt m.1 l.1 ∧ lt l.1 m.2.1) ↔ (lt m.1 l.2.1 ∧ lt l.2.1 m.2.1)) := by
    rw [u1, u2, u3, u4]; unfold X; omega
  by_cases p : (lt m.1 l.1 ∧ lt l.1 m.2.1) <;> by_cases q : (lt m.1 l.2.1 ∧ lt l.2.1 m.2.1) <;> simp [p, q] at hh ⊢ <;> exact hh
theorem impl_cross {l m : Lf} (hl : isL l) (hm : isL m) : impl_Leaf_cross l m = some (decide (X l m)) := by
  have t1 := (lt_val hl.1 hl.2.1).1 hl.2.2
  have t2 := (lt_val hm.1 hm.2.1).1 hm.2.2
  have v1 := val_nonneg hl.1
  have v2 := val_lt_KK hl.2.1
  have v3 := val_nonneg hm.1
  have v4 := val_lt_KK hm.2.1
  have key : ∀ x : Ang, isA x → 0 ≤ val x → val x < KK → ∃ o : Int, impl_order l.1 x l.2.1 = some o ∧ (o = 0 ∧ (val x = val l.1 ∨ val x = val l.2.1) ∨ o = 1 ∧ val l.1 < val x ∧ val x < val l.2.1 ∨ o = -1 ∧ (val x < val l.1 ∨ val l.2.1 < val x)) := by
    intro x hx x1 x2
    refine ⟨_, impl_order_ok hl.1 hx hl.2.1, ?_⟩
    have e1 : l.1 = x ↔ val l.1 = val x := ⟨fun h => by rw [h], val_inj hl.1 hx⟩
    have e2 : x = l.2.1 ↔ val x = val l.2.1 := ⟨fun h => by rw [h], val_inj hx hl.2.1⟩
    have e3 : l.1 = l.2.1 ↔ val l.1 = val l.2.1 := ⟨fun h => by rw [h], val_inj hl.1 hl.2.1⟩
    simp only [e1, e2, e3]
    split
    · left; exact ⟨rfl, by omega⟩
    · right
      by_cases hd : dv x l.1 < dv l.2.1 l.1
      · left
        refine ⟨by rw [if_pos hd], ?_⟩
        unfold dv at hd
        split at hd <;> split at hd <;> omega
      · right
        refine ⟨by rw [if_neg hd], ?_⟩
        unfold dv at hd
        split at hd <;> split at hd <;> omega
  unfold impl_Leaf_cross
  obtain ⟨o1, h1, h2⟩ := key m.1 hm.1 v3 (by omega)
  obtain ⟨o2, h3, h4⟩ := key m.2.1 hm.2.1 (by omega) v4
  rw [h1, h3]
  simp only [Option.bind_some]
  congr 1
  have hw : w64 (o1 * o2) = o1 * o2 := by
    rcases h2 with ⟨rfl, _⟩ | ⟨rfl, _⟩ | ⟨rfl, _⟩ <;> rcases h4 with ⟨rfl, _⟩ | ⟨rfl, _⟩ | ⟨rfl, _⟩ <;> exact w64_id (by omega) (by omega)
  rw [hw]
  have hh : o1 * o2 = -1 ↔ X l m := by
    unfold X
    rcases h2 with ⟨rfl, _⟩ | ⟨rfl, _⟩ | ⟨rfl, _⟩ <;> rcases h4 with ⟨rfl, _⟩ | ⟨rfl, _⟩ | ⟨rfl, _⟩ <;> omega
  by_cases hx : X l m
  · rw [decide_eq_true hx, hh.2 hx]; rfl
  · rw [decide_eq_false hx]
    have : ¬ o1 * o2 = -1 := fun h => hx (hh.1 h)
    simpa using this

abbrev Pr := Ang × Ang × Unit
def aP (p : Nat × Nat) : Pr := (aN p.1, aN p.2, ())
/-- A numerator that is an angle's. -/
def okN (N : Nat) : Prop := N < LL ∧ isA (aN N) ∧ val (aN N) * (LL : Int) = (N : Int) * KK
theorem okN_lt {N M : Nat} (h : okN N) (g : okN M) : val (aN N) < val (aN M) ↔ N < M := by
  have e1 := h.2.2
  have e2 := g.2.2
  have hL : (0 : Int) < (LL : Int) := by decide
  rw [← mul_lt_iff hL, e1, e2, mul_lt_iff KK_pos]
  omega
theorem okN_AN {n N : Nat} (h1 : 1 ≤ n) (h8 : n ≤ 8) (h : N ∈ AN n) : okN N := by
  obtain ⟨j, hj, rfl⟩ := List.mem_map.1 h
  have hj2 : j < 2 ^ n - 1 := by
    have := (List.mem_filter.1 hj).1
    exact List.mem_range.1 this
  obtain ⟨e, h0⟩ := LL_dvd h1 h8
  obtain ⟨d1, d2⟩ := den_facts h1 h8
  have hlt : j * (LL / (2 ^ n - 1)) < LL := by
    have q : j * (LL / (2 ^ n - 1)) < (2 ^ n - 1) * (LL / (2 ^ n - 1)) := Nat.mul_lt_mul_of_pos_right hj2 h0
    have e2 : (2 ^ n - 1) * (LL / (2 ^ n - 1)) = LL := by rw [Nat.mul_comm]; exact e
    exact Nat.lt_of_lt_of_eq q e2
  refine ⟨hlt, ?_, ?_⟩
  · rw [aN_of h1 h8]; exact angN_isA d1 (by omega)
  · rw [aN_of h1 h8]
    have hv := val_angN d1 (by omega : 2 ^ n - 1 ≤ 8191) hj2
    have e' : (LL : Int) = ((LL / (2 ^ n - 1) : Nat) : Int) * ((2 ^ n - 1 : Nat) : Int) := by
      rw [← Int.natCast_mul, e]
    rw [e', Int.natCast_mul]
    calc val (angN j (2 ^ n - 1)) * (((LL / (2 ^ n - 1) : Nat) : Int) * ((2 ^ n - 1 : Nat) : Int))
        = ((LL / (2 ^ n - 1) : Nat) : Int) * (val (angN j (2 ^ n - 1)) * ((2 ^ n - 1 : Nat) : Int)) := by ac_rfl
      _ = ((LL / (2 ^ n - 1) : Nat) : Int) * ((j : Int) * KK) := by rw [hv]
      _ = (j : Int) * ((LL / (2 ^ n - 1) : Nat) : Int) * KK := by ac_rfl
def okP (p : Nat × Nat) : Prop := okN p.1 ∧ okN p.2 ∧ p.1 < p.2
theorem okP_isL {p : Nat × Nat} (h : okP p) : isL (aP p) := ⟨h.1.2.1, h.2.1.2.1, (lt_val h.1.2.1 h.2.1.2.1).2 ((okN_lt h.1 h.2.1).2 h.2.2)⟩
theorem X_crossN {p q : Nat × Nat} (h : okP p) (g : okP q) : X (aP p) (aP q) ↔ crossN p.1 p.2 q.1 q.2 = true := by
  unfold X aP crossN
  simp only [okN_lt h.1 g.1, okN_lt g.1 h.2.1, okN_lt h.2.1 g.2.1, okN_lt g.1 h.1, okN_lt h.1 g.2.1, okN_lt g.2.1 h.2.1, Bool.or_eq_true, Bool.and_eq_true, Nat.blt_eq, and_assoc]
theorem decide_X {p q : Nat × Nat} (h : okP p) (g : okP q) : decide (X (aP p) (aP q)) = crossN p.1 p.2 q.1 q.2 := by
  cases hc : crossN p.1 p.2 q.1 q.2 with
  | true => exact decide_eq_true ((X_crossN h g).2 hc)
  | false => exact decide_eq_false (fun hx => by rw [(X_crossN h g).1 hx] at hc; cases hc)
abbrev dP : Pr := (((0 : Int), (0 : Int), ()), ((0 : Int), (0 : Int), ()), ())
abbrev ep (xs : List Pr) (i : Nat) : Pr := xs.getD i dP
theorem map_getD {α β : Type} {f : α → β} {xs : List α} {i : Nat} {d : β} {e : α} (h : i < xs.length) : (xs.map f).getD i d = f (xs.getD i e) := by
  rw [getD_at (by simpa using h), getD_at h, List.getElem_map]
/-- The place of the first element of which something holds, or -1. -/
def fidx {α : Type} (f : α → Bool) (xs : List α) : Int := match xs.findIdx? f with | some k => (k : Int) | none => -1
/-- Loops that look for the first element in the manner of slices.IndexFunc. -/
theorem loop_fidx {α σ β : Type} {step : σ → Option (Ctl σ (β ⊕ Unit))} (s : Nat → σ) (xs : List α) (d : α) (f : α → Bool) (c : Nat → β)
    (h1 : ∀ i, i < xs.length → step (s i) = some (if f (xs.getD i d) then .stop (.inl (c i)) else .next (s (i + 1)))) (h2 : step (s xs.length) = some (.stop (.inr ()))) :
    loop step (s 0) = some (match xs.findIdx? f with | some k => .inl (c k) | none => .inr ()) := by
  rcases loop_find s xs.length (Sum.inr () : β ⊕ Unit) (fun i => if f (xs.getD i d) then some (Sum.inl (c i)) else none) (fun i hi => by
      rw [h1 i hi]; split <;> rfl) h2 0 (Nat.zero_le _) with ⟨g1, g2⟩ | ⟨j, cc, _, g2, g3, g4, g5⟩
  · rw [g1]
    have : xs.findIdx? f = none := by
      rw [List.findIdx?_eq_none_iff]
      intro x hx
      obtain ⟨i, hi, rfl⟩ := List.mem_iff_getElem.1 hx
      have := g2 i (Nat.zero_le _) hi
      rw [getD_at hi] at this
      cases hf : f xs[i] with
      | true => rw [hf] at this; cases this
      | false => rfl
    rw [this]
  · rw [g4]
    split at g3
    · rename_i hj
      simp only [Option.some.injEq] at g3
      subst g3
      have : xs.findIdx? f = some j := by
        rw [List.findIdx?_eq_some_iff_getElem]
        refine ⟨g2, by rw [getD_at g2] at hj; exact hj, fun k hk => ?_⟩
        have := g5 k (Nat.zero_le _) hk
        rw [getD_at (by omega)] at this
        cases hf : f xs[k] with
        | true => rw [hf] at this; cases this
        | false => simp
      rw [this]
    · cases g3
theorem freeN_find {a b : Nat} {ps : List (Nat × Nat)} : freeN a ps b = (ps.findIdx? fun p => crossN a b p.1 p.2).isNone := by
  unfold freeN
  rw [List.findIdx?_isNone]
  induction ps with
  | nil => rfl
  | cons p ps ih => simp [ih]
theorem impl_free {a b : Nat} {ps : List (Nat × Nat)} (ha : okP (a, b)) (hp : ∀ p ∈ ps, okP p) (hl : ps.length < 1000000) : impl_areAll_impl_RayPair (ps.map aP) (aP (a, b)) = some (freeN a ps b) := by
  unfold impl_areAll_impl_RayPair slices_ContainsFunc__impl_RayPair_impl_RayPair slices_IndexFunc__impl_RayPair_impl_RayPair
  have := loop_fidx (step := slices_IndexFunc__impl_RayPair_impl_RayPair_l0) (fun i => (ps.map aP, (), (((), aP (a, b), ()), ()), (((ps.map aP).length : Nat) : Int), (i : Int), ())) ps (0, 0) (fun p => crossN a b p.1 p.2) (fun i => ((i : Int), ())) (fun i hi => by
    have hm : ps.getD i (0, 0) ∈ ps := by rw [getD_at hi]; exact List.getElem_mem hi
    have hc := impl_cross (okP_isL ha) (okP_isL (hp _ hm))
    rw [decide_X ha (hp _ hm)] at hc
    have hi2 : i < (ps.map aP).length := by simpa using hi
    have e1 : impl_areAll_impl_RayPair_f1 ((ps.map aP).getD i dP) (aP (a, b)) = some (crossN a b (ps.getD i (0, 0)).1 (ps.getD i (0, 0)).2) := by
      rw [map_getD (e := (0, 0)) hi]
      unfold impl_areAll_impl_RayPair_f1 impl_pairsUpTo_f1_f1 impl_RayPair_leaf
      simp only [Option.bind_some]
      have hc' : impl_Leaf_cross (aP (a, b)) ((aP (ps.getD i (0, 0))).1, (aP (ps.getD i (0, 0))).2.1, ()) = _ := hc
      rw [hc']
      simp
    have hw : w64 ((i : Int) + 1) = ((i + 1 : Nat) : Int) := w64_succ (by omega)
    simp only [slices_IndexFunc__impl_RayPair_impl_RayPair_l0, ltb hi2, cond_true, inb hi2, Int.toNat_natCast, e1, Option.bind_some, hw]
    cases crossN a b (ps.getD i (0, 0)).1 (ps.getD i (0, 0)).2 <;> rfl) (by
    have : ¬ ps.length < (ps.map aP).length := by simp
    simp only [slices_IndexFunc__impl_RayPair_impl_RayPair_l0, nltb this, cond_false])
  have e : loop slices_IndexFunc__impl_RayPair_impl_RayPair_l0 (ps.map aP, (), (((), aP (a, b), ()), ()), (((ps.map aP).length : Nat) : Int), (0 : Int), ()) = _ := this
  rw [e, freeN_find]
  cases hf : ps.findIdx? fun p => crossN a b p.1 p.2 with
  | none => simp [alt]
  | some k => simp [alt]
end Go.K.Pure

/- Plain laws of ray pairs, part G: the pairs up to a period, the program's and the reference's. -/
set_option linter.all false
namespace Go.K.Pure
open Classical
theorem takeF_spec {f : Nat → Bool} : ∀ {xs : List Nat} {b : Nat} {r : List Nat}, takeF f xs = some (b, r) → ∃ k, xs.findIdx? f = some k ∧ k < xs.length ∧ xs.getD k 0 = b ∧ xs.eraseIdx k = r
  | [], b, r, h => by cases h
  | x :: xs, b, r, h => by
    unfold takeF at h
    cases hx : f x with
    | true =>
      rw [hx] at h
      simp only [Option.some.injEq, Prod.mk.injEq] at h
      obtain ⟨rfl, rfl⟩ := h
      exact ⟨0, by simp [List.findIdx?_cons, hx], by simp, rfl, rfl⟩
    | false =>
      rw [hx] at h
      simp only at h
      cases ht : takeF f xs with
      | none => rw [ht] at h; cases h
      | some q =>
        obtain ⟨b', r'⟩ := q
        rw [ht] at h
        simp only [Option.some.injEq, Prod.mk.injEq] at h
        obtain ⟨rfl, rfl⟩ := h
        obtain ⟨k, h1, h2, h3, h4⟩ := takeF_spec ht
        exact ⟨k + 1, by simp [List.findIdx?_cons, hx, h1], by simpa using h2, by simpa using h3, by simp [h4]⟩
theorem erase_map {α β : Type} {f : α → β} : ∀ {xs : List α} {i : Nat}, (xs.map f).eraseIdx i = (xs.eraseIdx i).map f
  | [], i => rfl
  | x :: xs, 0 => rfl
  | x :: xs, i + 1 => by simp [erase_map (xs := xs) (i := i)]
abbrev dA0 : Ang := ((0 : Int), (0 : Int), ())
theorem impl_first {a : Nat} {rest : List Nat} {ps : List (Nat × Nat)} (ha : okN a) (hr : ∀ b ∈ rest, okN b ∧ a < b) (hp : ∀ p ∈ ps, okP p) (hl : ps.length < 1000000) (hl2 : rest.length < 1000000) :
    slices_IndexFunc__impl_Angle_impl_Angle_v2 (rest.map aN) ((a :: rest).map aN) (ps.map aP) = some (match rest.findIdx? (freeN a ps) with | some k => (k : Int) | none => -1) := by
  unfold slices_IndexFunc__impl_Angle_impl_Angle_v2
  have := loop_fidx (step := slices_IndexFunc__impl_Angle_impl_Angle_v2_l0) (fun i => (rest.map aN, (), ((a :: rest).map aN, ps.map aP, ()), (((rest.map aN).length : Nat) : Int), (i : Int), ())) rest 0 (freeN a ps) (fun i => ((i : Int), ())) (fun i hi => by
    have hm : rest.getD i 0 ∈ rest := by rw [getD_at hi]; exact List.getElem_mem hi
    obtain ⟨b1, b2⟩ := hr _ hm
    have hc := impl_free (a := a) (b := rest.getD i 0) ⟨ha, b1, b2⟩ hp hl
    have hi2 : i < (rest.map aN).length := by simpa using hi
    have e1 : impl_pairsUpTo_f1 ((rest.map aN).getD i dA0) ((a :: rest).map aN) (ps.map aP) = some (freeN a ps (rest.getD i 0)) := by
      rw [map_getD (e := 0) hi]
      unfold impl_pairsUpTo_f1
      have h0 : ((decide ((0 : Int) ≤ (0 : Int))) && (decide ((0 : Int) < ((((a :: rest).map aN).length : Nat) : Int)))) = true := by simp
      rw [h0, cond_true]
      have hg : ((a :: rest).map aN).getD (0 : Int).toNat ((0 : Int), (0 : Int), ()) = aN a := rfl
      rw [hg]
      have hc' : impl_areAll_impl_RayPair (ps.map aP) (aN a, aN (rest.getD i 0), ()) = _ := hc
      rw [hc']; rfl
    have hw : w64 ((i : Int) + 1) = ((i + 1 : Nat) : Int) := w64_succ (by omega)
    simp only [slices_IndexFunc__impl_Angle_impl_Angle_v2_l0, ltb hi2, cond_true, inb hi2, Int.toNat_natCast, e1, Option.bind_some, hw]
    cases freeN a ps (rest.getD i 0) <;> rfl) (by
    have : ¬ rest.length < (rest.map aN).length := by simp
    simp only [slices_IndexFunc__impl_Angle_impl_Angle_v2_l0, nltb this, cond_false])
  have e : loop slices_IndexFunc__impl_Angle_impl_Angle_v2_l0 (rest.map aN, (), ((a :: rest).map aN, ps.map aP, ()), (((rest.map aN).length : Nat) : Int), (0 : Int), ()) = _ := this
  rw [e]
  cases hf : rest.findIdx? (freeN a ps) with
  | none => simp [alt]
  | some k => simp [alt]
noncomputable abbrev IX : List PAng → List PAng → List PPr → Option Int := fun xs ys ps => slices_IndexFunc__impl_Angle_impl_Angle_v2 xs ys ps
theorem impl_join : ∀ {k : Nat} {ps : List (Nat × Nat)} {l : List Nat} {qs : List (Nat × Nat)}, joinN k ps l = some qs → (∀ p ∈ ps, okP p) → l.Pairwise (· < ·) → (∀ b ∈ l, okN b) → ps.length + l.length < 100000 →
    loop (pairsIn IX) (ps.map aP, l.map aN) = some (qs.map aP) ∧ (∀ p ∈ qs, okP p) ∧ qs.length ≤ ps.length + l.length
  | 0, ps, l, qs, h, _, _, _, _ => by cases h
  | k + 1, ps, [], qs, h, hp, _, _, _ => by
    simp only [joinN, Option.some.injEq] at h
    subst h
    refine ⟨?_, hp, by simp⟩
    rw [loop_eq]
    simp [pairsIn]
  | k + 1, ps, a :: rest, qs, h, hp, hs, ho, hl => by
    unfold joinN at h
    cases ht : takeF (freeN a ps) rest with
    | none => rw [ht] at h; cases h
    | some q =>
      obtain ⟨b, r⟩ := q
      rw [ht] at h
      simp only at h
      obtain ⟨j, h1, h2, h3, h4⟩ := takeF_spec ht
      have ha : okN a := ho a (by simp)
      have hs1 := List.pairwise_cons.1 hs
      have hm : b ∈ rest := by rw [← h3, getD_at h2]; exact List.getElem_mem h2
      have hP : okP (a, b) := ⟨ha, ho b (by simp [hm]), hs1.1 b hm⟩
      simp only [List.length_cons] at hl
      have hsub : r.Sublist rest := by rw [← h4]; exact List.eraseIdx_sublist _ _
      have hlr : r.length + 1 = rest.length := by rw [← h4, List.length_eraseIdx_of_lt h2]; omega
      have hrec := impl_join h (fun p hq => by
          rcases List.mem_append.1 hq with g | g
          · exact hp p g
          · rw [List.mem_singleton.1 g]; exact hP) (hs1.2.sublist hsub) (fun c hc => ho c (by simp [hsub.subset hc])) (by simp; omega)
      refine ⟨?_, hrec.2.1, ?_⟩
      · rw [loop_eq]
        have e1 : decide (0 < ((a :: rest).map aN).length) = true := by simp
        have e2 : (decide (2 ≤ ((a :: rest).map aN).length) && decide (((ps.map aP).length + 1) * 32 ≤ 140737488355328)) = true := by simp; omega
        have e3 : IX (((a :: rest).map aN).drop 1) ((a :: rest).map aN) (ps.map aP) = some (j : Int) := by
          have := impl_first (rest := rest) ha (fun c hc => ⟨ho c (by simp [hc]), hs1.1 c hc⟩) hp (by omega) (by omega)
          rw [h1] at this
          exact this
        have e4 : (1 + (j : Int)) = ((j + 1 : Nat) : Int) := by omega
        have e5 : (decide (0 ≤ 1 + (j : Int)) && decide (1 + (j : Int) < (((a :: rest).map aN).length : Int))) = true := by simp; omega
        have e6 : ((a :: rest).map aN).getD (1 + (j : Int)).toNat (0, 0, ()) = aN b := by
          rw [e4, Int.toNat_natCast, map_getD (e := 0) (by simpa using h2)]
          rw [← h3]; rfl
        have e7 : (((a :: rest).map aN).eraseIdx (1 + (j : Int)).toNat).drop 1 = r.map aN := by
          rw [e4, Int.toNat_natCast, ← h4]
          simp [erase_map]
        have e8 : ps.map aP ++ [(((a :: rest).map aN).getD 0 (0, 0, ()), ((a :: rest).map aN).getD (1 + (j : Int)).toNat (0, 0, ()), ())] = (ps ++ [(a, b)]).map aP := by
          rw [e6, List.map_append]; rfl
        simp only [pairsIn, e1, e2, e3, cond_true, Option.bind_some, e5, e7, e8]
        exact hrec.1
      · have := hrec.2.2
        simp at this ⊢
        omega
theorem AN_sorted {n : Nat} (h1 : 1 ≤ n) (h8 : n ≤ 8) : (AN n).Pairwise (· < ·) := by
  obtain ⟨_, h0⟩ := LL_dvd h1 h8
  have : (idx n).Pairwise (· < ·) := (List.pairwise_lt_range).sublist List.filter_sublist
  exact List.pairwise_map.2 (this.imp fun h => Nat.mul_lt_mul_of_pos_right h h0)
theorem AN_len {n : Nat} (h1 : 1 ≤ n) (h8 : n ≤ 8) : (AN n).length ≤ 255 := by
  obtain ⟨d1, d2⟩ := den_facts h1 h8
  unfold AN
  rw [List.length_map]
  exact Nat.le_trans (List.length_filter_le _ _) (by simp; omega)
theorem upTo_le : ∀ {n m : Nat}, m ≤ n → (upToN n).isSome = true → (upToN m).isSome = true
  | 0, m, h, h2 => by have : m = 0 := by omega
                      subst this; exact h2
  | 1, m, h, h2 => by
    rcases (by omega : m = 0 ∨ m = 1) with rfl | rfl <;> rfl
  | n + 2, m, h, h2 => by
    by_cases hm : m = n + 2
    · subst hm; exact h2
    · refine upTo_le (n := n + 1) (by omega) ?_
      unfold upToN at h2
      cases hu : upToN (n + 1) with
      | some _ => rfl
      | none => rw [hu] at h2; cases h2
noncomputable def UP (n : Nat) : List (Nat × Nat) := (upToN n).getD []
theorem UP_eq {n : Nat} (h : n ≤ 8) : upToN n = some (UP n) := by
  have := upTo_le h upTo_some
  unfold UP
  cases hu : upToN n with
  | some x => rfl
  | none => rw [hu] at this; cases this
theorem UP_join {n : Nat} (h : n + 2 ≤ 8) : joinN 300 (UP (n + 1)) (AN (n + 2)) = some (UP (n + 2)) := by
  have e1 := UP_eq h
  have e2 := UP_eq (n := n + 1) (by omega)
  unfold upToN at e1
  rw [e2] at e1
  exact e1
theorem UP_ok : ∀ {n : Nat}, n ≤ 8 → (∀ p ∈ UP n, okP p) ∧ (UP n).length ≤ 255 * n
  | 0, _ => by simp [UP, upToN]
  | 1, _ => by simp [UP, upToN]
  | n + 2, h => by
    obtain ⟨g1, g2⟩ := UP_ok (n := n + 1) (by omega)
    have hl := AN_len (n := n + 2) (by omega) h
    have := impl_join (UP_join h) g1 (AN_sorted (by omega) h) (fun b hb => okN_AN (by omega) h hb) (by omega)
    refine ⟨this.2.1, ?_⟩
    have := this.2.2
    omega
theorem impl_upTo {n : Nat} (h : n ≤ 8) : impl_pairsUpTo (n : Int) = some ((UP n).map aP) := by
  have h01 : UP 1 = [] := by simp [UP, upToN]
  have h00 : UP 0 = [] := by simp [UP, upToN]
  unfold impl_pairsUpTo pairsOf
  have key := loop_count (step := pairsOut (fun p => impl_anglesOfPeriod p) IX (n : Int)) (fun i => ((UP (i + 1)).map aP, ((i + 2 : Nat) : Int))) (n - 1) ((UP n).map aP) (fun i hi => by
    have hc : decide (((i + 2 : Nat) : Int) ≤ (n : Int)) = true := by simp only [decide_eq_true_eq]; omega
    obtain ⟨g1, g2⟩ := UP_ok (n := i + 1) (by omega)
    have hl := AN_len (n := i + 2) (by omega) (by omega)
    have := (impl_join (UP_join (n := i) (by omega)) g1 (AN_sorted (by omega) (by omega)) (fun b hb => okN_AN (by omega) (by omega) hb) (by omega)).1
    have hA := impl_angles (n := i + 2) (by omega) (by omega)
    have hw : wr64 (((i + 2 : Nat) : Int) + 1) = ((i + 1 + 2 : Nat) : Int) := w64_succ (by omega)
    have hA' : AL (i + 2) = (AN (i + 2)).map aN := rfl
    simp only [pairsOut, hc, cond_true, hA, Option.bind_some, hA', this, hw]) (by
    have hc : decide (((n - 1 + 2 : Nat) : Int) ≤ (n : Int)) = false := by simp only [decide_eq_false_iff_not]; omega
    have e : UP (n - 1 + 1) = UP n := by
      rcases (by omega : n = 0 ∨ n - 1 + 1 = n) with rfl | h2
      · rw [h00]; exact h01
      · rw [h2]
    simp only [pairsOut, hc, cond_false, e]) 0 (by omega)
  rw [h01] at key
  exact key
theorem app_getD {α : Type} {xs ys : List α} {x d : α} : (xs ++ x :: ys).getD xs.length d = x := by
  rw [List.getD_eq_getElem?_getD]; simp
theorem takeF_sub {f : Nat → Bool} {xs : List Nat} {b : Nat} {r : List Nat} (h : takeF f xs = some (b, r)) : b ∈ xs ∧ r.Sublist xs := by
  obtain ⟨k, h1, h2, h3, h4⟩ := takeF_spec h
  exact ⟨by rw [← h3, getD_at h2]; exact List.getElem_mem h2, by rw [← h4]; exact List.eraseIdx_sublist _ _⟩
theorem app_getD' {α : Type} {xs ys : List α} {i : Nat} {d : α} (h : i < xs.length) : (xs ++ ys).getD i d = xs.getD i d := by
  rw [List.getD_eq_getElem?_getD, List.getD_eq_getElem?_getD, List.getElem?_append_left h]
theorem nn0 (n : Nat) : decide ((0 : Int) ≤ (n : Int)) = true := by simp
end Go.K.Pure

/- Plain laws of ray pairs, part I: the pairs of one period. -/
set_option linter.all false
namespace Go.K.Pure
open Classical
theorem del_loop {f : Pr → Bool} {del : Int} : ∀ (J K R : List Pr), R ≠ [] → (∀ x ∈ J, impl_pairsOf_f1 x del = some (f x)) → K.length + R.length + J.length < 1000000 →
    ∃ G, loop slices_DeleteFunc__impl_RayPair_impl_RayPair_l0 (K ++ (R ++ J), (), (del, ()), (K.length : Int), ((K.length + R.length : Nat) : Int), ()) = some ((K ++ J.filter fun x => !f x) ++ G, ((K ++ J.filter fun x => !f x).length : Int), ())
  | [], K, R, hR, hf, hl => by
    refine ⟨R, ?_⟩
    have : ¬ K.length + R.length < (K ++ R).length := by simp
    rw [loop_eq, List.append_nil]
    simp only [slices_DeleteFunc__impl_RayPair_impl_RayPair_l0, nltb this, cond_false, List.filter_nil, List.append_nil]
  | x :: J, K, [], hR, hf, hl => absurd rfl hR
  | x :: J, K, r :: R, hR, hf, hl => by
    have hj : K.length + (r :: R).length < (K ++ (r :: R ++ x :: J)).length := by simp
    have hi : K.length < (K ++ (r :: R ++ x :: J)).length := by simp
    have gj : (K ++ (r :: R ++ x :: J)).getD (K.length + (r :: R).length) dP = x := by
      rw [← List.append_assoc, ← List.length_append]; exact app_getD
    simp only [List.length_cons] at hl
    have hw : w64 (((K.length + (r :: R).length : Nat) : Int) + 1) = ((K.length + (r :: R).length + 1 : Nat) : Int) := w64_succ (by simp; omega)
    have hwi : w64 ((K.length : Int) + 1) = ((K.length + 1 : Nat) : Int) := w64_succ (by omega)
    have hfx := hf x (by simp)
    have hfJ : ∀ y ∈ J, impl_pairsOf_f1 y del = some (f y) := fun y hy => hf y (by simp [hy])
    rw [loop_eq]
    simp only [slices_DeleteFunc__impl_RayPair_impl_RayPair_l0, ltb hj, inb hj, Int.toNat_natCast, cond_true, gj, hfx, Option.bind_some, hw, inb hi, hwi]
    cases hb : f x with
    | true =>
      obtain ⟨G, hG⟩ := del_loop J K (r :: R ++ [x]) (by simp) hfJ (by simp; omega)
      refine ⟨G, ?_⟩
      simp only [Bool.not_true, cond_false]
      have e1 : K.length + (r :: R ++ [x]).length = K.length + (r :: R).length + 1 := by simp; omega
      rw [e1, List.append_assoc, List.singleton_append] at hG
      rw [List.filter_cons]
      simp only [hb, Bool.not_true]
      exact hG
    | false =>
      obtain ⟨G, hG⟩ := del_loop J (K ++ [x]) (R ++ [x]) (by simp) hfJ (by simp; omega)
      refine ⟨G, ?_⟩
      simp only [Bool.not_false, cond_true]
      have es : (K ++ (r :: R ++ x :: J)).set K.length x = (K ++ [x]) ++ ((R ++ [x]) ++ J) := by
        rw [List.set_append_right _ _ (Nat.le_refl _)]; simp
      have e1 : (K ++ [x]).length + (R ++ [x]).length = K.length + (r :: R).length + 1 := by simp; omega
      have e2 : (K ++ [x]).length = K.length + 1 := by simp
      rw [e1, ← es] at hG
      rw [List.filter_cons]
      simp only [hb, Bool.not_false, if_true]
      have e3 : K ++ [x] ++ J.filter (fun x => !f x) = K ++ x :: J.filter (fun x => !f x) := by simp
      rw [e3, e2] at hG
      exact hG
theorem del_func {f : Pr → Bool} {del : Int} {xs : List Pr} (hf : ∀ x ∈ xs, impl_pairsOf_f1 x del = some (f x)) (hl : xs.length < 100000) :
    slices_DeleteFunc__impl_RayPair_impl_RayPair xs del = some (xs.filter fun x => !f x) := by
  have h1 : slices_IndexFunc__impl_RayPair_impl_RayPair_v2 xs del = some (match xs.findIdx? f with | some k => (k : Int) | none => -1) := by
    unfold slices_IndexFunc__impl_RayPair_impl_RayPair_v2
    have := loop_fidx (step := slices_IndexFunc__impl_RayPair_impl_RayPair_v2_l0) (fun i => (xs, (), (del, ()), ((xs.length : Nat) : Int), (i : Int), ())) xs dP f (fun i => ((i : Int), ())) (fun i hi => by
      have hm : xs.getD i dP ∈ xs := by rw [getD_at hi]; exact List.getElem_mem hi
      have hw : w64 ((i : Int) + 1) = ((i + 1 : Nat) : Int) := w64_succ (by omega)
      simp only [slices_IndexFunc__impl_RayPair_impl_RayPair_v2_l0, ltb hi, cond_true, inb hi, Int.toNat_natCast, hf _ hm, Option.bind_some, hw]
      cases f (xs.getD i dP) <;> rfl) (by
      simp only [slices_IndexFunc__impl_RayPair_impl_RayPair_v2_l0, nltb (Nat.lt_irrefl _), cond_false])
    have e : loop slices_IndexFunc__impl_RayPair_impl_RayPair_v2_l0 (xs, (), (del, ()), ((xs.length : Nat) : Int), (0 : Int), ()) = _ := this
    rw [e]
    cases xs.findIdx? f <;> rfl
  unfold slices_DeleteFunc__impl_RayPair_impl_RayPair
  rw [h1]
  simp only [Option.bind_some]
  cases hk : xs.findIdx? f with
  | none =>
    have hn := List.findIdx?_eq_none_iff.1 hk
    have : xs.filter (fun x => !f x) = xs := List.filter_eq_self.2 (fun x hx => by rw [hn x hx]; rfl)
    rw [this]; rfl
  | some k =>
    obtain ⟨hkl, hk1, hk2⟩ := List.findIdx?_eq_some_iff_getElem.1 hk
    have hne : ((k : Int) == (-1 : Int)) = false := by
      simp only [beq_eq_false_iff_ne, ne_eq]; omega
    have e : xs = xs.take k ++ ([xs[k]] ++ xs.drop (k + 1)) := by
      rw [List.singleton_append, List.getElem_cons_drop, List.take_append_drop]
    have hlk : (xs.take k).length = k := by simp; omega
    obtain ⟨G, hG⟩ := del_loop (f := f) (del := del) (xs.drop (k + 1)) (xs.take k) [xs[k]] (by simp) (fun x hx => hf x (List.mem_of_mem_drop hx)) (by simp; omega)
    have hw : w64 ((k : Int) + 1) = ((k + 1 : Nat) : Int) := w64_succ (by omega)
    rw [← e, hlk] at hG
    have hfil : xs.take k ++ (xs.drop (k + 1)).filter (fun x => !f x) = xs.filter fun x => !f x := by
      have h3 : (xs.take k).filter (fun x => !f x) = xs.take k := List.filter_eq_self.2 (fun x hx => by
        obtain ⟨i, hi, rfl⟩ := List.mem_iff_getElem.1 hx
        have hik : i < k := by rw [hlk] at hi; exact hi
        have := hk2 i hik
        rw [List.getElem_take]
        simpa using this)
      conv => rhs; rw [e, List.filter_append, List.filter_append, h3]
      have : [xs[k]].filter (fun x => !f x) = [] := by rw [List.filter_cons]; simp [hk1]
      rw [this, List.nil_append]
    rw [hfil] at hG
    have hG' : loop slices_DeleteFunc__impl_RayPair_impl_RayPair_l0 (xs, (), (del, ()), (k : Int), ((k + 1 : Nat) : Int), ()) = _ := hG
    simp only [hne, cond_false, hw, hG', Option.bind_some, Int.toNat_natCast]
    generalize xs.filter (fun x => !f x) = F
    have c1 : (((decide ((0 : Int) ≤ ((F.length : Nat) : Int))) && (decide (((F.length : Nat) : Int) ≤ (((F ++ G).length : Nat) : Int)))) && (decide ((((F ++ G).length : Nat) : Int) ≤ (((F ++ G).length : Nat) : Int)))) = true := by simp; omega
    have hcl : (Go.K.cleared (F ++ G) dP F.length (F ++ G).length) = F ++ List.replicate G.length dP := by
      unfold Go.K.cleared; simp
    have c2 : (((decide ((0 : Int) ≤ (0 : Int))) && (decide ((0 : Int) ≤ ((F.length : Nat) : Int)))) && (decide (((F.length : Nat) : Int) ≤ (((F ++ List.replicate G.length dP).length : Nat) : Int)))) = true := by simp; omega
    simp only [c1, cond_true, hcl, c2]
    have c3 : Nat.beq (0 : Int).toNat 0 = true := rfl
    rw [c3, cond_true]
    simp
theorem ordered_pr {xs : List Pr} (h : ∀ x ∈ xs, isA x.1) (hl : xs.length < 4611686018427387904) : Ordered (fun x y => impl_pairsOf_f2 x y) xs := by
  have he : ∀ x ∈ xs, ∀ y ∈ xs, impl_pairsOf_f2 x y = some (cmpA x.1 y.1) := fun x hx y hy => by
    unfold impl_pairsOf_f2
    rw [impl_compare (h x hx) (h y hy)]; rfl
  have key : ∀ x ∈ xs, ∀ y ∈ xs, ltO (fun x y => impl_pairsOf_f2 x y) x y = decide (val x.1 < val y.1) := by
    intro x hx y hy
    unfold ltO
    simp only [he x hx y hy]
    apply decide_eq_decide.2
    unfold cmpA
    rw [← lt_val (h x hx) (h y hy)]
    by_cases h1 : lt x.1 y.1
    · simp [h1]
    · by_cases h2 : lt y.1 x.1 <;> simp [h1, h2]
  refine ⟨hl, fun x hx y hy => ⟨_, he x hx y hy⟩, fun x hx => ?_, fun x hx y hy z hz h1 h2 => ?_, fun x hx y hy z hz h1 h2 => ?_⟩
  · rw [key x hx x hx]; exact decide_eq_false (by omega)
  · rw [key x hx y hy, decide_eq_true_eq] at h1
    rw [key y hy z hz, decide_eq_true_eq] at h2
    rw [key x hx z hz, decide_eq_true_eq]; omega
  · rw [key x hx y hy, decide_eq_false_iff_not] at h1
    rw [key y hy z hz, decide_eq_false_iff_not] at h2
    rw [key x hx z hz, decide_eq_false_iff_not]; omega
theorem erase_perm {α : Type} : ∀ {xs : List α} {i : Nat} (h : i < xs.length), (xs[i] :: xs.eraseIdx i).Perm xs
  | [], i, h => by simp at h
  | x :: xs, 0, h => List.Perm.refl _
  | x :: xs, i + 1, h => by
    have h' : i < xs.length := by simpa using h
    show (xs[i] :: x :: xs.eraseIdx i).Perm (x :: xs)
    exact (List.Perm.swap _ _ _).trans ((erase_perm h').cons x)
/-- What is joined comes behind what was there. -/
theorem join_app : ∀ {k : Nat} {ps : List (Nat × Nat)} {l : List Nat} {qs : List (Nat × Nat)}, joinN k ps l = some qs → ∃ new, qs = ps ++ new ∧ (∀ p ∈ new, p.1 ∈ l ∧ p.2 ∈ l) ∧ (new.flatMap fun p => [p.1, p.2]).Perm l
  | 0, ps, l, qs, h => by cases h
  | k + 1, ps, [], qs, h => by
    simp only [joinN, Option.some.injEq] at h
    exact ⟨[], by simp [h], by simp, by simp⟩
  | k + 1, ps, a :: rest, qs, h => by
    unfold joinN at h
    cases ht : takeF (freeN a ps) rest with
    | none => rw [ht] at h; cases h
    | some q =>
      obtain ⟨b, r⟩ := q
      rw [ht] at h
      simp only at h
      obtain ⟨new, h1, h2, h3⟩ := join_app h
      obtain ⟨hb, hr⟩ := takeF_sub ht
      refine ⟨(a, b) :: new, by rw [h1]; simp, fun p hp => ?_, ?_⟩
      · rcases List.mem_cons.1 hp with rfl | hp
        · exact ⟨by simp, by simp [hb]⟩
        · exact ⟨by simp [hr.subset (h2 p hp).1], by simp [hr.subset (h2 p hp).2]⟩
      · obtain ⟨j, _, j2, j3, j4⟩ := takeF_spec ht
        have hbp : (b :: r).Perm rest := by
          have : (rest[j] :: rest.eraseIdx j).Perm rest := erase_perm j2
          rw [j4] at this
          rw [getD_at j2] at j3
          rw [j3] at this
          exact this
        rw [List.flatMap_cons]
        show (a :: b :: new.flatMap fun p => [p.1, p.2]).Perm (a :: rest)
        exact ((h3.cons b).trans hbp).cons a
noncomputable def NP (n : Nat) : List (Nat × Nat) := (UP n).drop (UP (n - 1)).length
theorem UP_new {n : Nat} (h : n + 2 ≤ 8) : UP (n + 2) = UP (n + 1) ++ NP (n + 2) ∧ (∀ p ∈ NP (n + 2), p.1 ∈ AN (n + 2) ∧ p.2 ∈ AN (n + 2)) ∧ ((NP (n + 2)).flatMap fun p => [p.1, p.2]).Perm (AN (n + 2)) := by
  obtain ⟨new, h1, h2, h3⟩ := join_app (UP_join h)
  have : NP (n + 2) = new := by unfold NP; rw [h1]; simp
  rw [this]
  exact ⟨h1, h2, h3⟩
theorem period_AN {n N : Nat} (h1 : 1 ≤ n) (h8 : n ≤ 8) (h : N ∈ AN n) : pg (aN N) = n := by
  obtain ⟨j, hj, rfl⟩ := List.mem_map.1 h
  have hj1 := List.mem_filter.1 hj
  have hj2 : j < 2 ^ n - 1 := List.mem_range.1 hj1.1
  rw [aN_of h1 h8, pg_perJ h1 h8 hj2]
  exact Nat.eq_of_beq_eq_true hj1.2
theorem UP_mem : ∀ {n : Nat}, n ≤ 8 → ∀ p, p ∈ UP n ↔ ∃ k, 2 ≤ k ∧ k ≤ n ∧ p ∈ NP k
  | 0, _, p => by
    have : UP 0 = [] := by simp [UP, upToN]
    rw [this]
    constructor
    · intro h; cases h
    · rintro ⟨k, h1, h2, _⟩; omega
  | 1, _, p => by
    have : UP 1 = [] := by simp [UP, upToN]
    rw [this]
    constructor
    · intro h; cases h
    · rintro ⟨k, h1, h2, _⟩; omega
  | n + 2, h, p => by
    rw [(UP_new h).1, List.mem_append, UP_mem (n := n + 1) (by omega)]
    constructor
    · rintro (⟨k, h1, h2, h3⟩ | h1)
      · exact ⟨k, h1, by omega, h3⟩
      · exact ⟨n + 2, by omega, by omega, h1⟩
    · rintro ⟨k, h1, h2, h3⟩
      by_cases hk : k = n + 2
      · subst hk; exact .inr h3
      · exact .inl ⟨k, h1, by omega, h3⟩
theorem NP_mem {k : Nat} (h2 : 2 ≤ k) (h8 : k ≤ 8) {p : Nat × Nat} (h : p ∈ NP k) : p.1 ∈ AN k ∧ p.2 ∈ AN k ∧ okP p := by
  obtain ⟨n, rfl⟩ : ∃ n, k = n + 2 := ⟨k - 2, by omega⟩
  obtain ⟨a1, a2, _⟩ := UP_new h8
  exact ⟨(a2 p h).1, (a2 p h).2, (UP_ok h8).1 p (by rw [a1]; simp [h])⟩
theorem UP_period {n : Nat} (h8 : n ≤ 8) {p : Nat × Nat} (h : p ∈ UP n) : ∃ k, 2 ≤ k ∧ k ≤ n ∧ p ∈ NP k ∧ pg (aN p.1) = k ∧ pg (aN p.2) = k ∧ okP p := by
  obtain ⟨k, k1, k2, k3⟩ := (UP_mem h8 p).1 h
  obtain ⟨a1, a2, a3⟩ := NP_mem k1 (by omega) k3
  exact ⟨k, k1, k2, k3, period_AN (by omega) (by omega) a1, period_AN (by omega) (by omega) a2, a3⟩
def srtd (ys : List Pr) : Prop := ys.Pairwise fun a b => val a.1 ≤ val b.1
theorem impl_pairs {n : Nat} (h2 : 2 ≤ n) (h8 : n ≤ 8) : ∃ ys, impl_pairsOf (n : Int) = some ys ∧ ys.Perm ((NP n).map aP) ∧ srtd ys := by
  obtain ⟨m, rfl⟩ : ∃ m, n = m + 2 := ⟨n - 2, by omega⟩
  obtain ⟨g1, g2⟩ := UP_ok h8
  have hf : ∀ x ∈ (UP (m + 2)).map aP, impl_pairsOf_f1 x ((m + 2 : Nat) : Int) = some (!decide (pg x.1 = m + 2)) := by
    intro x hx
    obtain ⟨p, hp, rfl⟩ := List.mem_map.1 hx
    have ha := (g1 p hp).1.2.1
    unfold impl_pairsOf_f1
    rw [impl_period (a := (aP p).1) ha]
    simp only [Option.bind_some]
    congr 1
    by_cases hq : pg (aP p).1 = m + 2
    · rw [decide_eq_true hq, hq]; simp
    · rw [decide_eq_false hq]
      have : ¬ ((pg (aP p).1 : Nat) : Int) = ((m + 2 : Nat) : Int) := by omega
      simpa using this
  have hd := del_func hf (by rw [List.length_map]; omega)
  have hfil : ((UP (m + 2)).map aP).filter (fun x => !(!decide (pg x.1 = m + 2))) = (NP (m + 2)).map aP := by
    rw [(UP_new h8).1, List.map_append, List.filter_append]
    have e1 : ((UP (m + 1)).map aP).filter (fun x => !(!decide (pg x.1 = m + 2))) = [] := by
      rw [List.filter_eq_nil_iff]
      intro x hx
      obtain ⟨p, hp, rfl⟩ := List.mem_map.1 hx
      obtain ⟨k, k1, k2, _, k3, _⟩ := UP_period (by omega) hp
      have : ¬ pg (aP p).1 = m + 2 := by
        show ¬ pg (aN p.1) = m + 2
        omega
      simp [this]
    have e2 : ((NP (m + 2)).map aP).filter (fun x => !(!decide (pg x.1 = m + 2))) = (NP (m + 2)).map aP := by
      rw [List.filter_eq_self]
      intro x hx
      obtain ⟨p, hp, rfl⟩ := List.mem_map.1 hx
      have := period_AN (by omega) h8 (NP_mem (by omega) h8 hp).1
      have h3 : pg (aP p).1 = m + 2 := this
      simp [h3]
    rw [e1, e2, List.nil_append]
  have hlen : (NP (m + 2)).length < 100000 := by
    have := g2
    rw [(UP_new h8).1, List.length_append] at this
    omega
  have hA : ∀ x ∈ (NP (m + 2)).map aP, isA x.1 := by
    intro x hx
    obtain ⟨p, hp, rfl⟩ := List.mem_map.1 hx
    exact (NP_mem (by omega) h8 hp).2.2.1.2.1
  obtain ⟨ys, y1, y2, y3⟩ := sortOf_ok (ordered_pr hA (by rw [List.length_map]; omega))
  refine ⟨ys, ?_, y2, ?_⟩
  · unfold impl_pairsOf
    rw [impl_upTo h8]
    simp only [Option.bind_some]
    rw [hd]
    simp only [Option.bind_some]
    rw [hfil]
    unfold slices_SortFunc__impl_RayPair_impl_RayPair
    rw [y1]; rfl
  · refine List.Pairwise.imp_of_mem ?_ y3
    intro a b ha hb hab
    have a1 := hA a (y2.subset ha)
    have b1 := hA b (y2.subset hb)
    unfold ltO impl_pairsOf_f2 at hab
    simp only [impl_compare b1 a1, Option.bind_some, decide_eq_false_iff_not] at hab
    unfold cmpA at hab
    have := lt_val b1 a1
    by_cases hl : lt b.1 a.1
    · simp [hl] at hab
    · have := mt this.2 hl
      omega
end Go.K.Pure

/- Plain laws of ray pairs, part Ja: digits and periods. -/
set_option linter.all false
namespace Go.K.Pure
open Classical
theorem dbl_val2 {a : Ang} (h : isA a) : val (dbl a) = 2 * val a - (if a.2.1 ≤ 2 * a.1 then KK else 0) := by
  have hK := KK_pos
  obtain ⟨n, d, rfl, h1, h2, h3, h4⟩ := isA_nat h
  have ha : val ((n : Int), (d : Int), ()) * (d : Int) = (n : Int) * KK := by
    have := KK_div h
    simp only at this
    unfold val
    simp only
    rw [Int.mul_assoc, Int.mul_comm _ (d : Int), this]
  rw [dbl_nat, ← angN_mod]
  have hv := val_angN (n := 2 * n % d) h1 h2 (Nat.mod_lt _ (by omega))
  generalize val (angN (2 * n % d) d) = u at *
  generalize val ((n : Int), (d : Int), ()) = v at *
  have hd0 : (d : Int) ≠ 0 := by omega
  apply Int.eq_of_mul_eq_mul_right hd0
  rw [hv, Int.sub_mul, Int.mul_assoc, ha]
  by_cases hc : 2 * n < d
  · rw [Nat.mod_eq_of_lt hc, if_neg (by simp only; omega)]
    push_cast; rw [Int.mul_assoc]; omega
  · rw [Nat.mod_eq_sub_mod (by omega), Nat.mod_eq_of_lt (by omega), if_pos (by simp only; omega)]
    rw [Int.ofNat_sub (by omega), Int.sub_mul, Int.mul_comm KK]
    push_cast; rw [Int.mul_assoc]
def dgt (x : Ang) : UInt8 := if x.2.1 ≤ 2 * x.1 then 49 else 48
theorem dgt_iff (x : Ang) : dgt x = 49 ↔ x.2.1 ≤ 2 * x.1 := by
  unfold dgt
  split
  · simp [*]
  · constructor
    · intro h; cases h
    · intro h; contradiction
theorem dgt_or (x : Ang) : dgt x = 49 ∨ dgt x = 48 := by unfold dgt; split <;> simp
theorem dgt_val {x y : Ang} (hx : isA x) (hy : isA y) (h : dgt x = dgt y) : val (dbl x) - val (dbl y) = 2 * (val x - val y) := by
  rw [dbl_val2 hx, dbl_val2 hy]
  have e := (dgt_iff x).symm.trans ((by rw [h] : dgt x = 49 ↔ dgt y = 49).trans (dgt_iff y))
  by_cases hc : x.2.1 ≤ 2 * x.1
  · rw [if_pos hc, if_pos (e.1 hc)]; omega
  · rw [if_neg hc, if_neg (fun h => hc (e.2 h))]; omega
theorem dblN_add (a : Ang) (n : Nat) : ∀ m, dblN (dblN a n) m = dblN a (n + m)
  | 0 => rfl
  | m + 1 => by
    show dbl (dblN (dblN a n) m) = dbl (dblN a (n + m))
    rw [dblN_add a n m]
/-- The digits tell the angle. -/
theorem dgt_inj {x y : Ang} (hx : isA x) (hy : isA y) (h : ∀ i, dgt (dblN x i) = dgt (dblN y i)) : x = y := by
  have key : ∀ k, val (dblN x k) - val (dblN y k) = 2 ^ k * (val x - val y) := by
    intro k
    induction k with
    | zero => simp [dblN]
    | succ k ih =>
      show val (dbl (dblN x k)) - val (dbl (dblN y k)) = _
      rw [dgt_val (dblN_isA hx k) (dblN_isA hy k) (h k), ih, Int.pow_succ]
      rw [Int.mul_comm (2 ^ k) 2, Int.mul_assoc]
  apply val_inj hx hy
  have hk := key KK.toNat
  have b1 := val_nonneg (dblN_isA hx KK.toNat)
  have b2 := val_lt_KK (dblN_isA hx KK.toNat)
  have b3 := val_nonneg (dblN_isA hy KK.toNat)
  have b4 := val_lt_KK (dblN_isA hy KK.toNat)
  have hp : KK < (2 : Int) ^ KK.toNat := by
    have := Nat.lt_two_pow_self (n := KK.toNat)
    have hK := KK_pos
    have e : ((2 ^ KK.toNat : Nat) : Int) = (2 : Int) ^ KK.toNat := by push_cast; rfl
    omega
  generalize (2 : Int) ^ KK.toNat = E at *
  generalize hDe : val x - val y = D at *
  generalize val (dblN x KK.toNat) = u at *
  generalize val (dblN y KK.toNat) = v at *
  have hK := KK_pos
  by_cases hD : D = 0
  · omega
  · exfalso
    rcases Int.lt_or_lt_of_ne hD with h1 | h1
    · have : E * D ≤ E * (-1) := Int.mul_le_mul_of_nonneg_left (by omega) (by omega)
      omega
    · have : E * 1 ≤ E * D := Int.mul_le_mul_of_nonneg_left (by omega) (by omega)
      omega
def WD (a : Ang) (p : Nat) : List UInt8 := tab (fun i => dgt (dblN a i)) p
theorem WD_len {a : Ang} {p : Nat} : (WD a p).length = p := tab_len
theorem WD_at {a : Ang} {p i : Nat} (h : i < p) : (WD a p).getD i 0 = dgt (dblN a i) := tab_at h
section
variable {a : Ang} {p : Nat} (hp : dblN a p = a)
include hp
theorem dblN_per : ∀ k, dblN a (k + p) = dblN a k := fun k => by
  have := dblN_add a p k
  rw [hp] at this
  rw [Nat.add_comm, ← this]
theorem dblN_mod (k : Nat) : dblN a (k % p) = dblN a k := by
  have : ∀ q r, dblN a (r + p * q) = dblN a r := by
    intro q
    induction q with
    | zero => intro r; rw [Nat.mul_zero, Nat.add_zero]
    | succ q ih => intro r; rw [Nat.mul_succ, ← Nat.add_assoc, dblN_per hp, ih]
  have h2 := this (k / p) (k % p)
  rw [Nat.mod_add_div] at h2
  exact h2.symm
end
theorem repeatL_at (l : List UInt8) : ∀ (c i : Nat), i < c * l.length → (Lib.repeatL l c).getD i 0 = l.getD (i % l.length) 0
  | 0, i, h => by omega
  | c + 1, i, h => by
    show (l ++ Lib.repeatL l c).getD i 0 = _
    by_cases hi : i < l.length
    · rw [app_getD' hi, Nat.mod_eq_of_lt hi]
    · rw [List.getD_eq_getElem?_getD, List.getElem?_append_right (by omega), ← List.getD_eq_getElem?_getD, repeatL_at l c (i - l.length) (by rw [Nat.succ_mul] at h; omega)]
      rw [← Nat.mod_eq_sub_mod (by omega)]
/-- The digits of a period are no repeat of a shorter word. -/
theorem WD_prim {a : Ang} (h : isA a) {p n : Nat} (hp : dblN a p = a) (hmin : ∀ k, 0 < k → k < p → dblN a k ≠ a) (h1 : 1 ≤ n) (hn : n < p) (hd : n ∣ p) : Lib.repeatL ((WD a p).take n) (p / n) ≠ WD a p := by
  intro he
  refine hmin n (by omega) hn (dgt_inj (dblN_isA h n) h fun i => ?_)
  have hl : ((WD a p).take n).length = n := by rw [List.length_take, WD_len]; omega
  have key : ∀ i, i < p → dgt (dblN a i) = dgt (dblN a (i % n)) := by
    intro i hi
    have hin : i % n < n := Nat.mod_lt _ (by omega)
    have e1 := repeatL_at ((WD a p).take n) (p / n) i (by rw [hl, Nat.div_mul_cancel hd]; exact hi)
    rw [he, WD_at hi, hl] at e1
    rw [e1, List.getD_eq_getElem?_getD, List.getElem?_take, if_pos hin, ← List.getD_eq_getElem?_getD, WD_at (by omega)]
  have key2 : ∀ i, dgt (dblN a i) = dgt (dblN a (i % n)) := by
    intro i
    rw [← dblN_mod hp i, key (i % p) (Nat.mod_lt _ (by omega)), Nat.mod_mod_of_dvd _ hd]
  rw [dblN_add, key2 (n + i), key2 i, Nat.add_mod_left]
/-- A word's shortest root. -/
theorem ob_per {a : Ang} (h : isA a) (h1 : 1 ≤ pg a) : ob a = (orbL a (pg a), (0 : Int), true) := by
  have e := ps_pg h
  have hps : ps a = pg a := by split at e <;> omega
  unfold ps at hps
  split at hps
  · rename_i hc
    obtain ⟨m, m1, m2, m3, m4, m5⟩ := ob_ok2 h hc.1
    rw [m5] at hps ⊢
    simp only [orbL_len] at hps
    rw [hps, hc.2]; rfl
  · omega
theorem tab_succ {α : Type} {g : Nat → α} {n : Nat} : tab g (n + 1) = tab g n ++ [g n] := by simp [tab, List.range_succ]
section
variable {a : Ang} (h : isA a) (h1 : 1 ≤ pg a)
include h h1
theorem pg_back : pg a ≤ 8 ∧ dblN a (pg a) = a ∧ ∀ k, 0 < k → k < pg a → dblN a k ≠ a := by
  rcases pg_spec a with ⟨p, _⟩ | ⟨_, p2, p3, p4⟩
  · omega
  · exact ⟨p2, p3, p4⟩
end
end Go.K.Pure

/- Plain laws of ray pairs, part La: angles of a period. -/
set_option linter.all false
namespace Go.K.Pure
open Classical
/-- An angle of period `n`. -/
structure isP (a : Ang) (n : Nat) : Prop where
  isA : isA a
  per : pg a = n
  pos : 1 ≤ n
theorem isP.le {a : Ang} {n : Nat} (h : isP a n) : n ≤ 8 := by
  have := (pg_back h.isA (by rw [h.per]; exact h.pos)).1
  rw [h.per] at this; exact this
theorem isP.back {a : Ang} {n : Nat} (h : isP a n) : dblN a n = a := by
  have := (pg_back h.isA (by rw [h.per]; exact h.pos)).2.1
  rw [h.per] at this; exact this
structure isPP (p : Pr) (n : Nat) : Prop where
  a : isP p.1 n
  b : isP p.2.1 n
theorem UP_PP {n : Nat} (h8 : n ≤ 8) {x : Pr} (h : x ∈ (UP n).map aP) : ∃ k, 2 ≤ k ∧ k ≤ n ∧ isPP x k := by
  obtain ⟨p, hp, rfl⟩ := List.mem_map.1 h
  obtain ⟨k, k1, k2, k3, k4, k5, k6⟩ := UP_period h8 hp
  exact ⟨k, k1, k2, ⟨k6.1.2.1, k4, by omega⟩, ⟨k6.2.1.2.1, k5, by omega⟩⟩
theorem filter_step {α : Type} {f : α → Bool} {xs : List α} {i : Nat} {d : α} (h : i < xs.length) : (xs.take (i + 1)).filter f = (xs.take i).filter f ++ (if f (xs.getD i d) then [xs.getD i d] else []) := by
  rw [List.take_succ_eq_append_getElem h, List.filter_append, getD_at h]
  congr 1
  by_cases hf : f xs[i] = true
  · simp [hf]
  · simp [hf]
noncomputable def YS (n : Nat) : List Pr := (impl_pairsOf (n : Int)).getD []
theorem YS_ok {n : Nat} (h2 : 2 ≤ n) (h8 : n ≤ 8) : impl_pairsOf (n : Int) = some (YS n) ∧ (YS n).Perm ((NP n).map aP) ∧ srtd (YS n) := by
  obtain ⟨ys, y1, y2, y3⟩ := impl_pairs h2 h8
  have : YS n = ys := by unfold YS; rw [y1]; rfl
  rw [this]; exact ⟨y1, y2, y3⟩
theorem YS_PP {n : Nat} (h2 : 2 ≤ n) (h8 : n ≤ 8) {x : Pr} (h : x ∈ YS n) : isPP x n := by
  obtain ⟨p, hp, rfl⟩ := List.mem_map.1 ((YS_ok h2 h8).2.1.subset h)
  obtain ⟨a1, a2, a3⟩ := NP_mem h2 h8 hp
  exact ⟨⟨a3.1.2.1, period_AN (by omega) h8 a1, by omega⟩, ⟨a3.2.1.2.1, period_AN (by omega) h8 a2, by omega⟩⟩
theorem YS_len {n : Nat} (h2 : 2 ≤ n) (h8 : n ≤ 8) : (YS n).length ≤ 2040 := by
  rw [(YS_ok h2 h8).2.1.length_eq, List.length_map]
  obtain ⟨m, rfl⟩ : ∃ m, n = m + 2 := ⟨n - 2, by omega⟩
  have := (UP_ok h8).2
  rw [(UP_new h8).1, List.length_append] at this
  omega
theorem UP_pre : ∀ {n m : Nat}, n ≤ m → m ≤ 8 → ∃ r, UP m = UP n ++ r
  | n, 0, h, _ => ⟨[], by have : n = 0 := by omega
                          subst this; simp⟩
  | n, m + 1, h, h8 => by
    by_cases e : n = m + 1
    · subst e; exact ⟨[], by simp⟩
    · obtain ⟨r, hr⟩ := UP_pre (n := n) (m := m) (by omega) (by omega)
      cases m with
      | zero => have : n = 0 := by omega
                subst this; exact ⟨UP 1, by rw [show UP 0 = [] from rfl]; rfl⟩
      | succ m =>
        have := (UP_new h8).1
        exact ⟨r ++ NP (m + 2), by rw [this, hr, List.append_assoc]⟩
end Go.K.Pure

/- Plain laws of ray pairs, part Q: lists of angles. -/
set_option linter.all false
namespace Go.K.Pure
open Classical
theorem impl_all {L : List Ang} (h : ∀ a ∈ L, InA a) (hl : L.length < 1000000) : impl_areAll_impl_Angle L = some (decide (∀ a ∈ L, isA a)) := by
  unfold impl_areAll_impl_Angle slices_ContainsFunc__impl_Angle_impl_Angle slices_IndexFunc__impl_Angle_impl_Angle
  have := loop_fidx (step := slices_IndexFunc__impl_Angle_impl_Angle_l0) (fun i => (L, (), (((), ()), ()), ((L.length : Nat) : Int), (i : Int), ())) L dA0 (fun a => !decide (isA a)) (fun i => ((i : Int), ())) (fun i hi => by
    have hm : L.getD i dA0 ∈ L := by rw [getD_at hi]; exact List.getElem_mem hi
    have hw : w64 ((i : Int) + 1) = ((i + 1 : Nat) : Int) := w64_succ (by omega)
    have hf : impl_areAll_impl_Angle_f1 (L.getD i dA0) = some (!decide (isA (L.getD i dA0))) := by
      unfold impl_areAll_impl_Angle_f1
      rw [impl_isA (h _ hm)]; rfl
    simp only [slices_IndexFunc__impl_Angle_impl_Angle_l0, ltb hi, cond_true, inb hi, Int.toNat_natCast, hf, Option.bind_some, hw, nn0 i, Bool.and_true, Bool.true_and]
    cases decide (isA (L.getD i dA0)) <;> rfl) (by
    simp only [slices_IndexFunc__impl_Angle_impl_Angle_l0, nltb (Nat.lt_irrefl _), cond_false])
  have e : loop slices_IndexFunc__impl_Angle_impl_Angle_l0 (L, (), (((), ()), ()), ((L.length : Nat) : Int), (0 : Int), ()) = _ := this
  rw [e]
  cases hf : L.findIdx? fun a => !decide (isA a) with
  | none =>
    have hn := List.findIdx?_eq_none_iff.1 hf
    have : ∀ a ∈ L, isA a := fun a ha => by
      have := hn a ha
      by_cases hA : isA a
      · exact hA
      · simp [hA] at this
    rw [decide_eq_true this]
    simp [alt]
  | some k =>
    obtain ⟨h1, h2, _⟩ := List.findIdx?_eq_some_iff_getElem.1 hf
    have : ¬ ∀ a ∈ L, isA a := fun hA => by
      have := hA _ (List.getElem_mem h1)
      rw [decide_eq_true this] at h2; cases h2
    rw [decide_eq_false this]
    simp [alt]
theorem impl_code {L : List Ang} (h : ∀ a ∈ L, InA a) (hl : L.length < 1000000) : impl_anglesCode L = some (if ∀ a ∈ L, isA a then 0 else 1) := by
  unfold impl_anglesCode
  rw [impl_all h hl]
  by_cases hA : ∀ a ∈ L, isA a
  · rw [decide_eq_true hA, if_pos hA]; rfl
  · rw [decide_eq_false hA, if_neg hA]; rfl
end Go.K.Pure

/- Plain laws of ray pairs, part 5: what is drawn. -/
set_option linter.all false
namespace Go.K.Pure
open Classical
abbrev Src := List Int × Int × Int × Unit
/-- A source: its place is not ahead of the code, and the code's bytes are bytes. -/
def okR (s : Src) : Prop := 0 ≤ s.2.1 ∧ s.1.length ≤ 4096 ∧ ∀ c ∈ s.1, 0 ≤ c ∧ c < 256
theorem mask_le (x : Int) : 0 ≤ wu64 (((BitVec.toNat (HAnd.hAnd (BitVec.ofInt 64 x) (BitVec.ofInt 64 (16777215 : Int)))) : Nat) : Int) ∧ wu64 (((BitVec.toNat (HAnd.hAnd (BitVec.ofInt 64 x) (BitVec.ofInt 64 (16777215 : Int)))) : Nat) : Int) ≤ 16777215 := by
  have h : (BitVec.toNat (HAnd.hAnd (BitVec.ofInt 64 x) (BitVec.ofInt 64 (16777215 : Int)))) ≤ 16777215 := by
    rw [BitVec.toNat_and]
    exact Nat.le_trans Nat.and_le_right (by decide)
  generalize (BitVec.toNat (HAnd.hAnd (BitVec.ofInt 64 x) (BitVec.ofInt 64 (16777215 : Int)))) = m at h
  have e : wu64 (m : Int) = (m : Int) := by
    simp only [wu64, IntKind.wrap, IntKind.bits, IntKind.signed]
    simp
    omega
  rw [e]; omega
theorem getD_byte {xs : List Int} (h : ∀ c ∈ xs, 0 ≤ c ∧ c < 256) {i : Nat} (hi : i < xs.length) : 0 ≤ xs.getD i 0 ∧ xs.getD i 0 < 256 := by
  rw [getD_at hi]; exact h _ (List.getElem_mem hi)
theorem next_ok {s : Src} (hs : okR s) (n : Int) : ∃ r s', spec_l01Next s n = some (r, s') ∧ okR s' ∧ (n < 1 → r = 0) ∧ (1 ≤ n → 0 ≤ r ∧ r < n) := by
  obtain ⟨code, at_, hash, ⟨⟩⟩ := s
  obtain ⟨h1, h2, h3⟩ := hs
  simp only at h1 h2 h3
  unfold spec_l01Next
  by_cases hn : n < 1
  · rw [decide_eq_true hn, cond_true]
    exact ⟨0, _, rfl, ⟨h1, h2, h3⟩, fun _ => rfl, fun h => by omega⟩
  rw [decide_eq_false hn, cond_false]
  have c0 : decide ((0 : Int) ≤ 33) = true := by decide
  have c1 : (n == 0) = false := by simp; omega
  obtain ⟨k, rfl⟩ := Int.eq_ofNat_of_zero_le h1
  simp only [c0, cond_true, c1, Bool.not_false]
  have hm := mask_le ((wu64 ((wu64 (hash * (6364136223846793005 : Int))) + (1442695040888963407 : Int))).fdiv ((2 : Int) ^ (min (33 : Int).toNat 64)))
  generalize wu64 (((BitVec.toNat (HAnd.hAnd (BitVec.ofInt 64 ((wu64 ((wu64 (hash * (6364136223846793005 : Int))) + (1442695040888963407 : Int))).fdiv ((2 : Int) ^ (min (33 : Int).toNat 64)))) (BitVec.ofInt 64 (16777215 : Int)))) : Nat) : Int) = x at hm
  by_cases hk : k < code.length
  · simp only [ltb hk, nn, Bool.and_self, cond_true, Int.toNat_natCast]
    have hb := getD_byte h3 hk
    generalize code.getD k 0 = b at hb
    rw [w64_id (n := x) (by omega) (by omega), w64_id (n := b) (by omega) (by omega), w64_id (n := x + b) (by omega) (by omega), w64_succ (by omega)]
    exact ⟨_, _, rfl, ⟨by simp only; omega, h2, h3⟩, fun h => absurd h hn, fun _ => ⟨Int.tmod_nonneg _ (by omega), Int.tmod_lt_of_pos _ (by omega)⟩⟩
  · simp only [nltb hk, cond_false]
    rw [w64_id (n := x) (by omega) (by omega)]
    exact ⟨_, _, rfl, ⟨by simp only; omega, h2, h3⟩, fun h => absurd h hn, fun _ => ⟨Int.tmod_nonneg _ (by omega), Int.tmod_lt_of_pos _ (by omega)⟩⟩
theorem pick_ok {s : Src} (hs : okR s) {xs : List Int} (hx : 0 < xs.length) (hl : xs.length ≤ 1000) : ∃ r s', spec_l01Pick s xs = some (r, s') ∧ okR s' ∧ r ∈ xs := by
  obtain ⟨r, s', h1, h2, _, h4⟩ := next_ok hs (xs.length : Int)
  obtain ⟨h5, h6⟩ := h4 (by omega)
  obtain ⟨k, rfl⟩ := Int.eq_ofNat_of_zero_le h5
  have hk : k < xs.length := by omega
  unfold spec_l01Pick
  rw [h1]
  simp only [Option.bind_some, ltb hk, nn, Bool.and_self, cond_true, Int.toNat_natCast]
  exact ⟨_, _, rfl, h2, by rw [getD_at hk]; exact List.getElem_mem hk⟩
theorem from_ok {code : List Int} (hl : code.length ≤ 4096) (hc : ∀ c ∈ code, 0 ≤ c ∧ c < 256) : ∃ s, spec_l01From code = some s ∧ okR s := by
  unfold spec_l01From
  obtain ⟨b, h1, h2⟩ := loop_inv (step := spec_l01From_l0) (fun st => ∃ (k : Nat) (h : Int), k ≤ code.length ∧ st = (code, (code, 0, h, ()), (k : Int), ())) (fun st => code.length - st.2.2.1.toNat) (fun b => ∃ h : Int, b = ((code, 0, h, ()), ())) (by
    rintro _ ⟨k, h, hk, rfl⟩
    by_cases hlt : k < code.length
    · right
      have c1 : decide ((k : Int) < 4096) = true := decide_eq_true (by omega)
      simp only [spec_l01From_l0, ltb hlt, nn, Bool.and_self, cond_true, c1]
      rw [w64_succ (by omega)]
      exact ⟨_, rfl, ⟨k + 1, _, by omega, rfl⟩, by simp; omega⟩
    · left
      exact ⟨_, by simp only [spec_l01From_l0, nltb hlt, cond_false], h, rfl⟩) (code, (code, (0 : Int), (wu64 ((11437 : Int) + (wu64 ((code.length : Nat) : Int)))), ()), (0 : Int), ()) ⟨0, _, by omega, rfl⟩
  obtain ⟨h, rfl⟩ := h2
  rw [h1]
  exact ⟨_, rfl, Int.le_refl _, hl, hc⟩
theorem draw_ok {s : Src} (hs : okR s) : ∃ a s', spec_l01Draw s = some (a, s') ∧ isA a ∧ okR s' := by
  unfold spec_l01Draw
  obtain ⟨d, s1, h1, h2, h3⟩ := pick_ok hs (xs := [(1 : Int), (3 : Int), (7 : Int), (15 : Int), (31 : Int), (63 : Int), (5 : Int), (9 : Int), (11 : Int), (13 : Int), (17 : Int), (21 : Int)]) (by simp) (by simp)
  have hd : 1 ≤ d ∧ d ≤ 63 := by
    simp only [List.mem_cons, List.not_mem_nil, or_false] at h3
    omega
  rw [h1]
  simp only [Option.bind_some]
  obtain ⟨c, s2, h4, h5, _⟩ := next_ok h2 5
  rw [h4]
  simp only [Option.bind_some]
  -- the last two steps, whatever the denominator is
  have fin : ∀ {s : Src} (hs : okR s) (e : Int), 1 ≤ e → e ≤ 8191 → ∃ a s', ((spec_l01Next s e).bind fun r3 => (spec_l01Of r3.1 e).bind fun r4 => some (r4, r3.2)) = some (a, s') ∧ isA a ∧ okR s' := by
    intro s hs e he1 he2
    obtain ⟨r, s', k1, k2, _, k4⟩ := next_ok hs e
    obtain ⟨k5, k6⟩ := k4 he1
    obtain ⟨n, rfl⟩ := Int.eq_ofNat_of_zero_le k5
    obtain ⟨m, rfl⟩ := Int.eq_ofNat_of_zero_le (show 0 ≤ e by omega)
    rw [k1]
    simp only [Option.bind_some]
    rw [spec_angN (by omega) (by omega) (by omega)]
    exact ⟨_, _, rfl, angN_isA (by omega) (by omega), k2⟩
  by_cases hc0 : (c == 0) = true
  · rw [hc0, cond_true]
    obtain ⟨f, s3, h6, h7, h8⟩ := pick_ok h5 (xs := [(2 : Int), (4 : Int), (8 : Int)]) (by simp) (by simp)
    have hf : f = 2 ∨ f = 4 ∨ f = 8 := by simpa using h8
    rw [h6]
    simp only [Option.bind_some]
    have he : 1 ≤ d * f ∧ d * f ≤ 504 := by rcases hf with rfl | rfl | rfl <;> omega
    rw [w64_id (n := d * f) (by omega) (by omega)]
    exact fin h7 (d * f) he.1 (by omega)
  · have hc0' : (c == 0) = false := by simpa using hc0
    rw [hc0', cond_false]
    by_cases hc1 : (c == 1) = true
    · rw [hc1, cond_true, w64_id (n := d * 2) (by omega) (by omega)]
      exact fin h5 (d * 2) (by omega) (by omega)
    · have hc1' : (c == 1) = false := by simpa using hc1
      rw [hc1', cond_false]
      exact fin h5 d hd.1 (by omega)
theorem bad_ok {s : Src} (hs : okR s) {a : Ang} (ha : isA a) : ∃ b s', spec_l01Bad s a = some (b, s') ∧ InA b ∧ okR s' := by
  obtain ⟨a1, a2, a3, a4, a5⟩ := ha
  unfold spec_l01Bad
  obtain ⟨c, s2, h4, h5, _⟩ := next_ok hs 40
  rw [h4]
  simp only [Option.bind_some]
  by_cases hc0 : (c == 0) = true
  · rw [hc0, cond_true, w64_id (n := a.2.1 + 1) (by omega) (by omega)]
    obtain ⟨f, s3, h6, h7, h8⟩ := pick_ok h5 (xs := [(-1 : Int), a.2.1, a.2.1 + 1, (1099511627776 : Int)]) (by simp) (by simp)
    rw [h6]
    refine ⟨_, _, rfl, ⟨?_, ?_⟩, h7⟩
    · simp only [List.mem_cons, List.not_mem_nil, or_false] at h8
      constructor <;> simp only <;> omega
    · constructor <;> simp only <;> omega
  · have hc0' : (c == 0) = false := by simpa using hc0
    rw [hc0', cond_false]
    by_cases hc1 : (c == 1) = true
    · rw [hc1, cond_true]
      obtain ⟨f, s3, h6, h7, h8⟩ := pick_ok h5 (xs := [(0 : Int), (-3 : Int), (8192 : Int), (1099511627776 : Int)]) (by simp) (by simp)
      rw [h6]
      refine ⟨_, _, rfl, ⟨?_, ?_⟩, h7⟩
      · constructor <;> simp only <;> omega
      · simp only [List.mem_cons, List.not_mem_nil, or_false] at h8
        constructor <;> simp only <;> omega
    · have hc1' : (c == 1) = false := by simpa using hc1
      rw [hc1', cond_false]
      by_cases hc2 : (c == 2) = true
      · rw [hc2, cond_true, w64_id (n := 2 * a.1) (by omega) (by omega), w64_id (n := 2 * a.2.1) (by omega) (by omega)]
        refine ⟨_, _, rfl, ⟨?_, ?_⟩, h5⟩ <;> constructor <;> simp only <;> omega
      · have hc2' : (c == 2) = false := by simpa using hc2
        rw [hc2', cond_false]
        refine ⟨_, _, rfl, ⟨?_, ?_⟩, h5⟩ <;> constructor <;> omega
theorem spoil_ok {s : Src} (hs : okR s) : ∃ b s', spec_l01Spoil s = some (b, s') ∧ InA b ∧ okR s' := by
  unfold spec_l01Spoil
  obtain ⟨a, s1, h1, h2, h3⟩ := draw_ok hs
  rw [h1]
  simp only [Option.bind_some]
  obtain ⟨b, s2, h4, h5, h6⟩ := bad_ok h3 h2
  rw [h4]
  exact ⟨_, _, rfl, h5, h6⟩
theorem inA_isA {a : Ang} (h : isA a) : InA a := by
  obtain ⟨h1, h2, h3, h4, _⟩ := h
  exact ⟨⟨by omega, by omega⟩, ⟨by omega, by omega⟩⟩
theorem drawRay_ok {s : Src} (hs : okR s) : ∃ a s', spec_l04Draw s = some (a, s') ∧ InA a ∧ okR s' := by
  unfold spec_l04Draw
  obtain ⟨n, s1, h1, h2, h3⟩ := pick_ok hs (xs := [(2 : Int), 3, 4, 5, 5, 6, 7, 8]) (by simp) (by simp)
  rw [h1]
  simp only [Option.bind_some]
  have hn : ∃ k : Nat, n = (k : Int) ∧ 2 ≤ k ∧ k ≤ 8 := by
    simp only [List.mem_cons, List.not_mem_nil, or_false] at h3
    exact ⟨n.toNat, by omega, by omega, by omega⟩
  obtain ⟨k, rfl, k2, k8⟩ := hn
  have hc : decide ((0 : Int) ≤ wu64 (k : Int)) = true := by rw [wu_small k8]; exact nn0 k
  rw [hc, cond_true]
  obtain ⟨r, s2, h4, h5, _, _⟩ := next_ok h2 12
  rw [h4]
  simp only [Option.bind_some]
  by_cases hr : r = 0
  · have : (r == 0) = true := by rw [hr]; rfl
    rw [this, cond_true]
    obtain ⟨b, s3, h6, h7, h8⟩ := spoil_ok h5
    rw [h6]
    exact ⟨b, s3, rfl, h7, h8⟩
  · have : (r == 0) = false := by simpa using hr
    obtain ⟨f1, f2⟩ := den_facts (n := k) (by omega) k8
    rw [this, cond_false, wu_small k8, den_w (n := k) (by omega) k8]
    obtain ⟨m, s3, h6, h7, _, h8⟩ := next_ok h5 ((2 ^ k - 1 : Nat) : Int)
    obtain ⟨m1, m2⟩ := h8 (by omega)
    obtain ⟨j, rfl⟩ := Int.eq_ofNat_of_zero_le m1
    rw [h6]
    simp only [Option.bind_some]
    rw [spec_angN (by omega) (by omega) (by omega)]
    exact ⟨_, _, rfl, inA_isA (angN_isA f1 (by omega)), h7⟩
end Go.K.Pure

/- Plain laws of ray pairs, part 7n: the pairs of a period are pairs of it. -/
set_option linter.all false
namespace Go.K.Pure
open Classical
theorem NP_PP {n : Nat} (h2 : 2 ≤ n) (h8 : n ≤ 8) {x : Pr} (h : x ∈ (NP n).map aP) : isPP x n ∧ lt x.1 x.2.1 := by
  obtain ⟨p, hp, rfl⟩ := List.mem_map.1 h
  obtain ⟨a1, a2, a3⟩ := NP_mem h2 h8 hp
  exact ⟨⟨⟨a3.1.2.1, period_AN (by omega) h8 a1, by omega⟩, ⟨a3.2.1.2.1, period_AN (by omega) h8 a2, by omega⟩⟩, (okP_isL a3).2.2⟩
end Go.K.Pure

