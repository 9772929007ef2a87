/- What each function of the program gives, as a plain function, with the proof that it gives it; no condition. -/
import Derived.Test.YtfdbhigklhinaaaP1
import Derived.Test.YtfdbhigklhinaaaS1
import Derived.Test.YtfdbhigklhinaaaK3
import Derived.Test.YtfdbhigklhinaaaRows
import Derived.Shelf.Lay
import Derived.Ground.SlsfProg
set_option linter.all false
set_option maxRecDepth 100000
set_option linter.all false
namespace Go.Proofs
open Go.Shelf
def Try.sortL103_ren : Go.Shelf.Ren := ⟨fun | 6 => 103 | 15 => 107 | 14 => 106 | 28 => 116 | 29 => 117 | 20 => 108 | 21 => 109 | 22 => 110 | 23 => 111 | 24 => 112 | 25 => 113 | 26 => 114 | 27 => 115 | 46 => 118 | 47 => 119 | 48 => 120 | 49 => 121 | 50 => 122 | 57 => 123 | n => n, fun | 22 => 36 | 24 => 32 | 25 => 92 | 3 => 3 | 39 => 101 | 0 => 0 | 53 => 111 | 55 => 113 | 4 => 4 | 46 => 104 | 45 => 103 | 50 => 108 | 5 => 5 | 9 => 9 | 66 => 114 | 70 => 118 | 76 => 120 | 77 => 83 | n => n, fun | n => n⟩
theorem Try.sortL103 : Go.Proofs.SlLaysF0.n6 Try.prog Try.sortL103_ren := {
  mixed := by kernel_rfl
  f6 := ⟨ "slices.SortFunc[[]loop.example/g01234/impl.Angle,loop.example/g01234/impl.Angle]", by decide, Try.func103.trans (congrArg some (by kernel_rfl))⟩
  f14 := ⟨ "slices.pdqsortCmpFunc[loop.example/g01234/impl.Angle]", by decide, Try.func106.trans (congrArg some (by kernel_rfl))⟩
  f15 := Try.func107.trans (congrArg some (by kernel_rfl))
  f20 := ⟨ "slices.insertionSortCmpFunc[loop.example/g01234/impl.Angle]", by decide, Try.func108.trans (congrArg some (by kernel_rfl))⟩
  f21 := ⟨ "slices.heapSortCmpFunc[loop.example/g01234/impl.Angle]", by decide, Try.func109.trans (congrArg some (by kernel_rfl))⟩
  f22 := ⟨ "slices.breakPatternsCmpFunc[loop.example/g01234/impl.Angle]", by decide, Try.func110.trans (congrArg some (by kernel_rfl))⟩
  f23 := ⟨ "slices.choosePivotCmpFunc[loop.example/g01234/impl.Angle]", by decide, Try.func111.trans (congrArg some (by kernel_rfl))⟩
  f24 := ⟨ "slices.reverseRangeCmpFunc[loop.example/g01234/impl.Angle]", by decide, Try.func112.trans (congrArg some (by kernel_rfl))⟩
  f25 := ⟨ "slices.partialInsertionSortCmpFunc[loop.example/g01234/impl.Angle]", by decide, Try.func113.trans (congrArg some (by kernel_rfl))⟩
  f26 := ⟨ "slices.partitionEqualCmpFunc[loop.example/g01234/impl.Angle]", by decide, Try.func114.trans (congrArg some (by kernel_rfl))⟩
  f27 := ⟨ "slices.partitionCmpFunc[loop.example/g01234/impl.Angle]", by decide, Try.func115.trans (congrArg some (by kernel_rfl))⟩
  f28 := Try.func116.trans (congrArg some (by kernel_rfl))
  f29 := Try.func117.trans (congrArg some (by kernel_rfl))
  f46 := ⟨ "slices.siftDownCmpFunc[loop.example/g01234/impl.Angle]", by decide, Try.func118.trans (congrArg some (by kernel_rfl))⟩
  f47 := Try.func119.trans (congrArg some (by kernel_rfl))
  f48 := Try.func120.trans (congrArg some (by kernel_rfl))
  f49 := ⟨ "slices.medianAdjacentCmpFunc[loop.example/g01234/impl.Angle]", by decide, Try.func121.trans (congrArg some (by kernel_rfl))⟩
  f50 := ⟨ "slices.medianCmpFunc[loop.example/g01234/impl.Angle]", by decide, Try.func122.trans (congrArg some (by kernel_rfl))⟩
  f57 := ⟨ "slices.order2CmpFunc[loop.example/g01234/impl.Angle]", by decide, Try.func123.trans (congrArg some (by kernel_rfl))⟩
  t0 := Try.underlying0
  a0 := Try.isAgg0
  z0 := Try.sizeOf0
  v0 := Try.zeroValue0
  t3 := Try.underlying3
  a3 := Try.isAgg3
  z3 := Try.sizeOf3
  v3 := Try.zeroValue3
  t4 := Try.underlying4
  a4 := Try.isAgg4
  z4 := Try.sizeOf4
  v4 := Try.zeroValue4
  t5 := Try.underlying5
  a5 := Try.isAgg5
  z5 := Try.sizeOf5
  v5 := Try.zeroValue5
  t9 := Try.underlying9
  a9 := Try.isAgg9
  z9 := Try.sizeOf9
  v9 := Try.zeroValue9
  t22 := Try.underlying36
  a22 := Try.isAgg36
  z22 := Try.sizeOf36
  v22 := Try.zeroValue36
  t25 := Try.underlying92
  a25 := Try.isAgg92
  z25 := Try.sizeOf92
  v25 := Try.zeroValue92
  t39 := Try.underlying101
  a39 := Try.isAgg101
  z39 := Try.sizeOf101
  v39 := Try.zeroValue101
  t45 := Try.underlying103
  a45 := Try.isAgg103
  z45 := Try.sizeOf103
  v45 := Try.zeroValue103
  t46 := Try.underlying104
  a46 := Try.isAgg104
  z46 := Try.sizeOf104
  v46 := Try.zeroValue104
  t50 := Try.underlying108
  a50 := Try.isAgg108
  z50 := Try.sizeOf108
  v50 := Try.zeroValue108
  t53 := Try.underlying111
  a53 := Try.isAgg111
  z53 := Try.sizeOf111
  v53 := Try.zeroValue111
  t55 := Try.underlying113
  a55 := Try.isAgg113
  z55 := Try.sizeOf113
  v55 := Try.zeroValue113
  t66 := Try.underlying114
  a66 := Try.isAgg114
  z66 := Try.sizeOf114
  v66 := Try.zeroValue114
  t70 := Try.underlying118
  a70 := Try.isAgg118
  z70 := Try.sizeOf118
  v70 := Try.zeroValue118
  t76 := Try.underlying120
  a76 := Try.isAgg120
  z76 := Try.sizeOf120
  v76 := Try.zeroValue120
  t77 := Try.underlying83
  a77 := Try.isAgg83
  z77 := Try.sizeOf83
  v77 := Try.zeroValue83 }
end Go.Proofs
namespace Go.K.Link
open Go.K.Pure
def tyList : List (Nat × Ty) := [(2, .int .i64), (3, .int .i64), (4, .bool), (5, .int .u8), (6, .int .u8), (7, .pair (.int .i64) (.pair (.int .i64) (.pair (.bool) (.pair (.int .u8) (.unit))))), (8, .pair (.int .i64) (.pair (.int .i64) (.pair (.bool) (.pair (.int .u8) (.unit))))), (9, .str), (10, .str), (11, .str), (12, .int .u64), (21, .int .i32), (22, .sl 48 (.sl 42 (.pair (.int .i64) (.pair (.int .i64) (.unit))))), (26, .sl 36 (.sl 32 (.pair (.int .i64) (.pair (.int .i64) (.unit))))), (31, .pair (.int .i64) (.pair (.int .i64) (.unit))), (32, .pair (.int .i64) (.pair (.int .i64) (.unit))), (36, .sl 32 (.pair (.int .i64) (.pair (.int .i64) (.unit)))), (42, .pair (.int .i64) (.pair (.int .i64) (.unit))), (48, .sl 42 (.pair (.int .i64) (.pair (.int .i64) (.unit)))), (69, .sl 70 (.arr 2 (.pair (.int .i64) (.pair (.int .i64) (.unit))))), (70, .arr 2 (.pair (.int .i64) (.pair (.int .i64) (.unit)))), (86, .sl 4 (.bool)), (101, .int .u64), (103, .int .i64), (111, .int .u32), (113, .int .u64), (114, .int .u64), (118, .ptr (.int .i64)), (120, .ptr (.int .u64)), (129, .int .u8), (130, .int .u8), (132, .ptr (.int .u8)), (133, .int .i32), (134, .int .i32)]
def byList : List (Nat × Nat) := [(22, 24), (26, 24), (36, 16), (48, 16), (69, 32), (86, 1)]
def ftyList : List Nat := [1, 23, 25, 27, 28, 29, 30, 34, 35, 38, 39, 40, 41, 44, 45, 46, 47, 49, 50, 51, 52, 53, 54, 55, 56, 57, 59, 60, 61, 62, 64, 65, 67, 68, 71, 72, 73, 74, 75, 76, 77, 78, 79, 80, 81, 82, 84, 85, 87, 88, 89, 90, 91, 92, 93, 94, 95, 96, 97, 98, 99, 100, 102, 105, 106, 107, 109, 110, 112, 115, 116, 117, 119, 121, 122, 128, 131]
def etList : List (Nat × Nat) := [(22, 48), (26, 36), (36, 32), (48, 42), (69, 70), (86, 4)]
def fieldList : List (Nat × List Nat) := [(7, [2, 3, 4, 6]), (8, [2, 3, 4, 6]), (13, [9, 12]), (14, [9, 12]), (18, [17]), (19, [17]), (31, [2, 2]), (32, [2, 2]), (42, [2, 2]), (123, [17, 17, 17, 9]), (124, [17, 17, 17, 9]), (126, [125]), (127, [125]), (135, [12, 12, 111, 129, 5, 5, 130, 131, 132, 133, 134]), (136, [12, 12, 111, 129, 5, 5, 130, 131, 132, 133, 134])]
def seat : Seat := seatOf tyList byList ftyList fieldList etList
theorem seatOK : SeatOK Go.Proofs.Try.prog seat := seat_ok (by kernel_rfl) (by kernel_rfl) (by kernel_rfl) (by kernel_rfl)
noncomputable def laws_FnExactPortraitThatFails_code : Code := (Go.Proofs.Try.f3.body).getD .skip
def laws_FnExactPortraitThatFails_c : Cfg := ⟨3, [], [], [], []⟩
noncomputable def laws_szAngleSS_code : Code := (Go.Proofs.Try.f9.body).getD .skip
def laws_szAngleSS_c : Cfg := ⟨9, [], [[0, 1, 5], [1], [4]], [], []⟩
noncomputable def laws_szAngleS_code : Code := (Go.Proofs.Try.f31.body).getD .skip
def laws_szAngleS_c : Cfg := ⟨31, [], [], [], []⟩
noncomputable def laws_szAngleS_s : Spec := ⟨[.v (.sl 42 (.pair (.int .i64) (.pair (.int .i64) (.unit)))) .fr, .v (.int .i64) .fr], Int, fun v => laws_szAngleS v.1 v.2.1, fun r => ([.v (.int .i64) .fr r], [])⟩
noncomputable def laws_szAngleS_ls : List LSum := []
noncomputable def laws_szAngleS_tab : List Row := []
theorem laws_szAngleS_t : ∀ r, r ∈ laws_szAngleS_tab → RowIs Go.Proofs.Try.prog r := tab_nil
theorem laws_szAngleS_rs : RoundsOK (mkCtx Go.K.Link.seat laws_szAngleS_c laws_szAngleS_tab) (sums laws_szAngleS_ls) (loopsOf 0 laws_szAngleS_code) laws_szAngleS_ls := trivial
theorem laws_szAngleS_e : ∀ v, (evFn (mkCtx Go.K.Link.seat laws_szAngleS_c laws_szAngleS_tab) (sums laws_szAngleS_ls) 31 Go.Proofs.Try.f31 (encL laws_szAngleS_s.a v)).run = (laws_szAngleS_s.gen v).bind fun y => some (laws_szAngleS_s.out y) := by
  rintro ⟨a, ⟨left, _⟩⟩
  show _ = (laws_szAngleS a left).bind fun y : Int => some (laws_szAngleS_s.out y)
  simp only [laws_szAngleS, kb_ite, kb_some, kb_none, kb_bind, kb_alt]
  kernel_rfl
theorem laws_szAngleS_is : FnIs Go.Proofs.Try.prog 31 (modeOf []) (phi [laws_szAngleS_s]) := spec_is (c := laws_szAngleS_c) seatOK laws_szAngleS_t Go.Proofs.Try.func31 rfl (code := laws_szAngleS_code) rfl rfl laws_szAngleS_rs laws_szAngleS_e
noncomputable def laws_szAngleSS_l0_s : LSum := ⟨0, ⟨[(0, .val (.sl 48 (.sl 42 (.pair (.int .i64) (.pair (.int .i64) (.unit))))) .fr), (0, .val (.int .i64) .fr), (3, .val (.int .i64) .fr)], 21⟩, (.ret, ⟨[(4, .val (.int .i64) .fr)], 22⟩), [(.exit 0, ⟨[(1, .val (.int .i64) .fr)], 25⟩)], laws_szAngleSS_l0⟩
noncomputable def laws_szAngleSS_s : Spec := ⟨[.v (.sl 48 (.sl 42 (.pair (.int .i64) (.pair (.int .i64) (.unit))))) .fr, .v (.int .i64) .fr], Int, fun v => laws_szAngleSS v.1 v.2.1, fun r => ([.v (.int .i64) .fr r], [])⟩
noncomputable def laws_szAngleSS_ls : List LSum := [laws_szAngleSS_l0_s]
noncomputable def laws_szAngleSS_tab : List Row := [⟨31, [], [laws_szAngleS_s]⟩]
theorem laws_szAngleSS_t : ∀ r, r ∈ laws_szAngleSS_tab → RowIs Go.Proofs.Try.prog r := tab_cons (laws_szAngleS_is) (tab_nil)
theorem laws_szAngleSS_l0_r : RoundIs (mkCtx Go.K.Link.seat laws_szAngleSS_c laws_szAngleSS_tab) (sums laws_szAngleSS_ls) 0 (bodyAt (loopsOf 0 laws_szAngleSS_code) 0) laws_szAngleSS_l0_s := by
  rintro ⟨a, ⟨left, ⟨i, _⟩⟩⟩
  show _ = (laws_szAngleSS_l0 (a, (left, (i, ())))).bind fun r : (Ctl ((List (List (Int × (Int × Unit)))) × Int × Int × Unit) ((Int × Unit) ⊕ (Int × Unit))) => some (ctlVal laws_szAngleSS_l0_s r)
  simp only [laws_szAngleSS_l0, kb_ite, kb_some, kb_none, kb_bind, kb_alt]
  kernel_rfl
theorem laws_szAngleSS_rs : RoundsOK (mkCtx Go.K.Link.seat laws_szAngleSS_c laws_szAngleSS_tab) (sums laws_szAngleSS_ls) (loopsOf 0 laws_szAngleSS_code) laws_szAngleSS_ls := ⟨⟨rfl, rfl, laws_szAngleSS_l0_r⟩, trivial⟩
theorem laws_szAngleSS_e : ∀ v, (evFn (mkCtx Go.K.Link.seat laws_szAngleSS_c laws_szAngleSS_tab) (sums laws_szAngleSS_ls) 9 Go.Proofs.Try.f9 (encL laws_szAngleSS_s.a v)).run = (laws_szAngleSS_s.gen v).bind fun y => some (laws_szAngleSS_s.out y) := by
  rintro ⟨a, ⟨left, _⟩⟩
  show _ = (laws_szAngleSS a left).bind fun y : Int => some (laws_szAngleSS_s.out y)
  simp only [laws_szAngleSS, kb_ite, kb_some, kb_none, kb_bind, kb_alt]
  kernel_rfl
theorem laws_szAngleSS_is : FnIs Go.Proofs.Try.prog 9 (modeOf []) (phi [laws_szAngleSS_s]) := spec_is (c := laws_szAngleSS_c) seatOK laws_szAngleSS_t Go.Proofs.Try.func9 rfl (code := laws_szAngleSS_code) rfl rfl laws_szAngleSS_rs laws_szAngleSS_e
noncomputable def laws_toAngleSS_code : Code := (Go.Proofs.Try.f11.body).getD .skip
def laws_toAngleSS_c : Cfg := ⟨11, [], [[0, 3, 4, 7], [3, 7], [2, 3, 7, 22]], [(2, (.own .fr)), (7, (.own .fr))], []⟩
noncomputable def laws_toAngleS_code : Code := (Go.Proofs.Try.f34.body).getD .skip
def laws_toAngleS_c : Cfg := ⟨34, [], [[0, 3, 4, 7], [3, 7], [2, 3, 7, 22]], [], []⟩
noncomputable def laws_toAngle_code : Code := (Go.Proofs.Try.f28.body).getD .skip
def laws_toAngle_c : Cfg := ⟨28, [], [], [], []⟩
noncomputable def laws_toAngle_s : Spec := ⟨[.v (.pair (.int .i64) (.pair (.int .i64) (.unit))) .fr], (Int × (Int × Unit)), fun v => laws_toAngle v.1, fun r => ([.v (.pair (.int .i64) (.pair (.int .i64) (.unit))) .fr r], [])⟩
noncomputable def laws_toAngle_ls : List LSum := []
noncomputable def laws_toAngle_tab : List Row := []
theorem laws_toAngle_t : ∀ r, r ∈ laws_toAngle_tab → RowIs Go.Proofs.Try.prog r := tab_nil
theorem laws_toAngle_rs : RoundsOK (mkCtx Go.K.Link.seat laws_toAngle_c laws_toAngle_tab) (sums laws_toAngle_ls) (loopsOf 0 laws_toAngle_code) laws_toAngle_ls := trivial
theorem laws_toAngle_e : ∀ v, (evFn (mkCtx Go.K.Link.seat laws_toAngle_c laws_toAngle_tab) (sums laws_toAngle_ls) 28 Go.Proofs.Try.f28 (encL laws_toAngle_s.a v)).run = (laws_toAngle_s.gen v).bind fun y => some (laws_toAngle_s.out y) := by
  rintro ⟨a, _⟩
  show _ = (laws_toAngle a).bind fun y : (Int × (Int × Unit)) => some (laws_toAngle_s.out y)
  simp only [laws_toAngle, kb_ite, kb_some, kb_none, kb_bind, kb_alt]
  kernel_rfl
theorem laws_toAngle_is : FnIs Go.Proofs.Try.prog 28 (modeOf []) (phi [laws_toAngle_s]) := spec_is (c := laws_toAngle_c) seatOK laws_toAngle_t Go.Proofs.Try.func28 rfl (code := laws_toAngle_code) rfl rfl laws_toAngle_rs laws_toAngle_e
noncomputable def laws_toAngleS_l0_s : LSum := ⟨0, ⟨[(0, .val (.sl 42 (.pair (.int .i64) (.pair (.int .i64) (.unit)))) .fr), (2, .val (.sl 32 (.pair (.int .i64) (.pair (.int .i64) (.unit)))) (.own .fr)), (0, .val (.int .i64) .fr)], 18⟩, (.exit 0, ⟨[(3, .val (.sl 32 (.pair (.int .i64) (.pair (.int .i64) (.unit)))) (.own .fr))], 19⟩), [], laws_toAngleS_l0⟩
noncomputable def laws_toAngleS_s : Spec := ⟨[.v (.sl 42 (.pair (.int .i64) (.pair (.int .i64) (.unit)))) .fr], (List (Int × (Int × Unit))), fun v => laws_toAngleS v.1, fun r => ([.v (.sl 32 (.pair (.int .i64) (.pair (.int .i64) (.unit)))) (.own .fr) r], [])⟩
noncomputable def laws_toAngleS_ls : List LSum := [laws_toAngleS_l0_s]
noncomputable def laws_toAngleS_tab : List Row := [⟨28, [], [laws_toAngle_s]⟩]
theorem laws_toAngleS_t : ∀ r, r ∈ laws_toAngleS_tab → RowIs Go.Proofs.Try.prog r := tab_cons (laws_toAngle_is) (tab_nil)
theorem laws_toAngleS_l0_r : RoundIs (mkCtx Go.K.Link.seat laws_toAngleS_c laws_toAngleS_tab) (sums laws_toAngleS_ls) 0 (bodyAt (loopsOf 0 laws_toAngleS_code) 0) laws_toAngleS_l0_s := by
  rintro ⟨a, ⟨out, ⟨i, _⟩⟩⟩
  show _ = (laws_toAngleS_l0 (a, (out, (i, ())))).bind fun r : (Ctl ((List (Int × (Int × Unit))) × (List (Int × (Int × Unit))) × Int × Unit) (((List (Int × (Int × Unit))) × Unit))) => some (ctlVal laws_toAngleS_l0_s r)
  simp only [laws_toAngleS_l0, kb_ite, kb_some, kb_none, kb_bind, kb_alt]
  kernel_rfl
theorem laws_toAngleS_rs : RoundsOK (mkCtx Go.K.Link.seat laws_toAngleS_c laws_toAngleS_tab) (sums laws_toAngleS_ls) (loopsOf 0 laws_toAngleS_code) laws_toAngleS_ls := ⟨⟨rfl, rfl, laws_toAngleS_l0_r⟩, trivial⟩
theorem laws_toAngleS_e : ∀ v, (evFn (mkCtx Go.K.Link.seat laws_toAngleS_c laws_toAngleS_tab) (sums laws_toAngleS_ls) 34 Go.Proofs.Try.f34 (encL laws_toAngleS_s.a v)).run = (laws_toAngleS_s.gen v).bind fun y => some (laws_toAngleS_s.out y) := by
  rintro ⟨a, _⟩
  show _ = (laws_toAngleS a).bind fun y : (List (Int × (Int × Unit))) => some (laws_toAngleS_s.out y)
  simp only [laws_toAngleS, kb_ite, kb_some, kb_none, kb_bind, kb_alt]
  kernel_rfl
theorem laws_toAngleS_is : FnIs Go.Proofs.Try.prog 34 (modeOf []) (phi [laws_toAngleS_s]) := spec_is (c := laws_toAngleS_c) seatOK laws_toAngleS_t Go.Proofs.Try.func34 rfl (code := laws_toAngleS_code) rfl rfl laws_toAngleS_rs laws_toAngleS_e
noncomputable def laws_toAngleSS_l0_s : LSum := ⟨0, ⟨[(0, .val (.sl 48 (.sl 42 (.pair (.int .i64) (.pair (.int .i64) (.unit))))) .fr), (2, .val (.sl 36 (.sl 32 (.pair (.int .i64) (.pair (.int .i64) (.unit))))) (.own (.own .fr))), (0, .val (.int .i64) .fr)], 18⟩, (.exit 0, ⟨[(3, .val (.sl 36 (.sl 32 (.pair (.int .i64) (.pair (.int .i64) (.unit))))) (.own (.own .fr)))], 19⟩), [], laws_toAngleSS_l0⟩
noncomputable def laws_toAngleSS_s : Spec := ⟨[.v (.sl 48 (.sl 42 (.pair (.int .i64) (.pair (.int .i64) (.unit))))) .fr], (List (List (Int × (Int × Unit)))), fun v => laws_toAngleSS v.1, fun r => ([.v (.sl 36 (.sl 32 (.pair (.int .i64) (.pair (.int .i64) (.unit))))) (.own (.own .fr)) r], [])⟩
noncomputable def laws_toAngleSS_ls : List LSum := [laws_toAngleSS_l0_s]
noncomputable def laws_toAngleSS_tab : List Row := [⟨34, [], [laws_toAngleS_s]⟩]
theorem laws_toAngleSS_t : ∀ r, r ∈ laws_toAngleSS_tab → RowIs Go.Proofs.Try.prog r := tab_cons (laws_toAngleS_is) (tab_nil)
theorem laws_toAngleSS_l0_r : RoundIs (mkCtx Go.K.Link.seat laws_toAngleSS_c laws_toAngleSS_tab) (sums laws_toAngleSS_ls) 0 (bodyAt (loopsOf 0 laws_toAngleSS_code) 0) laws_toAngleSS_l0_s := by
  rintro ⟨a, ⟨out, ⟨i, _⟩⟩⟩
  show _ = (laws_toAngleSS_l0 (a, (out, (i, ())))).bind fun r : (Ctl ((List (List (Int × (Int × Unit)))) × (List (List (Int × (Int × Unit)))) × Int × Unit) (((List (List (Int × (Int × Unit)))) × Unit))) => some (ctlVal laws_toAngleSS_l0_s r)
  simp only [laws_toAngleSS_l0, kb_ite, kb_some, kb_none, kb_bind, kb_alt]
  kernel_rfl
theorem laws_toAngleSS_rs : RoundsOK (mkCtx Go.K.Link.seat laws_toAngleSS_c laws_toAngleSS_tab) (sums laws_toAngleSS_ls) (loopsOf 0 laws_toAngleSS_code) laws_toAngleSS_ls := ⟨⟨rfl, rfl, laws_toAngleSS_l0_r⟩, trivial⟩
theorem laws_toAngleSS_e : ∀ v, (evFn (mkCtx Go.K.Link.seat laws_toAngleSS_c laws_toAngleSS_tab) (sums laws_toAngleSS_ls) 11 Go.Proofs.Try.f11 (encL laws_toAngleSS_s.a v)).run = (laws_toAngleSS_s.gen v).bind fun y => some (laws_toAngleSS_s.out y) := by
  rintro ⟨a, _⟩
  show _ = (laws_toAngleSS a).bind fun y : (List (List (Int × (Int × Unit)))) => some (laws_toAngleSS_s.out y)
  simp only [laws_toAngleSS, kb_ite, kb_some, kb_none, kb_bind, kb_alt]
  kernel_rfl
theorem laws_toAngleSS_is : FnIs Go.Proofs.Try.prog 11 (modeOf []) (phi [laws_toAngleSS_s]) := spec_is (c := laws_toAngleSS_c) seatOK laws_toAngleSS_t Go.Proofs.Try.func11 rfl (code := laws_toAngleSS_code) rfl rfl laws_toAngleSS_rs laws_toAngleSS_e
noncomputable def spec_PortraitThatFails_code : Code := (Go.Proofs.Try.f10.body).getD .skip
def spec_PortraitThatFails_c : Cfg := ⟨10, [], [], [], []⟩
noncomputable def spec_l07Lists_code : Code := (Go.Proofs.Try.f32.body).getD .skip
def spec_l07Lists_c : Cfg := ⟨32, [], [[0, 3, 4], [0, 3], [2], [], [], [], [0, 3, 4, 5], [0, 3, 4], [2], [], [], [], [0, 6], [], [2]], [], []⟩
noncomputable def spec_l01Is_code : Code := (Go.Proofs.Try.f53.body).getD .skip
def spec_l01Is_c : Cfg := ⟨53, [], [], [], []⟩
noncomputable def spec_l01In_code : Code := (Go.Proofs.Try.f85.body).getD .skip
def spec_l01In_c : Cfg := ⟨85, [], [], [], []⟩
noncomputable def spec_l01In_s : Spec := ⟨[.v (.int .i64) .fr, .v (.int .i64) .fr, .v (.int .i64) .fr], Bool, fun v => spec_l01In v.1 v.2.1 v.2.2.1, fun r => ([.v (.bool) .fr r], [])⟩
noncomputable def spec_l01In_ls : List LSum := []
noncomputable def spec_l01In_tab : List Row := []
theorem spec_l01In_t : ∀ r, r ∈ spec_l01In_tab → RowIs Go.Proofs.Try.prog r := tab_nil
theorem spec_l01In_rs : RoundsOK (mkCtx Go.K.Link.seat spec_l01In_c spec_l01In_tab) (sums spec_l01In_ls) (loopsOf 0 spec_l01In_code) spec_l01In_ls := trivial
theorem spec_l01In_e : ∀ v, (evFn (mkCtx Go.K.Link.seat spec_l01In_c spec_l01In_tab) (sums spec_l01In_ls) 85 Go.Proofs.Try.f85 (encL spec_l01In_s.a v)).run = (spec_l01In_s.gen v).bind fun y => some (spec_l01In_s.out y) := by
  rintro ⟨n, ⟨low, ⟨high, _⟩⟩⟩
  show _ = (spec_l01In n low high).bind fun y : Bool => some (spec_l01In_s.out y)
  simp only [spec_l01In, kb_ite, kb_some, kb_none, kb_bind, kb_alt]
  kernel_rfl
theorem spec_l01In_is : FnIs Go.Proofs.Try.prog 85 (modeOf []) (phi [spec_l01In_s]) := spec_is (c := spec_l01In_c) seatOK spec_l01In_t Go.Proofs.Try.func85 rfl (code := spec_l01In_code) rfl rfl spec_l01In_rs spec_l01In_e
noncomputable def spec_l01Divisor_code : Code := (Go.Proofs.Try.f80.body).getD .skip
def spec_l01Divisor_c : Cfg := ⟨80, [], [[0, 1], [0], [4]], [], []⟩
noncomputable def spec_l01Divisor_l0_s : LSum := ⟨0, ⟨[(0, .val (.int .i64) .fr), (0, .val (.int .i64) .fr)], 12⟩, (.exit 0, ⟨[(0, .val (.int .i64) .fr)], 13⟩), [], spec_l01Divisor_l0⟩
noncomputable def spec_l01Divisor_s : Spec := ⟨[.v (.int .i64) .fr, .v (.int .i64) .fr], Int, fun v => spec_l01Divisor v.1 v.2.1, fun r => ([.v (.int .i64) .fr r], [])⟩
noncomputable def spec_l01Divisor_ls : List LSum := [spec_l01Divisor_l0_s]
noncomputable def spec_l01Divisor_tab : List Row := []
theorem spec_l01Divisor_t : ∀ r, r ∈ spec_l01Divisor_tab → RowIs Go.Proofs.Try.prog r := tab_nil
theorem spec_l01Divisor_l0_r : RoundIs (mkCtx Go.K.Link.seat spec_l01Divisor_c spec_l01Divisor_tab) (sums spec_l01Divisor_ls) 0 (bodyAt (loopsOf 0 spec_l01Divisor_code) 0) spec_l01Divisor_l0_s := by
  rintro ⟨a, ⟨b, _⟩⟩
  show _ = (spec_l01Divisor_l0 (a, (b, ()))).bind fun r : (Ctl (Int × Int × Unit) ((Int × Unit))) => some (ctlVal spec_l01Divisor_l0_s r)
  simp only [spec_l01Divisor_l0, kb_ite, kb_some, kb_none, kb_bind, kb_alt]
  kernel_rfl
theorem spec_l01Divisor_rs : RoundsOK (mkCtx Go.K.Link.seat spec_l01Divisor_c spec_l01Divisor_tab) (sums spec_l01Divisor_ls) (loopsOf 0 spec_l01Divisor_code) spec_l01Divisor_ls := ⟨⟨rfl, rfl, spec_l01Divisor_l0_r⟩, trivial⟩
theorem spec_l01Divisor_e : ∀ v, (evFn (mkCtx Go.K.Link.seat spec_l01Divisor_c spec_l01Divisor_tab) (sums spec_l01Divisor_ls) 80 Go.Proofs.Try.f80 (encL spec_l01Divisor_s.a v)).run = (spec_l01Divisor_s.gen v).bind fun y => some (spec_l01Divisor_s.out y) := by
  rintro ⟨a, ⟨b, _⟩⟩
  show _ = (spec_l01Divisor a b).bind fun y : Int => some (spec_l01Divisor_s.out y)
  simp only [spec_l01Divisor, kb_ite, kb_some, kb_none, kb_bind, kb_alt]
  kernel_rfl
theorem spec_l01Divisor_is : FnIs Go.Proofs.Try.prog 80 (modeOf []) (phi [spec_l01Divisor_s]) := spec_is (c := spec_l01Divisor_c) seatOK spec_l01Divisor_t Go.Proofs.Try.func80 rfl (code := spec_l01Divisor_code) rfl rfl spec_l01Divisor_rs spec_l01Divisor_e
noncomputable def spec_l01Is_s : Spec := ⟨[.v (.pair (.int .i64) (.pair (.int .i64) (.unit))) .fr], Bool, fun v => spec_l01Is v.1, fun r => ([.v (.bool) .fr r], [])⟩
noncomputable def spec_l01Is_ls : List LSum := []
noncomputable def spec_l01Is_tab : List Row := [⟨80, [], [spec_l01Divisor_s]⟩, ⟨85, [], [spec_l01In_s]⟩]
theorem spec_l01Is_t : ∀ r, r ∈ spec_l01Is_tab → RowIs Go.Proofs.Try.prog r := tab_cons (spec_l01Divisor_is) (tab_cons (spec_l01In_is) (tab_nil))
theorem spec_l01Is_rs : RoundsOK (mkCtx Go.K.Link.seat spec_l01Is_c spec_l01Is_tab) (sums spec_l01Is_ls) (loopsOf 0 spec_l01Is_code) spec_l01Is_ls := trivial
theorem spec_l01Is_e : ∀ v, (evFn (mkCtx Go.K.Link.seat spec_l01Is_c spec_l01Is_tab) (sums spec_l01Is_ls) 53 Go.Proofs.Try.f53 (encL spec_l01Is_s.a v)).run = (spec_l01Is_s.gen v).bind fun y => some (spec_l01Is_s.out y) := by
  rintro ⟨a, _⟩
  show _ = (spec_l01Is a).bind fun y : Bool => some (spec_l01Is_s.out y)
  simp only [spec_l01Is, kb_ite, kb_some, kb_none, kb_bind, kb_alt]
  kernel_rfl
theorem spec_l01Is_is : FnIs Go.Proofs.Try.prog 53 (modeOf []) (phi [spec_l01Is_s]) := spec_is (c := spec_l01Is_c) seatOK spec_l01Is_t Go.Proofs.Try.func53 rfl (code := spec_l01Is_code) rfl rfl spec_l01Is_rs spec_l01Is_e
noncomputable def spec_l07Lists_l1_s : LSum := ⟨2, ⟨[(0, .val (.sl 36 (.sl 32 (.pair (.int .i64) (.pair (.int .i64) (.unit))))) .fr), (2, .val (.int .i64) .fr), (0, .val (.int .i64) .fr), (0, .val (.int .i64) .fr)], 64⟩, (.ret, ⟨[(2, .val (.int .i64) .fr)], 67⟩), [(.exit 2, ⟨[(0, .val (.sl 36 (.sl 32 (.pair (.int .i64) (.pair (.int .i64) (.unit))))) .fr), (2, .val (.int .i64) .fr), (0, .val (.int .i64) .fr)], 65⟩)], spec_l07Lists_l1⟩
noncomputable def spec_l07Lists_l0_s : LSum := ⟨0, ⟨[(0, .val (.sl 36 (.sl 32 (.pair (.int .i64) (.pair (.int .i64) (.unit))))) .fr), (2, .val (.int .i64) .fr), (0, .val (.int .i64) .fr)], 65⟩, (.ret, ⟨[(2, .val (.int .i64) .fr)], 67⟩), [(.exit 0, ⟨[(0, .val (.sl 36 (.sl 32 (.pair (.int .i64) (.pair (.int .i64) (.unit))))) .fr), (2, .val (.int .i64) .fr)], 66⟩)], spec_l07Lists_l0⟩
noncomputable def spec_l03Ascending_code : Code := (Go.Proofs.Try.f62.body).getD .skip
def spec_l03Ascending_c : Cfg := ⟨62, [], [[0, 3], [], [2]], [], []⟩
noncomputable def spec_l01Less_code : Code := (Go.Proofs.Try.f82.body).getD .skip
def spec_l01Less_c : Cfg := ⟨82, [], [], [], []⟩
noncomputable def spec_l01Less_s : Spec := ⟨[.v (.pair (.int .i64) (.pair (.int .i64) (.unit))) .fr, .v (.pair (.int .i64) (.pair (.int .i64) (.unit))) .fr], Bool, fun v => spec_l01Less v.1 v.2.1, fun r => ([.v (.bool) .fr r], [])⟩
noncomputable def spec_l01Less_ls : List LSum := []
noncomputable def spec_l01Less_tab : List Row := []
theorem spec_l01Less_t : ∀ r, r ∈ spec_l01Less_tab → RowIs Go.Proofs.Try.prog r := tab_nil
theorem spec_l01Less_rs : RoundsOK (mkCtx Go.K.Link.seat spec_l01Less_c spec_l01Less_tab) (sums spec_l01Less_ls) (loopsOf 0 spec_l01Less_code) spec_l01Less_ls := trivial
theorem spec_l01Less_e : ∀ v, (evFn (mkCtx Go.K.Link.seat spec_l01Less_c spec_l01Less_tab) (sums spec_l01Less_ls) 82 Go.Proofs.Try.f82 (encL spec_l01Less_s.a v)).run = (spec_l01Less_s.gen v).bind fun y => some (spec_l01Less_s.out y) := by
  rintro ⟨a, ⟨b, _⟩⟩
  show _ = (spec_l01Less a b).bind fun y : Bool => some (spec_l01Less_s.out y)
  simp only [spec_l01Less, kb_ite, kb_some, kb_none, kb_bind, kb_alt]
  kernel_rfl
theorem spec_l01Less_is : FnIs Go.Proofs.Try.prog 82 (modeOf []) (phi [spec_l01Less_s]) := spec_is (c := spec_l01Less_c) seatOK spec_l01Less_t Go.Proofs.Try.func82 rfl (code := spec_l01Less_code) rfl rfl spec_l01Less_rs spec_l01Less_e
noncomputable def spec_l03Ascending_l0_s : LSum := ⟨0, ⟨[(0, .val (.sl 32 (.pair (.int .i64) (.pair (.int .i64) (.unit)))) .fr), (2, .val (.int .i64) .fr)], 17⟩, (.ret, ⟨[(2, .val (.bool) .fr)], 18⟩), [(.exit 0, ⟨[], 21⟩)], spec_l03Ascending_l0⟩
noncomputable def spec_l03Ascending_s : Spec := ⟨[.v (.sl 32 (.pair (.int .i64) (.pair (.int .i64) (.unit)))) .fr], Bool, fun v => spec_l03Ascending v.1, fun r => ([.v (.bool) .fr r], [])⟩
noncomputable def spec_l03Ascending_ls : List LSum := [spec_l03Ascending_l0_s]
noncomputable def spec_l03Ascending_tab : List Row := [⟨82, [], [spec_l01Less_s]⟩]
theorem spec_l03Ascending_t : ∀ r, r ∈ spec_l03Ascending_tab → RowIs Go.Proofs.Try.prog r := tab_cons (spec_l01Less_is) (tab_nil)
theorem spec_l03Ascending_l0_r : RoundIs (mkCtx Go.K.Link.seat spec_l03Ascending_c spec_l03Ascending_tab) (sums spec_l03Ascending_ls) 0 (bodyAt (loopsOf 0 spec_l03Ascending_code) 0) spec_l03Ascending_l0_s := by
  rintro ⟨list, ⟨i, _⟩⟩
  show _ = (spec_l03Ascending_l0 (list, (i, ()))).bind fun r : (Ctl ((List (Int × (Int × Unit))) × Int × Unit) ((Bool × Unit) ⊕ (Unit))) => some (ctlVal spec_l03Ascending_l0_s r)
  simp only [spec_l03Ascending_l0, kb_ite, kb_some, kb_none, kb_bind, kb_alt]
  kernel_rfl
theorem spec_l03Ascending_rs : RoundsOK (mkCtx Go.K.Link.seat spec_l03Ascending_c spec_l03Ascending_tab) (sums spec_l03Ascending_ls) (loopsOf 0 spec_l03Ascending_code) spec_l03Ascending_ls := ⟨⟨rfl, rfl, spec_l03Ascending_l0_r⟩, trivial⟩
theorem spec_l03Ascending_e : ∀ v, (evFn (mkCtx Go.K.Link.seat spec_l03Ascending_c spec_l03Ascending_tab) (sums spec_l03Ascending_ls) 62 Go.Proofs.Try.f62 (encL spec_l03Ascending_s.a v)).run = (spec_l03Ascending_s.gen v).bind fun y => some (spec_l03Ascending_s.out y) := by
  rintro ⟨list, _⟩
  show _ = (spec_l03Ascending list).bind fun y : Bool => some (spec_l03Ascending_s.out y)
  simp only [spec_l03Ascending, kb_ite, kb_some, kb_none, kb_bind, kb_alt]
  kernel_rfl
theorem spec_l03Ascending_is : FnIs Go.Proofs.Try.prog 62 (modeOf []) (phi [spec_l03Ascending_s]) := spec_is (c := spec_l03Ascending_c) seatOK spec_l03Ascending_t Go.Proofs.Try.func62 rfl (code := spec_l03Ascending_code) rfl rfl spec_l03Ascending_rs spec_l03Ascending_e
noncomputable def spec_l07Lists_l2_s : LSum := ⟨4, ⟨[(0, .val (.sl 36 (.sl 32 (.pair (.int .i64) (.pair (.int .i64) (.unit))))) .fr), (5, .val (.int .i64) .fr)], 63⟩, (.ret, ⟨[(2, .val (.int .i64) .fr)], 67⟩), [(.exit 4, ⟨[], 70⟩)], spec_l07Lists_l2⟩
noncomputable def spec_l07Lists_s : Spec := ⟨[.v (.sl 36 (.sl 32 (.pair (.int .i64) (.pair (.int .i64) (.unit))))) .fr], Int, fun v => spec_l07Lists v.1, fun r => ([.v (.int .i64) .fr r], [])⟩
noncomputable def spec_l07Lists_ls : List LSum := [spec_l07Lists_l0_s, spec_l07Lists_l1_s, spec_l07Lists_l2_s]
noncomputable def spec_l07Lists_tab : List Row := [⟨53, [], [spec_l01Is_s]⟩, ⟨62, [], [spec_l03Ascending_s]⟩]
theorem spec_l07Lists_t : ∀ r, r ∈ spec_l07Lists_tab → RowIs Go.Proofs.Try.prog r := tab_cons (spec_l01Is_is) (tab_cons (spec_l03Ascending_is) (tab_nil))
theorem spec_l07Lists_l0_r : RoundIs (mkCtx Go.K.Link.seat spec_l07Lists_c spec_l07Lists_tab) (sums spec_l07Lists_ls) 0 (bodyAt (loopsOf 0 spec_l07Lists_code) 0) spec_l07Lists_l0_s := by
  rintro ⟨sets, ⟨count, ⟨i, _⟩⟩⟩
  show _ = (spec_l07Lists_l0 (sets, (count, (i, ())))).bind fun r : (Ctl ((List (List (Int × (Int × Unit)))) × Int × Int × Unit) ((Int × Unit) ⊕ ((List (List (Int × (Int × Unit)))) × Int × Unit))) => some (ctlVal spec_l07Lists_l0_s r)
  simp only [spec_l07Lists_l0, kb_ite, kb_some, kb_none, kb_bind, kb_alt]
  kernel_rfl
theorem spec_l07Lists_l1_r : RoundIs (mkCtx Go.K.Link.seat spec_l07Lists_c spec_l07Lists_tab) (sums spec_l07Lists_ls) 2 (bodyAt (loopsOf 0 spec_l07Lists_code) 1) spec_l07Lists_l1_s := by
  rintro ⟨sets, ⟨count, ⟨i, ⟨k, _⟩⟩⟩⟩
  show _ = (spec_l07Lists_l1 (sets, (count, (i, (k, ()))))).bind fun r : (Ctl ((List (List (Int × (Int × Unit)))) × Int × Int × Int × Unit) ((Int × Unit) ⊕ ((List (List (Int × (Int × Unit)))) × Int × Int × Unit))) => some (ctlVal spec_l07Lists_l1_s r)
  simp only [spec_l07Lists_l1, kb_ite, kb_some, kb_none, kb_bind, kb_alt]
  kernel_rfl
theorem spec_l07Lists_l2_r : RoundIs (mkCtx Go.K.Link.seat spec_l07Lists_c spec_l07Lists_tab) (sums spec_l07Lists_ls) 4 (bodyAt (loopsOf 0 spec_l07Lists_code) 2) spec_l07Lists_l2_s := by
  rintro ⟨sets, ⟨i, _⟩⟩
  show _ = (spec_l07Lists_l2 (sets, (i, ()))).bind fun r : (Ctl ((List (List (Int × (Int × Unit)))) × Int × Unit) ((Int × Unit) ⊕ (Unit))) => some (ctlVal spec_l07Lists_l2_s r)
  simp only [spec_l07Lists_l2, kb_ite, kb_some, kb_none, kb_bind, kb_alt]
  kernel_rfl
theorem spec_l07Lists_rs : RoundsOK (mkCtx Go.K.Link.seat spec_l07Lists_c spec_l07Lists_tab) (sums spec_l07Lists_ls) (loopsOf 0 spec_l07Lists_code) spec_l07Lists_ls := ⟨⟨rfl, rfl, spec_l07Lists_l0_r⟩, ⟨⟨rfl, rfl, spec_l07Lists_l1_r⟩, ⟨⟨rfl, rfl, spec_l07Lists_l2_r⟩, trivial⟩⟩⟩
theorem spec_l07Lists_e : ∀ v, (evFn (mkCtx Go.K.Link.seat spec_l07Lists_c spec_l07Lists_tab) (sums spec_l07Lists_ls) 32 Go.Proofs.Try.f32 (encL spec_l07Lists_s.a v)).run = (spec_l07Lists_s.gen v).bind fun y => some (spec_l07Lists_s.out y) := by
  rintro ⟨sets, _⟩
  show _ = (spec_l07Lists sets).bind fun y : Int => some (spec_l07Lists_s.out y)
  simp only [spec_l07Lists, kb_ite, kb_some, kb_none, kb_bind, kb_alt]
  kernel_rfl
theorem spec_l07Lists_is : FnIs Go.Proofs.Try.prog 32 (modeOf []) (phi [spec_l07Lists_s]) := spec_is (c := spec_l07Lists_c) seatOK spec_l07Lists_t Go.Proofs.Try.func32 rfl (code := spec_l07Lists_code) rfl rfl spec_l07Lists_rs spec_l07Lists_e
noncomputable def spec_l07Fails_code : Code := (Go.Proofs.Try.f33.body).getD .skip
def spec_l07Fails_c : Cfg := ⟨33, [], [[0, 3, 4], [0, 3], [2], [], [], [], [0, 3, 5], [0, 3], [2], [], [], [], [0, 3, 6, 7], [0, 3], [2], [], [], [], [0, 3, 6, 7, 8], [0, 3, 6, 7], [2], [], [], [], [0, 3, 12], [], [2], [], [], [], [0, 3, 12, 13], [0, 3, 12], [2]], [], []⟩
noncomputable def spec_l07Apart_code : Code := (Go.Proofs.Try.f63.body).getD .skip
def spec_l07Apart_c : Cfg := ⟨63, [], [[0, 3], [], [2], [], [], [], [0, 3, 4], [0, 3], [2], [], [], [], [0, 3, 4, 5], [0, 3, 4], [2]], [], []⟩
noncomputable def spec_l07Place_code : Code := (Go.Proofs.Try.f45.body).getD .skip
def spec_l07Place_c : Cfg := ⟨45, [], [[0, 3, 5], [], [4]], [], []⟩
noncomputable def spec_l07Place_l0_s : LSum := ⟨0, ⟨[(0, .val (.sl 32 (.pair (.int .i64) (.pair (.int .i64) (.unit)))) .fr), (2, .val (.ptr (.pair (.int .i64) (.pair (.int .i64) (.unit)))) (.own .fr)), (1, .val (.int .i64) .fr)], 13⟩, (.ret, ⟨[(4, .val (.int .i64) .fr)], 14⟩), [(.exit 0, ⟨[], 19⟩)], spec_l07Place_l0⟩
noncomputable def spec_l07Place_s : Spec := ⟨[.v (.sl 32 (.pair (.int .i64) (.pair (.int .i64) (.unit)))) .fr, .v (.pair (.int .i64) (.pair (.int .i64) (.unit))) .fr], Int, fun v => spec_l07Place v.1 v.2.1, fun r => ([.v (.int .i64) .fr r], [])⟩
noncomputable def spec_l07Place_ls : List LSum := [spec_l07Place_l0_s]
noncomputable def spec_l07Place_tab : List Row := []
theorem spec_l07Place_t : ∀ r, r ∈ spec_l07Place_tab → RowIs Go.Proofs.Try.prog r := tab_nil
theorem spec_l07Place_l0_r : RoundIs (mkCtx Go.K.Link.seat spec_l07Place_c spec_l07Place_tab) (sums spec_l07Place_ls) 0 (bodyAt (loopsOf 0 spec_l07Place_code) 0) spec_l07Place_l0_s := by
  rintro ⟨set, ⟨a, ⟨i, _⟩⟩⟩
  show _ = (spec_l07Place_l0 (set, (a, (i, ())))).bind fun r : (Ctl ((List (Int × (Int × Unit))) × ((Int × (Int × Unit))) × Int × Unit) ((Int × Unit) ⊕ (Unit))) => some (ctlVal spec_l07Place_l0_s r)
  simp only [spec_l07Place_l0, kb_ite, kb_some, kb_none, kb_bind, kb_alt]
  kernel_rfl
theorem spec_l07Place_rs : RoundsOK (mkCtx Go.K.Link.seat spec_l07Place_c spec_l07Place_tab) (sums spec_l07Place_ls) (loopsOf 0 spec_l07Place_code) spec_l07Place_ls := ⟨⟨rfl, rfl, spec_l07Place_l0_r⟩, trivial⟩
theorem spec_l07Place_e : ∀ v, (evFn (mkCtx Go.K.Link.seat spec_l07Place_c spec_l07Place_tab) (sums spec_l07Place_ls) 45 Go.Proofs.Try.f45 (encL spec_l07Place_s.a v)).run = (spec_l07Place_s.gen v).bind fun y => some (spec_l07Place_s.out y) := by
  rintro ⟨set, ⟨a, _⟩⟩
  show _ = (spec_l07Place set a).bind fun y : Int => some (spec_l07Place_s.out y)
  simp only [spec_l07Place, kb_ite, kb_some, kb_none, kb_bind, kb_alt]
  kernel_rfl
theorem spec_l07Place_is : FnIs Go.Proofs.Try.prog 45 (modeOf []) (phi [spec_l07Place_s]) := spec_is (c := spec_l07Place_c) seatOK spec_l07Place_t Go.Proofs.Try.func45 rfl (code := spec_l07Place_code) rfl rfl spec_l07Place_rs spec_l07Place_e
noncomputable def spec_l07Apart_l2_s : LSum := ⟨4, ⟨[(0, .val (.sl 36 (.sl 32 (.pair (.int .i64) (.pair (.int .i64) (.unit))))) .fr), (2, .val (.int .i64) .fr), (0, .val (.int .i64) .fr), (0, .val (.int .i64) .fr)], 33⟩, (.ret, ⟨[(2, .val (.bool) .fr)], 36⟩), [(.exit 4, ⟨[(0, .val (.sl 36 (.sl 32 (.pair (.int .i64) (.pair (.int .i64) (.unit))))) .fr), (2, .val (.int .i64) .fr), (0, .val (.int .i64) .fr)], 34⟩)], spec_l07Apart_l2⟩
noncomputable def spec_l07Apart_l1_s : LSum := ⟨2, ⟨[(0, .val (.sl 36 (.sl 32 (.pair (.int .i64) (.pair (.int .i64) (.unit))))) .fr), (2, .val (.int .i64) .fr), (0, .val (.int .i64) .fr)], 34⟩, (.ret, ⟨[(2, .val (.bool) .fr)], 36⟩), [(.exit 2, ⟨[(0, .val (.sl 36 (.sl 32 (.pair (.int .i64) (.pair (.int .i64) (.unit))))) .fr), (2, .val (.int .i64) .fr)], 35⟩)], spec_l07Apart_l1⟩
noncomputable def spec_l07Apart_l0_s : LSum := ⟨0, ⟨[(0, .val (.sl 36 (.sl 32 (.pair (.int .i64) (.pair (.int .i64) (.unit))))) .fr), (2, .val (.int .i64) .fr)], 35⟩, (.ret, ⟨[(2, .val (.bool) .fr)], 36⟩), [(.exit 0, ⟨[], 39⟩)], spec_l07Apart_l0⟩
noncomputable def spec_l07Apart_s : Spec := ⟨[.v (.sl 36 (.sl 32 (.pair (.int .i64) (.pair (.int .i64) (.unit))))) .fr], Bool, fun v => spec_l07Apart v.1, fun r => ([.v (.bool) .fr r], [])⟩
noncomputable def spec_l07Apart_ls : List LSum := [spec_l07Apart_l0_s, spec_l07Apart_l1_s, spec_l07Apart_l2_s]
noncomputable def spec_l07Apart_tab : List Row := [⟨45, [], [spec_l07Place_s]⟩]
theorem spec_l07Apart_t : ∀ r, r ∈ spec_l07Apart_tab → RowIs Go.Proofs.Try.prog r := tab_cons (spec_l07Place_is) (tab_nil)
theorem spec_l07Apart_l0_r : RoundIs (mkCtx Go.K.Link.seat spec_l07Apart_c spec_l07Apart_tab) (sums spec_l07Apart_ls) 0 (bodyAt (loopsOf 0 spec_l07Apart_code) 0) spec_l07Apart_l0_s := by
  rintro ⟨sets, ⟨i, _⟩⟩
  show _ = (spec_l07Apart_l0 (sets, (i, ()))).bind fun r : (Ctl ((List (List (Int × (Int × Unit)))) × Int × Unit) ((Bool × Unit) ⊕ (Unit))) => some (ctlVal spec_l07Apart_l0_s r)
  simp only [spec_l07Apart_l0, kb_ite, kb_some, kb_none, kb_bind, kb_alt]
  kernel_rfl
theorem spec_l07Apart_l1_r : RoundIs (mkCtx Go.K.Link.seat spec_l07Apart_c spec_l07Apart_tab) (sums spec_l07Apart_ls) 2 (bodyAt (loopsOf 0 spec_l07Apart_code) 1) spec_l07Apart_l1_s := by
  rintro ⟨sets, ⟨i, ⟨k, _⟩⟩⟩
  show _ = (spec_l07Apart_l1 (sets, (i, (k, ())))).bind fun r : (Ctl ((List (List (Int × (Int × Unit)))) × Int × Int × Unit) ((Bool × Unit) ⊕ ((List (List (Int × (Int × Unit)))) × Int × Unit))) => some (ctlVal spec_l07Apart_l1_s r)
  simp only [spec_l07Apart_l1, kb_ite, kb_some, kb_none, kb_bind, kb_alt]
  kernel_rfl
theorem spec_l07Apart_l2_r : RoundIs (mkCtx Go.K.Link.seat spec_l07Apart_c spec_l07Apart_tab) (sums spec_l07Apart_ls) 4 (bodyAt (loopsOf 0 spec_l07Apart_code) 2) spec_l07Apart_l2_s := by
  rintro ⟨sets, ⟨i, ⟨k, ⟨j, _⟩⟩⟩⟩
  show _ = (spec_l07Apart_l2 (sets, (i, (k, (j, ()))))).bind fun r : (Ctl ((List (List (Int × (Int × Unit)))) × Int × Int × Int × Unit) ((Bool × Unit) ⊕ ((List (List (Int × (Int × Unit)))) × Int × Int × Unit))) => some (ctlVal spec_l07Apart_l2_s r)
  simp only [spec_l07Apart_l2, kb_ite, kb_some, kb_none, kb_bind, kb_alt]
  kernel_rfl
theorem spec_l07Apart_rs : RoundsOK (mkCtx Go.K.Link.seat spec_l07Apart_c spec_l07Apart_tab) (sums spec_l07Apart_ls) (loopsOf 0 spec_l07Apart_code) spec_l07Apart_ls := ⟨⟨rfl, rfl, spec_l07Apart_l0_r⟩, ⟨⟨rfl, rfl, spec_l07Apart_l1_r⟩, ⟨⟨rfl, rfl, spec_l07Apart_l2_r⟩, trivial⟩⟩⟩
theorem spec_l07Apart_e : ∀ v, (evFn (mkCtx Go.K.Link.seat spec_l07Apart_c spec_l07Apart_tab) (sums spec_l07Apart_ls) 63 Go.Proofs.Try.f63 (encL spec_l07Apart_s.a v)).run = (spec_l07Apart_s.gen v).bind fun y => some (spec_l07Apart_s.out y) := by
  rintro ⟨sets, _⟩
  show _ = (spec_l07Apart sets).bind fun y : Bool => some (spec_l07Apart_s.out y)
  simp only [spec_l07Apart, kb_ite, kb_some, kb_none, kb_bind, kb_alt]
  kernel_rfl
theorem spec_l07Apart_is : FnIs Go.Proofs.Try.prog 63 (modeOf []) (phi [spec_l07Apart_s]) := spec_is (c := spec_l07Apart_c) seatOK spec_l07Apart_t Go.Proofs.Try.func63 rfl (code := spec_l07Apart_code) rfl rfl spec_l07Apart_rs spec_l07Apart_e
noncomputable def spec_l07Led_code : Code := (Go.Proofs.Try.f64.body).getD .skip
def spec_l07Led_c : Cfg := ⟨64, [], [[0, 1, 5, 6, 10], [0, 1], [4]], [], []⟩
noncomputable def spec_l01Double_code : Code := (Go.Proofs.Try.f43.body).getD .skip
def spec_l01Double_c : Cfg := ⟨43, [], [], [], []⟩
noncomputable def spec_l01Of_code : Code := (Go.Proofs.Try.f44.body).getD .skip
def spec_l01Of_c : Cfg := ⟨44, [], [], [], []⟩
noncomputable def spec_l01Of_s : Spec := ⟨[.v (.int .i64) .fr, .v (.int .i64) .fr], (Int × (Int × Unit)), fun v => spec_l01Of v.1 v.2.1, fun r => ([.v (.pair (.int .i64) (.pair (.int .i64) (.unit))) .fr r], [])⟩
noncomputable def spec_l01Of_ls : List LSum := []
noncomputable def spec_l01Of_tab : List Row := [⟨80, [], [spec_l01Divisor_s]⟩]
theorem spec_l01Of_t : ∀ r, r ∈ spec_l01Of_tab → RowIs Go.Proofs.Try.prog r := tab_cons (spec_l01Divisor_is) (tab_nil)
theorem spec_l01Of_rs : RoundsOK (mkCtx Go.K.Link.seat spec_l01Of_c spec_l01Of_tab) (sums spec_l01Of_ls) (loopsOf 0 spec_l01Of_code) spec_l01Of_ls := trivial
theorem spec_l01Of_e : ∀ v, (evFn (mkCtx Go.K.Link.seat spec_l01Of_c spec_l01Of_tab) (sums spec_l01Of_ls) 44 Go.Proofs.Try.f44 (encL spec_l01Of_s.a v)).run = (spec_l01Of_s.gen v).bind fun y => some (spec_l01Of_s.out y) := by
  rintro ⟨num, ⟨den, _⟩⟩
  show _ = (spec_l01Of num den).bind fun y : (Int × (Int × Unit)) => some (spec_l01Of_s.out y)
  simp only [spec_l01Of, kb_ite, kb_some, kb_none, kb_bind, kb_alt]
  kernel_rfl
theorem spec_l01Of_is : FnIs Go.Proofs.Try.prog 44 (modeOf []) (phi [spec_l01Of_s]) := spec_is (c := spec_l01Of_c) seatOK spec_l01Of_t Go.Proofs.Try.func44 rfl (code := spec_l01Of_code) rfl rfl spec_l01Of_rs spec_l01Of_e
noncomputable def spec_l01Double_s : Spec := ⟨[.v (.pair (.int .i64) (.pair (.int .i64) (.unit))) .fr], (Int × (Int × Unit)), fun v => spec_l01Double v.1, fun r => ([.v (.pair (.int .i64) (.pair (.int .i64) (.unit))) .fr r], [])⟩
noncomputable def spec_l01Double_ls : List LSum := []
noncomputable def spec_l01Double_tab : List Row := [⟨44, [], [spec_l01Of_s]⟩]
theorem spec_l01Double_t : ∀ r, r ∈ spec_l01Double_tab → RowIs Go.Proofs.Try.prog r := tab_cons (spec_l01Of_is) (tab_nil)
theorem spec_l01Double_rs : RoundsOK (mkCtx Go.K.Link.seat spec_l01Double_c spec_l01Double_tab) (sums spec_l01Double_ls) (loopsOf 0 spec_l01Double_code) spec_l01Double_ls := trivial
theorem spec_l01Double_e : ∀ v, (evFn (mkCtx Go.K.Link.seat spec_l01Double_c spec_l01Double_tab) (sums spec_l01Double_ls) 43 Go.Proofs.Try.f43 (encL spec_l01Double_s.a v)).run = (spec_l01Double_s.gen v).bind fun y => some (spec_l01Double_s.out y) := by
  rintro ⟨a, _⟩
  show _ = (spec_l01Double a).bind fun y : (Int × (Int × Unit)) => some (spec_l01Double_s.out y)
  simp only [spec_l01Double, kb_ite, kb_some, kb_none, kb_bind, kb_alt]
  kernel_rfl
theorem spec_l01Double_is : FnIs Go.Proofs.Try.prog 43 (modeOf []) (phi [spec_l01Double_s]) := spec_is (c := spec_l01Double_c) seatOK spec_l01Double_t Go.Proofs.Try.func43 rfl (code := spec_l01Double_code) rfl rfl spec_l01Double_rs spec_l01Double_e
noncomputable def spec_l07Led_l0_s : LSum := ⟨0, ⟨[(0, .val (.sl 32 (.pair (.int .i64) (.pair (.int .i64) (.unit)))) .fr), (0, .val (.sl 32 (.pair (.int .i64) (.pair (.int .i64) (.unit)))) .fr), (3, .val (.sl 4 (.bool)) (.own .fr)), (0, .val (.int .i64) .fr)], 33⟩, (.ret, ⟨[(4, .val (.bool) .fr)], 35⟩), [(.exit 0, ⟨[(0, .val (.sl 32 (.pair (.int .i64) (.pair (.int .i64) (.unit)))) .fr), (0, .val (.sl 32 (.pair (.int .i64) (.pair (.int .i64) (.unit)))) .fr)], 38⟩)], spec_l07Led_l0⟩
noncomputable def spec_l07Led_s : Spec := ⟨[.v (.sl 32 (.pair (.int .i64) (.pair (.int .i64) (.unit)))) .fr, .v (.sl 32 (.pair (.int .i64) (.pair (.int .i64) (.unit)))) .fr], Bool, fun v => spec_l07Led v.1 v.2.1, fun r => ([.v (.bool) .fr r], [])⟩
noncomputable def spec_l07Led_ls : List LSum := [spec_l07Led_l0_s]
noncomputable def spec_l07Led_tab : List Row := [⟨43, [], [spec_l01Double_s]⟩, ⟨45, [], [spec_l07Place_s]⟩]
theorem spec_l07Led_t : ∀ r, r ∈ spec_l07Led_tab → RowIs Go.Proofs.Try.prog r := tab_cons (spec_l01Double_is) (tab_cons (spec_l07Place_is) (tab_nil))
theorem spec_l07Led_l0_r : RoundIs (mkCtx Go.K.Link.seat spec_l07Led_c spec_l07Led_tab) (sums spec_l07Led_ls) 0 (bodyAt (loopsOf 0 spec_l07Led_code) 0) spec_l07Led_l0_s := by
  rintro ⟨set, ⟨next', ⟨met, ⟨i, _⟩⟩⟩⟩
  show _ = (spec_l07Led_l0 (set, (next', (met, (i, ()))))).bind fun r : (Ctl ((List (Int × (Int × Unit))) × (List (Int × (Int × Unit))) × (List Bool) × Int × Unit) ((Bool × Unit) ⊕ ((List (Int × (Int × Unit))) × (List (Int × (Int × Unit))) × Unit))) => some (ctlVal spec_l07Led_l0_s r)
  simp only [spec_l07Led_l0, kb_ite, kb_some, kb_none, kb_bind, kb_alt]
  kernel_rfl
theorem spec_l07Led_rs : RoundsOK (mkCtx Go.K.Link.seat spec_l07Led_c spec_l07Led_tab) (sums spec_l07Led_ls) (loopsOf 0 spec_l07Led_code) spec_l07Led_ls := ⟨⟨rfl, rfl, spec_l07Led_l0_r⟩, trivial⟩
theorem spec_l07Led_e : ∀ v, (evFn (mkCtx Go.K.Link.seat spec_l07Led_c spec_l07Led_tab) (sums spec_l07Led_ls) 64 Go.Proofs.Try.f64 (encL spec_l07Led_s.a v)).run = (spec_l07Led_s.gen v).bind fun y => some (spec_l07Led_s.out y) := by
  rintro ⟨set, ⟨next', _⟩⟩
  show _ = (spec_l07Led set next').bind fun y : Bool => some (spec_l07Led_s.out y)
  simp only [spec_l07Led, kb_ite, kb_some, kb_none, kb_bind, kb_alt]
  kernel_rfl
theorem spec_l07Led_is : FnIs Go.Proofs.Try.prog 64 (modeOf []) (phi [spec_l07Led_s]) := spec_is (c := spec_l07Led_c) seatOK spec_l07Led_t Go.Proofs.Try.func64 rfl (code := spec_l07Led_code) rfl rfl spec_l07Led_rs spec_l07Led_e
noncomputable def spec_l07Fails_l0_s : LSum := ⟨0, ⟨[(0, .val (.sl 36 (.sl 32 (.pair (.int .i64) (.pair (.int .i64) (.unit))))) .fr), (2, .val (.int .i64) .fr), (0, .val (.int .i64) .fr)], 118⟩, (.ret, ⟨[(2, .val (.int .i64) .fr)], 120⟩), [(.exit 0, ⟨[(0, .val (.sl 36 (.sl 32 (.pair (.int .i64) (.pair (.int .i64) (.unit))))) .fr), (2, .val (.int .i64) .fr)], 119⟩)], spec_l07Fails_l0⟩
noncomputable def spec_l07Ordered_code : Code := (Go.Proofs.Try.f65.body).getD .skip
def spec_l07Ordered_c : Cfg := ⟨65, [], [[0, 1, 5, 6], [], [4]], [], []⟩
noncomputable def spec_l07Ordered_l0_s : LSum := ⟨0, ⟨[(0, .val (.sl 32 (.pair (.int .i64) (.pair (.int .i64) (.unit)))) .fr), (0, .val (.sl 32 (.pair (.int .i64) (.pair (.int .i64) (.unit)))) .fr), (3, .val (.int .i64) .fr), (0, .val (.int .i64) .fr)], 32⟩, (.ret, ⟨[(4, .val (.bool) .fr)], 34⟩), [(.exit 0, ⟨[], 39⟩)], spec_l07Ordered_l0⟩
noncomputable def spec_l07Ordered_s : Spec := ⟨[.v (.sl 32 (.pair (.int .i64) (.pair (.int .i64) (.unit)))) .fr, .v (.sl 32 (.pair (.int .i64) (.pair (.int .i64) (.unit)))) .fr], Bool, fun v => spec_l07Ordered v.1 v.2.1, fun r => ([.v (.bool) .fr r], [])⟩
noncomputable def spec_l07Ordered_ls : List LSum := [spec_l07Ordered_l0_s]
noncomputable def spec_l07Ordered_tab : List Row := [⟨43, [], [spec_l01Double_s]⟩, ⟨45, [], [spec_l07Place_s]⟩]
theorem spec_l07Ordered_t : ∀ r, r ∈ spec_l07Ordered_tab → RowIs Go.Proofs.Try.prog r := tab_cons (spec_l01Double_is) (tab_cons (spec_l07Place_is) (tab_nil))
theorem spec_l07Ordered_l0_r : RoundIs (mkCtx Go.K.Link.seat spec_l07Ordered_c spec_l07Ordered_tab) (sums spec_l07Ordered_ls) 0 (bodyAt (loopsOf 0 spec_l07Ordered_code) 0) spec_l07Ordered_l0_s := by
  rintro ⟨set, ⟨next', ⟨n, ⟨i, _⟩⟩⟩⟩
  show _ = (spec_l07Ordered_l0 (set, (next', (n, (i, ()))))).bind fun r : (Ctl ((List (Int × (Int × Unit))) × (List (Int × (Int × Unit))) × Int × Int × Unit) ((Bool × Unit) ⊕ (Unit))) => some (ctlVal spec_l07Ordered_l0_s r)
  simp only [spec_l07Ordered_l0, kb_ite, kb_some, kb_none, kb_bind, kb_alt]
  kernel_rfl
theorem spec_l07Ordered_rs : RoundsOK (mkCtx Go.K.Link.seat spec_l07Ordered_c spec_l07Ordered_tab) (sums spec_l07Ordered_ls) (loopsOf 0 spec_l07Ordered_code) spec_l07Ordered_ls := ⟨⟨rfl, rfl, spec_l07Ordered_l0_r⟩, trivial⟩
theorem spec_l07Ordered_e : ∀ v, (evFn (mkCtx Go.K.Link.seat spec_l07Ordered_c spec_l07Ordered_tab) (sums spec_l07Ordered_ls) 65 Go.Proofs.Try.f65 (encL spec_l07Ordered_s.a v)).run = (spec_l07Ordered_s.gen v).bind fun y => some (spec_l07Ordered_s.out y) := by
  rintro ⟨set, ⟨next', _⟩⟩
  show _ = (spec_l07Ordered set next').bind fun y : Bool => some (spec_l07Ordered_s.out y)
  simp only [spec_l07Ordered, kb_ite, kb_some, kb_none, kb_bind, kb_alt]
  kernel_rfl
theorem spec_l07Ordered_is : FnIs Go.Proofs.Try.prog 65 (modeOf []) (phi [spec_l07Ordered_s]) := spec_is (c := spec_l07Ordered_c) seatOK spec_l07Ordered_t Go.Proofs.Try.func65 rfl (code := spec_l07Ordered_code) rfl rfl spec_l07Ordered_rs spec_l07Ordered_e
noncomputable def spec_l07Fails_l1_s : LSum := ⟨2, ⟨[(0, .val (.sl 36 (.sl 32 (.pair (.int .i64) (.pair (.int .i64) (.unit))))) .fr), (2, .val (.int .i64) .fr), (1, .val (.int .i64) .fr)], 117⟩, (.ret, ⟨[(2, .val (.int .i64) .fr)], 120⟩), [(.exit 2, ⟨[(0, .val (.sl 36 (.sl 32 (.pair (.int .i64) (.pair (.int .i64) (.unit))))) .fr), (2, .val (.int .i64) .fr)], 119⟩)], spec_l07Fails_l1⟩
noncomputable def spec_l01Orbit_code : Code := (Go.Proofs.Try.f54.body).getD .skip
def spec_l01Orbit_c : Cfg := ⟨54, [], [[1, 5, 6, 7, 18, 34, 42], [1, 5, 7, 18, 34, 42], [2, 3, 4, 7, 18, 34, 42], [], [], [], [5, 7, 8, 18, 34, 42], [], [2, 3, 4, 7, 18, 34, 42]], [], []⟩
noncomputable def spec_l01Orbit_l0_s : LSum := ⟨0, ⟨[(1, .val (.ptr (.pair (.int .i64) (.pair (.int .i64) (.unit)))) (.own .fr)), (3, .val (.int .i64) .fr), (0, .val (.int .i64) .fr)], 37⟩, (.exit 0, ⟨[(1, .val (.ptr (.pair (.int .i64) (.pair (.int .i64) (.unit)))) (.own .fr)), (3, .val (.int .i64) .fr)], 38⟩), [], spec_l01Orbit_l0⟩
noncomputable def spec_l01Orbit_l1_s : LSum := ⟨2, ⟨[(5, .val (.int .i64) .fr), (1, .val (.sl 32 (.pair (.int .i64) (.pair (.int .i64) (.unit)))) (.own .fr)), (0, .val (.ptr (.pair (.int .i64) (.pair (.int .i64) (.unit)))) (.own .fr))], 35⟩, (.ret, ⟨[(2, .sref 7 []), (0, .val (.int .i64) .fr), (0, .val (.bool) .fr), (2, .val (.sl 32 (.pair (.int .i64) (.pair (.int .i64) (.unit)))) (.own .fr)), (26, .sref 7 [])], 9⟩), [(.ret, ⟨[(2, .val (.sl 32 (.pair (.int .i64) (.pair (.int .i64) (.unit)))) (.own .fr)), (0, .val (.int .i64) .fr), (0, .val (.bool) .fr), (2, .val (.sl 32 (.pair (.int .i64) (.pair (.int .i64) (.unit)))) (.own .fr))], 36⟩)], spec_l01Orbit_l1⟩
noncomputable def spec_l01Orbit_s : Spec := ⟨[.v (.pair (.int .i64) (.pair (.int .i64) (.unit))) .fr], (List (Int × (Int × Unit))) × Int × Bool, fun v => spec_l01Orbit v.1, fun r => ([.v (.sl 32 (.pair (.int .i64) (.pair (.int .i64) (.unit)))) (.own .fr) r.1, .v (.int .i64) .fr r.2.1, .v (.bool) .fr r.2.2], [])⟩
noncomputable def spec_l01Orbit_ls : List LSum := [spec_l01Orbit_l0_s, spec_l01Orbit_l1_s]
noncomputable def spec_l01Orbit_tab : List Row := [⟨43, [], [spec_l01Double_s]⟩]
theorem spec_l01Orbit_t : ∀ r, r ∈ spec_l01Orbit_tab → RowIs Go.Proofs.Try.prog r := tab_cons (spec_l01Double_is) (tab_nil)
theorem spec_l01Orbit_l0_r : RoundIs (mkCtx Go.K.Link.seat spec_l01Orbit_c spec_l01Orbit_tab) (sums spec_l01Orbit_ls) 0 (bodyAt (loopsOf 0 spec_l01Orbit_code) 0) spec_l01Orbit_l0_s := by
  rintro ⟨a, ⟨pre, ⟨den, _⟩⟩⟩
  show _ = (spec_l01Orbit_l0 (a, (pre, (den, ())))).bind fun r : (Ctl (((Int × (Int × Unit))) × Int × Int × Unit) ((((Int × (Int × Unit))) × Int × Unit))) => some (ctlVal spec_l01Orbit_l0_s r)
  simp only [spec_l01Orbit_l0, kb_ite, kb_some, kb_none, kb_bind, kb_alt]
  kernel_rfl
theorem spec_l01Orbit_l1_r : RoundIs (mkCtx Go.K.Link.seat spec_l01Orbit_c spec_l01Orbit_tab) (sums spec_l01Orbit_ls) 2 (bodyAt (loopsOf 0 spec_l01Orbit_code) 1) spec_l01Orbit_l1_s := by
  rintro ⟨pre, ⟨out, ⟨x, _⟩⟩⟩
  show _ = (spec_l01Orbit_l1 (pre, (out, (x, ())))).bind fun r : (Ctl (Int × (List (Int × (Int × Unit))) × ((Int × (Int × Unit))) × Unit) ((Int × Bool × (List (Int × (Int × Unit))) × Unit) ⊕ ((List (Int × (Int × Unit))) × Int × Bool × (List (Int × (Int × Unit))) × Unit))) => some (ctlVal spec_l01Orbit_l1_s r)
  simp only [spec_l01Orbit_l1, kb_ite, kb_some, kb_none, kb_bind, kb_alt]
  kernel_rfl
theorem spec_l01Orbit_rs : RoundsOK (mkCtx Go.K.Link.seat spec_l01Orbit_c spec_l01Orbit_tab) (sums spec_l01Orbit_ls) (loopsOf 0 spec_l01Orbit_code) spec_l01Orbit_ls := ⟨⟨rfl, rfl, spec_l01Orbit_l0_r⟩, ⟨⟨rfl, rfl, spec_l01Orbit_l1_r⟩, trivial⟩⟩
theorem spec_l01Orbit_e : ∀ v, (evFn (mkCtx Go.K.Link.seat spec_l01Orbit_c spec_l01Orbit_tab) (sums spec_l01Orbit_ls) 54 Go.Proofs.Try.f54 (encL spec_l01Orbit_s.a v)).run = (spec_l01Orbit_s.gen v).bind fun y => some (spec_l01Orbit_s.out y) := by
  rintro ⟨a, _⟩
  show _ = (spec_l01Orbit a).bind fun y : (List (Int × (Int × Unit))) × Int × Bool => some (spec_l01Orbit_s.out y)
  simp only [spec_l01Orbit, kb_ite, kb_some, kb_none, kb_bind, kb_alt]
  kernel_rfl
theorem spec_l01Orbit_is : FnIs Go.Proofs.Try.prog 54 (modeOf []) (phi [spec_l01Orbit_s]) := spec_is (c := spec_l01Orbit_c) seatOK spec_l01Orbit_t Go.Proofs.Try.func54 rfl (code := spec_l01Orbit_code) rfl rfl spec_l01Orbit_rs spec_l01Orbit_e
noncomputable def spec_l07Fails_l3_s : LSum := ⟨6, ⟨[(0, .val (.sl 36 (.sl 32 (.pair (.int .i64) (.pair (.int .i64) (.unit))))) .fr), (2, .val (.int .i64) .fr), (2, .val (.int .i64) .fr), (0, .val (.int .i64) .fr), (0, .val (.int .i64) .fr)], 114⟩, (.ret, ⟨[(2, .val (.int .i64) .fr)], 120⟩), [(.exit 6, ⟨[(0, .val (.sl 36 (.sl 32 (.pair (.int .i64) (.pair (.int .i64) (.unit))))) .fr), (2, .val (.int .i64) .fr), (2, .val (.int .i64) .fr), (0, .val (.int .i64) .fr)], 115⟩)], spec_l07Fails_l3⟩
noncomputable def spec_l07Fails_l2_s : LSum := ⟨4, ⟨[(0, .val (.sl 36 (.sl 32 (.pair (.int .i64) (.pair (.int .i64) (.unit))))) .fr), (2, .val (.int .i64) .fr), (2, .val (.int .i64) .fr), (0, .val (.int .i64) .fr)], 115⟩, (.ret, ⟨[(2, .val (.int .i64) .fr)], 120⟩), [(.exit 4, ⟨[(0, .val (.sl 36 (.sl 32 (.pair (.int .i64) (.pair (.int .i64) (.unit))))) .fr), (2, .val (.int .i64) .fr)], 119⟩)], spec_l07Fails_l2⟩
noncomputable def spec_l07Linked_code : Code := (Go.Proofs.Try.f66.body).getD .skip
def spec_l07Linked_c : Cfg := ⟨66, [], [[0, 1, 5, 6], [], [4], [], [], [], [0, 1, 5, 6, 7, 8], [0, 1, 5, 6, 7], [4]], [], []⟩
noncomputable def spec_l01Within_code : Code := (Go.Proofs.Try.f90.body).getD .skip
def spec_l01Within_c : Cfg := ⟨90, [], [], [], []⟩
noncomputable def spec_l01Within_s : Spec := ⟨[.v (.pair (.int .i64) (.pair (.int .i64) (.unit))) .fr, .v (.pair (.int .i64) (.pair (.int .i64) (.unit))) .fr, .v (.pair (.int .i64) (.pair (.int .i64) (.unit))) .fr], Bool, fun v => spec_l01Within v.1 v.2.1 v.2.2.1, fun r => ([.v (.bool) .fr r], [])⟩
noncomputable def spec_l01Within_ls : List LSum := []
noncomputable def spec_l01Within_tab : List Row := [⟨82, [], [spec_l01Less_s]⟩]
theorem spec_l01Within_t : ∀ r, r ∈ spec_l01Within_tab → RowIs Go.Proofs.Try.prog r := tab_cons (spec_l01Less_is) (tab_nil)
theorem spec_l01Within_rs : RoundsOK (mkCtx Go.K.Link.seat spec_l01Within_c spec_l01Within_tab) (sums spec_l01Within_ls) (loopsOf 0 spec_l01Within_code) spec_l01Within_ls := trivial
theorem spec_l01Within_e : ∀ v, (evFn (mkCtx Go.K.Link.seat spec_l01Within_c spec_l01Within_tab) (sums spec_l01Within_ls) 90 Go.Proofs.Try.f90 (encL spec_l01Within_s.a v)).run = (spec_l01Within_s.gen v).bind fun y => some (spec_l01Within_s.out y) := by
  rintro ⟨x, ⟨a, ⟨b, _⟩⟩⟩
  show _ = (spec_l01Within x a b).bind fun y : Bool => some (spec_l01Within_s.out y)
  simp only [spec_l01Within, kb_ite, kb_some, kb_none, kb_bind, kb_alt]
  kernel_rfl
theorem spec_l01Within_is : FnIs Go.Proofs.Try.prog 90 (modeOf []) (phi [spec_l01Within_s]) := spec_is (c := spec_l01Within_c) seatOK spec_l01Within_t Go.Proofs.Try.func90 rfl (code := spec_l01Within_code) rfl rfl spec_l01Within_rs spec_l01Within_e
noncomputable def spec_l07Linked_l1_s : LSum := ⟨2, ⟨[(0, .val (.sl 32 (.pair (.int .i64) (.pair (.int .i64) (.unit)))) .fr), (0, .val (.sl 32 (.pair (.int .i64) (.pair (.int .i64) (.unit)))) .fr), (3, .val (.int .i64) .fr), (0, .val (.int .i64) .fr), (0, .val (.int .i64) .fr), (0, .val (.int .i64) .fr)], 41⟩, (.exit 2, ⟨[(0, .val (.sl 32 (.pair (.int .i64) (.pair (.int .i64) (.unit)))) .fr), (0, .val (.sl 32 (.pair (.int .i64) (.pair (.int .i64) (.unit)))) .fr), (3, .val (.int .i64) .fr), (0, .val (.int .i64) .fr), (0, .val (.int .i64) .fr)], 42⟩), [], spec_l07Linked_l1⟩
noncomputable def spec_l07Linked_l0_s : LSum := ⟨0, ⟨[(0, .val (.sl 32 (.pair (.int .i64) (.pair (.int .i64) (.unit)))) .fr), (0, .val (.sl 32 (.pair (.int .i64) (.pair (.int .i64) (.unit)))) .fr), (3, .val (.int .i64) .fr), (0, .val (.int .i64) .fr)], 43⟩, (.ret, ⟨[(4, .val (.bool) .fr)], 45⟩), [(.exit 0, ⟨[], 50⟩)], spec_l07Linked_l0⟩
noncomputable def spec_l07Linked_s : Spec := ⟨[.v (.sl 32 (.pair (.int .i64) (.pair (.int .i64) (.unit)))) .fr, .v (.sl 32 (.pair (.int .i64) (.pair (.int .i64) (.unit)))) .fr], Bool, fun v => spec_l07Linked v.1 v.2.1, fun r => ([.v (.bool) .fr r], [])⟩
noncomputable def spec_l07Linked_ls : List LSum := [spec_l07Linked_l0_s, spec_l07Linked_l1_s]
noncomputable def spec_l07Linked_tab : List Row := [⟨90, [], [spec_l01Within_s]⟩]
theorem spec_l07Linked_t : ∀ r, r ∈ spec_l07Linked_tab → RowIs Go.Proofs.Try.prog r := tab_cons (spec_l01Within_is) (tab_nil)
theorem spec_l07Linked_l0_r : RoundIs (mkCtx Go.K.Link.seat spec_l07Linked_c spec_l07Linked_tab) (sums spec_l07Linked_ls) 0 (bodyAt (loopsOf 0 spec_l07Linked_code) 0) spec_l07Linked_l0_s := by
  rintro ⟨set, ⟨other, ⟨n, ⟨i, _⟩⟩⟩⟩
  show _ = (spec_l07Linked_l0 (set, (other, (n, (i, ()))))).bind fun r : (Ctl ((List (Int × (Int × Unit))) × (List (Int × (Int × Unit))) × Int × Int × Unit) ((Bool × Unit) ⊕ (Unit))) => some (ctlVal spec_l07Linked_l0_s r)
  simp only [spec_l07Linked_l0, kb_ite, kb_some, kb_none, kb_bind, kb_alt]
  kernel_rfl
theorem spec_l07Linked_l1_r : RoundIs (mkCtx Go.K.Link.seat spec_l07Linked_c spec_l07Linked_tab) (sums spec_l07Linked_ls) 2 (bodyAt (loopsOf 0 spec_l07Linked_code) 1) spec_l07Linked_l1_s := by
  rintro ⟨set, ⟨other, ⟨n, ⟨i, ⟨count, ⟨k, _⟩⟩⟩⟩⟩⟩
  show _ = (spec_l07Linked_l1 (set, (other, (n, (i, (count, (k, ()))))))).bind fun r : (Ctl ((List (Int × (Int × Unit))) × (List (Int × (Int × Unit))) × Int × Int × Int × Int × Unit) (((List (Int × (Int × Unit))) × (List (Int × (Int × Unit))) × Int × Int × Int × Unit))) => some (ctlVal spec_l07Linked_l1_s r)
  simp only [spec_l07Linked_l1, kb_ite, kb_some, kb_none, kb_bind, kb_alt]
  kernel_rfl
theorem spec_l07Linked_rs : RoundsOK (mkCtx Go.K.Link.seat spec_l07Linked_c spec_l07Linked_tab) (sums spec_l07Linked_ls) (loopsOf 0 spec_l07Linked_code) spec_l07Linked_ls := ⟨⟨rfl, rfl, spec_l07Linked_l0_r⟩, ⟨⟨rfl, rfl, spec_l07Linked_l1_r⟩, trivial⟩⟩
theorem spec_l07Linked_e : ∀ v, (evFn (mkCtx Go.K.Link.seat spec_l07Linked_c spec_l07Linked_tab) (sums spec_l07Linked_ls) 66 Go.Proofs.Try.f66 (encL spec_l07Linked_s.a v)).run = (spec_l07Linked_s.gen v).bind fun y => some (spec_l07Linked_s.out y) := by
  rintro ⟨set, ⟨other, _⟩⟩
  show _ = (spec_l07Linked set other).bind fun y : Bool => some (spec_l07Linked_s.out y)
  simp only [spec_l07Linked, kb_ite, kb_some, kb_none, kb_bind, kb_alt]
  kernel_rfl
theorem spec_l07Linked_is : FnIs Go.Proofs.Try.prog 66 (modeOf []) (phi [spec_l07Linked_s]) := spec_is (c := spec_l07Linked_c) seatOK spec_l07Linked_t Go.Proofs.Try.func66 rfl (code := spec_l07Linked_code) rfl rfl spec_l07Linked_rs spec_l07Linked_e
noncomputable def spec_l07Fails_l5_s : LSum := ⟨10, ⟨[(0, .val (.sl 36 (.sl 32 (.pair (.int .i64) (.pair (.int .i64) (.unit))))) .fr), (2, .val (.int .i64) .fr), (8, .val (.int .i64) .fr), (0, .val (.int .i64) .fr)], 109⟩, (.ret, ⟨[(2, .val (.int .i64) .fr)], 120⟩), [(.exit 10, ⟨[(0, .val (.sl 36 (.sl 32 (.pair (.int .i64) (.pair (.int .i64) (.unit))))) .fr), (2, .val (.int .i64) .fr), (8, .val (.int .i64) .fr)], 110⟩)], spec_l07Fails_l5⟩
noncomputable def spec_l07Fails_l4_s : LSum := ⟨8, ⟨[(0, .val (.sl 36 (.sl 32 (.pair (.int .i64) (.pair (.int .i64) (.unit))))) .fr), (2, .val (.int .i64) .fr), (8, .val (.int .i64) .fr)], 110⟩, (.ret, ⟨[(2, .val (.int .i64) .fr)], 120⟩), [(.exit 8, ⟨[], 123⟩)], spec_l07Fails_l4⟩
noncomputable def spec_l07Fails_s : Spec := ⟨[.v (.sl 36 (.sl 32 (.pair (.int .i64) (.pair (.int .i64) (.unit))))) .fr], Int, fun v => spec_l07Fails v.1, fun r => ([.v (.int .i64) .fr r], [])⟩
noncomputable def spec_l07Fails_ls : List LSum := [spec_l07Fails_l0_s, spec_l07Fails_l1_s, spec_l07Fails_l2_s, spec_l07Fails_l3_s, spec_l07Fails_l4_s, spec_l07Fails_l5_s]
noncomputable def spec_l07Fails_tab : List Row := [⟨64, [], [spec_l07Led_s]⟩, ⟨65, [], [spec_l07Ordered_s]⟩, ⟨66, [], [spec_l07Linked_s]⟩, ⟨54, [], [spec_l01Orbit_s]⟩, ⟨63, [], [spec_l07Apart_s]⟩]
theorem spec_l07Fails_t : ∀ r, r ∈ spec_l07Fails_tab → RowIs Go.Proofs.Try.prog r := tab_cons (spec_l07Led_is) (tab_cons (spec_l07Ordered_is) (tab_cons (spec_l07Linked_is) (tab_cons (spec_l01Orbit_is) (tab_cons (spec_l07Apart_is) (tab_nil)))))
theorem spec_l07Fails_l0_r : RoundIs (mkCtx Go.K.Link.seat spec_l07Fails_c spec_l07Fails_tab) (sums spec_l07Fails_ls) 0 (bodyAt (loopsOf 0 spec_l07Fails_code) 0) spec_l07Fails_l0_s := by
  rintro ⟨sets, ⟨p, ⟨i, _⟩⟩⟩
  show _ = (spec_l07Fails_l0 (sets, (p, (i, ())))).bind fun r : (Ctl ((List (List (Int × (Int × Unit)))) × Int × Int × Unit) ((Int × Unit) ⊕ ((List (List (Int × (Int × Unit)))) × Int × Unit))) => some (ctlVal spec_l07Fails_l0_s r)
  simp only [spec_l07Fails_l0, kb_ite, kb_some, kb_none, kb_bind, kb_alt]
  kernel_rfl
theorem spec_l07Fails_l1_r : RoundIs (mkCtx Go.K.Link.seat spec_l07Fails_c spec_l07Fails_tab) (sums spec_l07Fails_ls) 2 (bodyAt (loopsOf 0 spec_l07Fails_code) 1) spec_l07Fails_l1_s := by
  rintro ⟨sets, ⟨p, ⟨i, _⟩⟩⟩
  show _ = (spec_l07Fails_l1 (sets, (p, (i, ())))).bind fun r : (Ctl ((List (List (Int × (Int × Unit)))) × Int × Int × Unit) ((Int × Unit) ⊕ ((List (List (Int × (Int × Unit)))) × Int × Unit))) => some (ctlVal spec_l07Fails_l1_s r)
  simp only [spec_l07Fails_l1, kb_ite, kb_some, kb_none, kb_bind, kb_alt]
  kernel_rfl
theorem spec_l07Fails_l2_r : RoundIs (mkCtx Go.K.Link.seat spec_l07Fails_c spec_l07Fails_tab) (sums spec_l07Fails_ls) 4 (bodyAt (loopsOf 0 spec_l07Fails_code) 2) spec_l07Fails_l2_s := by
  rintro ⟨sets, ⟨p, ⟨period, ⟨i, _⟩⟩⟩⟩
  show _ = (spec_l07Fails_l2 (sets, (p, (period, (i, ()))))).bind fun r : (Ctl ((List (List (Int × (Int × Unit)))) × Int × Int × Int × Unit) ((Int × Unit) ⊕ ((List (List (Int × (Int × Unit)))) × Int × Unit))) => some (ctlVal spec_l07Fails_l2_s r)
  simp only [spec_l07Fails_l2, kb_ite, kb_some, kb_none, kb_bind, kb_alt]
  kernel_rfl
theorem spec_l07Fails_l3_r : RoundIs (mkCtx Go.K.Link.seat spec_l07Fails_c spec_l07Fails_tab) (sums spec_l07Fails_ls) 6 (bodyAt (loopsOf 0 spec_l07Fails_code) 3) spec_l07Fails_l3_s := by
  rintro ⟨sets, ⟨p, ⟨period, ⟨i, ⟨k, _⟩⟩⟩⟩⟩
  show _ = (spec_l07Fails_l3 (sets, (p, (period, (i, (k, ())))))).bind fun r : (Ctl ((List (List (Int × (Int × Unit)))) × Int × Int × Int × Int × Unit) ((Int × Unit) ⊕ ((List (List (Int × (Int × Unit)))) × Int × Int × Int × Unit))) => some (ctlVal spec_l07Fails_l3_s r)
  simp only [spec_l07Fails_l3, kb_ite, kb_some, kb_none, kb_bind, kb_alt]
  kernel_rfl
theorem spec_l07Fails_l4_r : RoundIs (mkCtx Go.K.Link.seat spec_l07Fails_c spec_l07Fails_tab) (sums spec_l07Fails_ls) 8 (bodyAt (loopsOf 0 spec_l07Fails_code) 4) spec_l07Fails_l4_s := by
  rintro ⟨sets, ⟨p, ⟨i, _⟩⟩⟩
  show _ = (spec_l07Fails_l4 (sets, (p, (i, ())))).bind fun r : (Ctl ((List (List (Int × (Int × Unit)))) × Int × Int × Unit) ((Int × Unit) ⊕ (Unit))) => some (ctlVal spec_l07Fails_l4_s r)
  simp only [spec_l07Fails_l4, kb_ite, kb_some, kb_none, kb_bind, kb_alt]
  kernel_rfl
theorem spec_l07Fails_l5_r : RoundIs (mkCtx Go.K.Link.seat spec_l07Fails_c spec_l07Fails_tab) (sums spec_l07Fails_ls) 10 (bodyAt (loopsOf 0 spec_l07Fails_code) 5) spec_l07Fails_l5_s := by
  rintro ⟨sets, ⟨p, ⟨i, ⟨k, _⟩⟩⟩⟩
  show _ = (spec_l07Fails_l5 (sets, (p, (i, (k, ()))))).bind fun r : (Ctl ((List (List (Int × (Int × Unit)))) × Int × Int × Int × Unit) ((Int × Unit) ⊕ ((List (List (Int × (Int × Unit)))) × Int × Int × Unit))) => some (ctlVal spec_l07Fails_l5_s r)
  simp only [spec_l07Fails_l5, kb_ite, kb_some, kb_none, kb_bind, kb_alt]
  kernel_rfl
theorem spec_l07Fails_rs : RoundsOK (mkCtx Go.K.Link.seat spec_l07Fails_c spec_l07Fails_tab) (sums spec_l07Fails_ls) (loopsOf 0 spec_l07Fails_code) spec_l07Fails_ls := ⟨⟨rfl, rfl, spec_l07Fails_l0_r⟩, ⟨⟨rfl, rfl, spec_l07Fails_l1_r⟩, ⟨⟨rfl, rfl, spec_l07Fails_l2_r⟩, ⟨⟨rfl, rfl, spec_l07Fails_l3_r⟩, ⟨⟨rfl, rfl, spec_l07Fails_l4_r⟩, ⟨⟨rfl, rfl, spec_l07Fails_l5_r⟩, trivial⟩⟩⟩⟩⟩⟩
theorem spec_l07Fails_e : ∀ v, (evFn (mkCtx Go.K.Link.seat spec_l07Fails_c spec_l07Fails_tab) (sums spec_l07Fails_ls) 33 Go.Proofs.Try.f33 (encL spec_l07Fails_s.a v)).run = (spec_l07Fails_s.gen v).bind fun y => some (spec_l07Fails_s.out y) := by
  rintro ⟨sets, _⟩
  show _ = (spec_l07Fails sets).bind fun y : Int => some (spec_l07Fails_s.out y)
  simp only [spec_l07Fails, kb_ite, kb_some, kb_none, kb_bind, kb_alt]
  kernel_rfl
theorem spec_l07Fails_is : FnIs Go.Proofs.Try.prog 33 (modeOf []) (phi [spec_l07Fails_s]) := spec_is (c := spec_l07Fails_c) seatOK spec_l07Fails_t Go.Proofs.Try.func33 rfl (code := spec_l07Fails_code) rfl rfl spec_l07Fails_rs spec_l07Fails_e
noncomputable def spec_PortraitThatFails_s : Spec := ⟨[.v (.sl 36 (.sl 32 (.pair (.int .i64) (.pair (.int .i64) (.unit))))) .fr], Int × Int, fun v => spec_PortraitThatFails v.1, fun r => ([.v (.int .i64) .fr r.1, .v (.int .i64) .fr r.2], [])⟩
noncomputable def spec_PortraitThatFails_ls : List LSum := []
noncomputable def spec_PortraitThatFails_tab : List Row := [⟨32, [], [spec_l07Lists_s]⟩, ⟨33, [], [spec_l07Fails_s]⟩]
theorem spec_PortraitThatFails_t : ∀ r, r ∈ spec_PortraitThatFails_tab → RowIs Go.Proofs.Try.prog r := tab_cons (spec_l07Lists_is) (tab_cons (spec_l07Fails_is) (tab_nil))
theorem spec_PortraitThatFails_rs : RoundsOK (mkCtx Go.K.Link.seat spec_PortraitThatFails_c spec_PortraitThatFails_tab) (sums spec_PortraitThatFails_ls) (loopsOf 0 spec_PortraitThatFails_code) spec_PortraitThatFails_ls := trivial
theorem spec_PortraitThatFails_e : ∀ v, (evFn (mkCtx Go.K.Link.seat spec_PortraitThatFails_c spec_PortraitThatFails_tab) (sums spec_PortraitThatFails_ls) 10 Go.Proofs.Try.f10 (encL spec_PortraitThatFails_s.a v)).run = (spec_PortraitThatFails_s.gen v).bind fun y => some (spec_PortraitThatFails_s.out y) := by
  rintro ⟨sets, _⟩
  show _ = (spec_PortraitThatFails sets).bind fun y : Int × Int => some (spec_PortraitThatFails_s.out y)
  simp only [spec_PortraitThatFails, kb_ite, kb_some, kb_none, kb_bind, kb_alt]
  kernel_rfl
theorem spec_PortraitThatFails_is : FnIs Go.Proofs.Try.prog 10 (modeOf []) (phi [spec_PortraitThatFails_s]) := spec_is (c := spec_PortraitThatFails_c) seatOK spec_PortraitThatFails_t Go.Proofs.Try.func10 rfl (code := spec_PortraitThatFails_code) rfl rfl spec_PortraitThatFails_rs spec_PortraitThatFails_e
noncomputable def impl_PortraitThatFails_code : Code := (Go.Proofs.Try.f12.body).getD .skip
def impl_PortraitThatFails_c : Cfg := ⟨12, [], [], [], []⟩
noncomputable def slices_Concat__impl_Angle_impl_Angle_code : Code := (Go.Proofs.Try.f36.body).getD .skip
def slices_Concat__impl_Angle_impl_Angle_c : Cfg := ⟨36, [], [[0, 3, 9, 10, 11, 33], [0, 3, 33], [2, 6, 24, 33, 35], [], [], [], [0, 6, 24, 25, 26, 27, 33], [6, 24, 33], [2, 6, 24, 33, 35]], [], []⟩
noncomputable def slices_Concat__impl_Angle_impl_Angle_l0_s : LSum := ⟨0, ⟨[(0, .val (.sl 36 (.sl 32 (.pair (.int .i64) (.pair (.int .i64) (.unit))))) .fr), (2, .val (.int .i64) .fr), (5, .val (.sl 36 (.sl 32 (.pair (.int .i64) (.pair (.int .i64) (.unit))))) .fr), (0, .val (.int .i64) .fr), (0, .val (.int .i64) .fr)], 24⟩, (.exit 0, ⟨[(0, .val (.sl 36 (.sl 32 (.pair (.int .i64) (.pair (.int .i64) (.unit))))) .fr), (2, .val (.int .i64) .fr)], 32⟩), [], slices_Concat__impl_Angle_impl_Angle_l0⟩
noncomputable def slices_Grow__impl_Angle_impl_Angle_s : Spec := ⟨[.v (.sl 32 (.pair (.int .i64) (.pair (.int .i64) (.unit)))) (.own .fr), .v (.int .i64) .fr], List (Int × (Int × Unit)), fun v => slices_Grow__impl_Angle_impl_Angle v.1 v.2.1, fun r => ([.v (.sl 32 (.pair (.int .i64) (.pair (.int .i64) (.unit)))) (.own .fr) r], [])⟩
theorem slices_Grow__impl_Angle_impl_Angle_is : FnIs Go.Proofs.Try.prog 69 (modeOf [.own]) (phi [slices_Grow__impl_Angle_impl_Angle_s]) := grow_is (TS := 36) (TE := 32) (e := (.pair (.int .i64) (.pair (.int .i64) (.unit)))) (q := .fr) (bytes := 16) ⟨Go.Proofs.Try.underlying36, by kernel_rfl, Go.Proofs.Try.isAgg36, Go.Proofs.Try.sizeOf36, Go.Proofs.Try.sizeOf32, by decide, by decide⟩ Go.Proofs.Try.underlying3 Go.Proofs.Try.func69 rfl rfl rfl rfl
noncomputable def slices_Concat__impl_Angle_impl_Angle_l1_s : LSum := ⟨2, ⟨[(0, .val (.sl 36 (.sl 32 (.pair (.int .i64) (.pair (.int .i64) (.unit))))) .fr), (5, .val (.sl 32 (.pair (.int .i64) (.pair (.int .i64) (.unit)))) (.own .fr)), (18, .val (.sl 36 (.sl 32 (.pair (.int .i64) (.pair (.int .i64) (.unit))))) .fr), (0, .val (.int .i64) .fr), (0, .val (.int .i64) .fr)], 8⟩, (.exit 2, ⟨[(6, .val (.sl 32 (.pair (.int .i64) (.pair (.int .i64) (.unit)))) (.own .fr))], 29⟩), [], slices_Concat__impl_Angle_impl_Angle_l1⟩
noncomputable def slices_Concat__impl_Angle_impl_Angle_s : Spec := ⟨[.v (.sl 36 (.sl 32 (.pair (.int .i64) (.pair (.int .i64) (.unit))))) .fr], (List (Int × (Int × Unit))), fun v => slices_Concat__impl_Angle_impl_Angle v.1, fun r => ([.v (.sl 32 (.pair (.int .i64) (.pair (.int .i64) (.unit)))) (.own .fr) r], [])⟩
noncomputable def slices_Concat__impl_Angle_impl_Angle_ls : List LSum := [slices_Concat__impl_Angle_impl_Angle_l0_s, slices_Concat__impl_Angle_impl_Angle_l1_s]
noncomputable def slices_Concat__impl_Angle_impl_Angle_tab : List Row := [⟨69, [.own], [slices_Grow__impl_Angle_impl_Angle_s]⟩]
theorem slices_Concat__impl_Angle_impl_Angle_t : ∀ r, r ∈ slices_Concat__impl_Angle_impl_Angle_tab → RowIs Go.Proofs.Try.prog r := tab_cons (slices_Grow__impl_Angle_impl_Angle_is) (tab_nil)
theorem slices_Concat__impl_Angle_impl_Angle_l0_r : RoundIs (mkCtx Go.K.Link.seat slices_Concat__impl_Angle_impl_Angle_c slices_Concat__impl_Angle_impl_Angle_tab) (sums slices_Concat__impl_Angle_impl_Angle_ls) 0 (bodyAt (loopsOf 0 slices_Concat__impl_Angle_impl_Angle_code) 0) slices_Concat__impl_Angle_impl_Angle_l0_s := by
  rintro ⟨slices, ⟨size, ⟨t9, ⟨t10, ⟨t11, _⟩⟩⟩⟩⟩
  show _ = (slices_Concat__impl_Angle_impl_Angle_l0 (slices, (size, (t9, (t10, (t11, ())))))).bind fun r : (Ctl ((List (List (Int × (Int × Unit)))) × Int × (List (List (Int × (Int × Unit)))) × Int × Int × Unit) (((List (List (Int × (Int × Unit)))) × Int × Unit))) => some (ctlVal slices_Concat__impl_Angle_impl_Angle_l0_s r)
  simp only [slices_Concat__impl_Angle_impl_Angle_l0, kb_ite, kb_some, kb_none, kb_bind, kb_alt]
  kernel_rfl
theorem slices_Concat__impl_Angle_impl_Angle_l1_r : RoundIs (mkCtx Go.K.Link.seat slices_Concat__impl_Angle_impl_Angle_c slices_Concat__impl_Angle_impl_Angle_tab) (sums slices_Concat__impl_Angle_impl_Angle_ls) 2 (bodyAt (loopsOf 0 slices_Concat__impl_Angle_impl_Angle_code) 1) slices_Concat__impl_Angle_impl_Angle_l1_s := by
  rintro ⟨slices, ⟨newslice, ⟨t25, ⟨t26, ⟨t27, _⟩⟩⟩⟩⟩
  show _ = (slices_Concat__impl_Angle_impl_Angle_l1 (slices, (newslice, (t25, (t26, (t27, ())))))).bind fun r : (Ctl ((List (List (Int × (Int × Unit)))) × (List (Int × (Int × Unit))) × (List (List (Int × (Int × Unit)))) × Int × Int × Unit) (((List (Int × (Int × Unit))) × Unit))) => some (ctlVal slices_Concat__impl_Angle_impl_Angle_l1_s r)
  simp only [slices_Concat__impl_Angle_impl_Angle_l1, kb_ite, kb_some, kb_none, kb_bind, kb_alt]
  kernel_rfl
theorem slices_Concat__impl_Angle_impl_Angle_rs : RoundsOK (mkCtx Go.K.Link.seat slices_Concat__impl_Angle_impl_Angle_c slices_Concat__impl_Angle_impl_Angle_tab) (sums slices_Concat__impl_Angle_impl_Angle_ls) (loopsOf 0 slices_Concat__impl_Angle_impl_Angle_code) slices_Concat__impl_Angle_impl_Angle_ls := ⟨⟨rfl, rfl, slices_Concat__impl_Angle_impl_Angle_l0_r⟩, ⟨⟨rfl, rfl, slices_Concat__impl_Angle_impl_Angle_l1_r⟩, trivial⟩⟩
theorem slices_Concat__impl_Angle_impl_Angle_e : ∀ v, (evFn (mkCtx Go.K.Link.seat slices_Concat__impl_Angle_impl_Angle_c slices_Concat__impl_Angle_impl_Angle_tab) (sums slices_Concat__impl_Angle_impl_Angle_ls) 36 Go.Proofs.Try.f36 (encL slices_Concat__impl_Angle_impl_Angle_s.a v)).run = (slices_Concat__impl_Angle_impl_Angle_s.gen v).bind fun y => some (slices_Concat__impl_Angle_impl_Angle_s.out y) := by
  rintro ⟨slices, _⟩
  show _ = (slices_Concat__impl_Angle_impl_Angle slices).bind fun y : (List (Int × (Int × Unit))) => some (slices_Concat__impl_Angle_impl_Angle_s.out y)
  simp only [slices_Concat__impl_Angle_impl_Angle, kb_ite, kb_some, kb_none, kb_bind, kb_alt]
  kernel_rfl
theorem slices_Concat__impl_Angle_impl_Angle_is : FnIs Go.Proofs.Try.prog 36 (modeOf []) (phi [slices_Concat__impl_Angle_impl_Angle_s]) := spec_is (c := slices_Concat__impl_Angle_impl_Angle_c) seatOK slices_Concat__impl_Angle_impl_Angle_t Go.Proofs.Try.func36 rfl (code := slices_Concat__impl_Angle_impl_Angle_code) rfl rfl slices_Concat__impl_Angle_impl_Angle_rs slices_Concat__impl_Angle_impl_Angle_e
noncomputable def impl_anglesCode_code : Code := (Go.Proofs.Try.f35.body).getD .skip
def impl_anglesCode_c : Cfg := ⟨35, [], [], [], []⟩
noncomputable def impl_areAll_impl_Angle_code : Code := (Go.Proofs.Try.f67.body).getD .skip
def impl_areAll_impl_Angle_c : Cfg := ⟨67, [], [], [], []⟩
noncomputable def slices_ContainsFunc__impl_Angle_impl_Angle_code : Code := (Go.Proofs.Try.f91.body).getD .skip
def slices_ContainsFunc__impl_Angle_impl_Angle_c : Cfg := ⟨91, [], [], [], []⟩
noncomputable def slices_IndexFunc__impl_Angle_impl_Angle_code : Code := (Go.Proofs.Try.f101.body).getD .skip
def slices_IndexFunc__impl_Angle_impl_Angle_c : Cfg := ⟨101, [], [[0, 1, 7, 8], [], [4]], [], []⟩
noncomputable def impl_areAll_impl_Angle_f1_code : Code := (Go.Proofs.Try.f92.body).getD .skip
def impl_areAll_impl_Angle_f1_c : Cfg := ⟨92, [], [], [], []⟩
noncomputable def impl_IsAngle_code : Code := (Go.Proofs.Try.f68.body).getD .skip
def impl_IsAngle_c : Cfg := ⟨68, [], [], [], []⟩
noncomputable def impl_within_code : Code := (Go.Proofs.Try.f70.body).getD .skip
def impl_within_c : Cfg := ⟨70, [], [], [], []⟩
noncomputable def impl_within_s : Spec := ⟨[.v (.int .i64) .fr, .v (.int .i64) .fr, .v (.int .i64) .fr], Bool, fun v => impl_within v.1 v.2.1 v.2.2.1, fun r => ([.v (.bool) .fr r], [])⟩
noncomputable def impl_within_ls : List LSum := []
noncomputable def impl_within_tab : List Row := []
theorem impl_within_t : ∀ r, r ∈ impl_within_tab → RowIs Go.Proofs.Try.prog r := tab_nil
theorem impl_within_rs : RoundsOK (mkCtx Go.K.Link.seat impl_within_c impl_within_tab) (sums impl_within_ls) (loopsOf 0 impl_within_code) impl_within_ls := trivial
theorem impl_within_e : ∀ v, (evFn (mkCtx Go.K.Link.seat impl_within_c impl_within_tab) (sums impl_within_ls) 70 Go.Proofs.Try.f70 (encL impl_within_s.a v)).run = (impl_within_s.gen v).bind fun y => some (impl_within_s.out y) := by
  rintro ⟨n, ⟨low, ⟨high, _⟩⟩⟩
  show _ = (impl_within n low high).bind fun y : Bool => some (impl_within_s.out y)
  simp only [impl_within, kb_ite, kb_some, kb_none, kb_bind, kb_alt]
  kernel_rfl
theorem impl_within_is : FnIs Go.Proofs.Try.prog 70 (modeOf []) (phi [impl_within_s]) := spec_is (c := impl_within_c) seatOK impl_within_t Go.Proofs.Try.func70 rfl (code := impl_within_code) rfl rfl impl_within_rs impl_within_e
noncomputable def impl_divisor_code : Code := (Go.Proofs.Try.f81.body).getD .skip
def impl_divisor_c : Cfg := ⟨81, [], [[0, 1], [0], [4]], [], []⟩
noncomputable def impl_divisor_l0_s : LSum := ⟨0, ⟨[(0, .val (.int .i64) .fr), (0, .val (.int .i64) .fr)], 10⟩, (.exit 0, ⟨[(0, .val (.int .i64) .fr)], 11⟩), [], impl_divisor_l0⟩
noncomputable def impl_divisor_s : Spec := ⟨[.v (.int .i64) .fr, .v (.int .i64) .fr], Int, fun v => impl_divisor v.1 v.2.1, fun r => ([.v (.int .i64) .fr r], [])⟩
noncomputable def impl_divisor_ls : List LSum := [impl_divisor_l0_s]
noncomputable def impl_divisor_tab : List Row := []
theorem impl_divisor_t : ∀ r, r ∈ impl_divisor_tab → RowIs Go.Proofs.Try.prog r := tab_nil
theorem impl_divisor_l0_r : RoundIs (mkCtx Go.K.Link.seat impl_divisor_c impl_divisor_tab) (sums impl_divisor_ls) 0 (bodyAt (loopsOf 0 impl_divisor_code) 0) impl_divisor_l0_s := by
  rintro ⟨a, ⟨b, _⟩⟩
  show _ = (impl_divisor_l0 (a, (b, ()))).bind fun r : (Ctl (Int × Int × Unit) ((Int × Unit))) => some (ctlVal impl_divisor_l0_s r)
  simp only [impl_divisor_l0, kb_ite, kb_some, kb_none, kb_bind, kb_alt]
  kernel_rfl
theorem impl_divisor_rs : RoundsOK (mkCtx Go.K.Link.seat impl_divisor_c impl_divisor_tab) (sums impl_divisor_ls) (loopsOf 0 impl_divisor_code) impl_divisor_ls := ⟨⟨rfl, rfl, impl_divisor_l0_r⟩, trivial⟩
theorem impl_divisor_e : ∀ v, (evFn (mkCtx Go.K.Link.seat impl_divisor_c impl_divisor_tab) (sums impl_divisor_ls) 81 Go.Proofs.Try.f81 (encL impl_divisor_s.a v)).run = (impl_divisor_s.gen v).bind fun y => some (impl_divisor_s.out y) := by
  rintro ⟨a, ⟨b, _⟩⟩
  show _ = (impl_divisor a b).bind fun y : Int => some (impl_divisor_s.out y)
  simp only [impl_divisor, kb_ite, kb_some, kb_none, kb_bind, kb_alt]
  kernel_rfl
theorem impl_divisor_is : FnIs Go.Proofs.Try.prog 81 (modeOf []) (phi [impl_divisor_s]) := spec_is (c := impl_divisor_c) seatOK impl_divisor_t Go.Proofs.Try.func81 rfl (code := impl_divisor_code) rfl rfl impl_divisor_rs impl_divisor_e
noncomputable def impl_IsAngle_s : Spec := ⟨[.v (.pair (.int .i64) (.pair (.int .i64) (.unit))) .fr], Bool, fun v => impl_IsAngle v.1, fun r => ([.v (.bool) .fr r], [])⟩
noncomputable def impl_IsAngle_ls : List LSum := []
noncomputable def impl_IsAngle_tab : List Row := [⟨70, [], [impl_within_s]⟩, ⟨81, [], [impl_divisor_s]⟩]
theorem impl_IsAngle_t : ∀ r, r ∈ impl_IsAngle_tab → RowIs Go.Proofs.Try.prog r := tab_cons (impl_within_is) (tab_cons (impl_divisor_is) (tab_nil))
theorem impl_IsAngle_rs : RoundsOK (mkCtx Go.K.Link.seat impl_IsAngle_c impl_IsAngle_tab) (sums impl_IsAngle_ls) (loopsOf 0 impl_IsAngle_code) impl_IsAngle_ls := trivial
theorem impl_IsAngle_e : ∀ v, (evFn (mkCtx Go.K.Link.seat impl_IsAngle_c impl_IsAngle_tab) (sums impl_IsAngle_ls) 68 Go.Proofs.Try.f68 (encL impl_IsAngle_s.a v)).run = (impl_IsAngle_s.gen v).bind fun y => some (impl_IsAngle_s.out y) := by
  rintro ⟨a, _⟩
  show _ = (impl_IsAngle a).bind fun y : Bool => some (impl_IsAngle_s.out y)
  simp only [impl_IsAngle, kb_ite, kb_some, kb_none, kb_bind, kb_alt]
  kernel_rfl
theorem impl_IsAngle_is : FnIs Go.Proofs.Try.prog 68 (modeOf []) (phi [impl_IsAngle_s]) := spec_is (c := impl_IsAngle_c) seatOK impl_IsAngle_t Go.Proofs.Try.func68 rfl (code := impl_IsAngle_code) rfl rfl impl_IsAngle_rs impl_IsAngle_e
noncomputable def impl_areAll_impl_Angle_f1_s : Spec := ⟨[.v (.pair (.int .i64) (.pair (.int .i64) (.unit))) .fr, .pfn 68 [] []], Bool, fun v => impl_areAll_impl_Angle_f1 v.1, fun r => ([.v (.bool) .fr r], [])⟩
noncomputable def impl_areAll_impl_Angle_f1_ls : List LSum := []
noncomputable def impl_areAll_impl_Angle_f1_tab : List Row := [⟨68, [], [impl_IsAngle_s]⟩]
theorem impl_areAll_impl_Angle_f1_t : ∀ r, r ∈ impl_areAll_impl_Angle_f1_tab → RowIs Go.Proofs.Try.prog r := tab_cons (impl_IsAngle_is) (tab_nil)
theorem impl_areAll_impl_Angle_f1_rs : RoundsOK (mkCtx Go.K.Link.seat impl_areAll_impl_Angle_f1_c impl_areAll_impl_Angle_f1_tab) (sums impl_areAll_impl_Angle_f1_ls) (loopsOf 0 impl_areAll_impl_Angle_f1_code) impl_areAll_impl_Angle_f1_ls := trivial
theorem impl_areAll_impl_Angle_f1_e : ∀ v, (evFn (mkCtx Go.K.Link.seat impl_areAll_impl_Angle_f1_c impl_areAll_impl_Angle_f1_tab) (sums impl_areAll_impl_Angle_f1_ls) 92 Go.Proofs.Try.f92 (encL impl_areAll_impl_Angle_f1_s.a v)).run = (impl_areAll_impl_Angle_f1_s.gen v).bind fun y => some (impl_areAll_impl_Angle_f1_s.out y) := by
  rintro ⟨x, ⟨⟨_, _⟩, _⟩⟩
  show _ = (impl_areAll_impl_Angle_f1 x).bind fun y : Bool => some (impl_areAll_impl_Angle_f1_s.out y)
  simp only [impl_areAll_impl_Angle_f1, kb_ite, kb_some, kb_none, kb_bind, kb_alt]
  kernel_rfl
theorem impl_areAll_impl_Angle_f1_is : FnIs Go.Proofs.Try.prog 92 (modeOf []) (phi [impl_areAll_impl_Angle_f1_s]) := spec_is (c := impl_areAll_impl_Angle_f1_c) seatOK impl_areAll_impl_Angle_f1_t Go.Proofs.Try.func92 rfl (code := impl_areAll_impl_Angle_f1_code) rfl rfl impl_areAll_impl_Angle_f1_rs impl_areAll_impl_Angle_f1_e
noncomputable def slices_IndexFunc__impl_Angle_impl_Angle_l0_s : LSum := ⟨0, ⟨[(0, .val (.sl 32 (.pair (.int .i64) (.pair (.int .i64) (.unit)))) .fr), (0, .fnl 92 [] [.arg (.pfn 68 [] [])]), (5, .val (.int .i64) .fr), (0, .val (.int .i64) .fr)], 10⟩, (.ret, ⟨[(4, .val (.int .i64) .fr)], 14⟩), [(.exit 0, ⟨[], 19⟩)], slices_IndexFunc__impl_Angle_impl_Angle_l0⟩
noncomputable def slices_IndexFunc__impl_Angle_impl_Angle_s : Spec := ⟨[.v (.sl 32 (.pair (.int .i64) (.pair (.int .i64) (.unit)))) .fr, .fn 92 [] [.pfn 68 [] []]], Int, fun v => slices_IndexFunc__impl_Angle_impl_Angle v.1, fun r => ([.v (.int .i64) .fr r], [])⟩
noncomputable def slices_IndexFunc__impl_Angle_impl_Angle_ls : List LSum := [slices_IndexFunc__impl_Angle_impl_Angle_l0_s]
noncomputable def slices_IndexFunc__impl_Angle_impl_Angle_tab : List Row := [⟨92, [], [impl_areAll_impl_Angle_f1_s]⟩]
theorem slices_IndexFunc__impl_Angle_impl_Angle_t : ∀ r, r ∈ slices_IndexFunc__impl_Angle_impl_Angle_tab → RowIs Go.Proofs.Try.prog r := tab_cons (impl_areAll_impl_Angle_f1_is) (tab_nil)
theorem slices_IndexFunc__impl_Angle_impl_Angle_l0_r : RoundIs (mkCtx Go.K.Link.seat slices_IndexFunc__impl_Angle_impl_Angle_c slices_IndexFunc__impl_Angle_impl_Angle_tab) (sums slices_IndexFunc__impl_Angle_impl_Angle_ls) 0 (bodyAt (loopsOf 0 slices_IndexFunc__impl_Angle_impl_Angle_code) 0) slices_IndexFunc__impl_Angle_impl_Angle_l0_s := by
  rintro ⟨s, ⟨_, ⟨⟨_, _⟩, _⟩, ⟨t7, ⟨t8, _⟩⟩⟩⟩
  show _ = (slices_IndexFunc__impl_Angle_impl_Angle_l0 (s, ((), (((), ()), ()), (t7, (t8, ()))))).bind fun r : (Ctl ((List (Int × (Int × Unit))) × Unit × ((Unit × Unit) × Unit) × Int × Int × Unit) ((Int × Unit) ⊕ (Unit))) => some (ctlVal slices_IndexFunc__impl_Angle_impl_Angle_l0_s r)
  simp only [slices_IndexFunc__impl_Angle_impl_Angle_l0, kb_ite, kb_some, kb_none, kb_bind, kb_alt]
  kernel_rfl
theorem slices_IndexFunc__impl_Angle_impl_Angle_rs : RoundsOK (mkCtx Go.K.Link.seat slices_IndexFunc__impl_Angle_impl_Angle_c slices_IndexFunc__impl_Angle_impl_Angle_tab) (sums slices_IndexFunc__impl_Angle_impl_Angle_ls) (loopsOf 0 slices_IndexFunc__impl_Angle_impl_Angle_code) slices_IndexFunc__impl_Angle_impl_Angle_ls := ⟨⟨rfl, rfl, slices_IndexFunc__impl_Angle_impl_Angle_l0_r⟩, trivial⟩
theorem slices_IndexFunc__impl_Angle_impl_Angle_e : ∀ v, (evFn (mkCtx Go.K.Link.seat slices_IndexFunc__impl_Angle_impl_Angle_c slices_IndexFunc__impl_Angle_impl_Angle_tab) (sums slices_IndexFunc__impl_Angle_impl_Angle_ls) 101 Go.Proofs.Try.f101 (encL slices_IndexFunc__impl_Angle_impl_Angle_s.a v)).run = (slices_IndexFunc__impl_Angle_impl_Angle_s.gen v).bind fun y => some (slices_IndexFunc__impl_Angle_impl_Angle_s.out y) := by
  rintro ⟨s, ⟨⟨_, ⟨⟨_, _⟩, _⟩⟩, _⟩⟩
  show _ = (slices_IndexFunc__impl_Angle_impl_Angle s).bind fun y : Int => some (slices_IndexFunc__impl_Angle_impl_Angle_s.out y)
  simp only [slices_IndexFunc__impl_Angle_impl_Angle, kb_ite, kb_some, kb_none, kb_bind, kb_alt]
  kernel_rfl
theorem slices_IndexFunc__impl_Angle_impl_Angle_is : FnIs Go.Proofs.Try.prog 101 (modeOf []) (phi [slices_IndexFunc__impl_Angle_impl_Angle_s]) := spec_is (c := slices_IndexFunc__impl_Angle_impl_Angle_c) seatOK slices_IndexFunc__impl_Angle_impl_Angle_t Go.Proofs.Try.func101 rfl (code := slices_IndexFunc__impl_Angle_impl_Angle_code) rfl rfl slices_IndexFunc__impl_Angle_impl_Angle_rs slices_IndexFunc__impl_Angle_impl_Angle_e
noncomputable def slices_ContainsFunc__impl_Angle_impl_Angle_s : Spec := ⟨[.v (.sl 32 (.pair (.int .i64) (.pair (.int .i64) (.unit)))) .fr, .fn 92 [] [.pfn 68 [] []]], Bool, fun v => slices_ContainsFunc__impl_Angle_impl_Angle v.1, fun r => ([.v (.bool) .fr r], [])⟩
noncomputable def slices_ContainsFunc__impl_Angle_impl_Angle_ls : List LSum := []
noncomputable def slices_ContainsFunc__impl_Angle_impl_Angle_tab : List Row := [⟨101, [], [slices_IndexFunc__impl_Angle_impl_Angle_s]⟩]
theorem slices_ContainsFunc__impl_Angle_impl_Angle_t : ∀ r, r ∈ slices_ContainsFunc__impl_Angle_impl_Angle_tab → RowIs Go.Proofs.Try.prog r := tab_cons (slices_IndexFunc__impl_Angle_impl_Angle_is) (tab_nil)
theorem slices_ContainsFunc__impl_Angle_impl_Angle_rs : RoundsOK (mkCtx Go.K.Link.seat slices_ContainsFunc__impl_Angle_impl_Angle_c slices_ContainsFunc__impl_Angle_impl_Angle_tab) (sums slices_ContainsFunc__impl_Angle_impl_Angle_ls) (loopsOf 0 slices_ContainsFunc__impl_Angle_impl_Angle_code) slices_ContainsFunc__impl_Angle_impl_Angle_ls := trivial
theorem slices_ContainsFunc__impl_Angle_impl_Angle_e : ∀ v, (evFn (mkCtx Go.K.Link.seat slices_ContainsFunc__impl_Angle_impl_Angle_c slices_ContainsFunc__impl_Angle_impl_Angle_tab) (sums slices_ContainsFunc__impl_Angle_impl_Angle_ls) 91 Go.Proofs.Try.f91 (encL slices_ContainsFunc__impl_Angle_impl_Angle_s.a v)).run = (slices_ContainsFunc__impl_Angle_impl_Angle_s.gen v).bind fun y => some (slices_ContainsFunc__impl_Angle_impl_Angle_s.out y) := by
  rintro ⟨s, ⟨⟨_, ⟨⟨_, _⟩, _⟩⟩, _⟩⟩
  show _ = (slices_ContainsFunc__impl_Angle_impl_Angle s).bind fun y : Bool => some (slices_ContainsFunc__impl_Angle_impl_Angle_s.out y)
  simp only [slices_ContainsFunc__impl_Angle_impl_Angle, kb_ite, kb_some, kb_none, kb_bind, kb_alt]
  kernel_rfl
theorem slices_ContainsFunc__impl_Angle_impl_Angle_is : FnIs Go.Proofs.Try.prog 91 (modeOf []) (phi [slices_ContainsFunc__impl_Angle_impl_Angle_s]) := spec_is (c := slices_ContainsFunc__impl_Angle_impl_Angle_c) seatOK slices_ContainsFunc__impl_Angle_impl_Angle_t Go.Proofs.Try.func91 rfl (code := slices_ContainsFunc__impl_Angle_impl_Angle_code) rfl rfl slices_ContainsFunc__impl_Angle_impl_Angle_rs slices_ContainsFunc__impl_Angle_impl_Angle_e
noncomputable def impl_areAll_impl_Angle_s : Spec := ⟨[.v (.sl 32 (.pair (.int .i64) (.pair (.int .i64) (.unit)))) .fr, .fn 68 [] []], Bool, fun v => impl_areAll_impl_Angle v.1, fun r => ([.v (.bool) .fr r], [])⟩
noncomputable def impl_areAll_impl_Angle_ls : List LSum := []
noncomputable def impl_areAll_impl_Angle_tab : List Row := [⟨91, [], [slices_ContainsFunc__impl_Angle_impl_Angle_s]⟩]
theorem impl_areAll_impl_Angle_t : ∀ r, r ∈ impl_areAll_impl_Angle_tab → RowIs Go.Proofs.Try.prog r := tab_cons (slices_ContainsFunc__impl_Angle_impl_Angle_is) (tab_nil)
theorem impl_areAll_impl_Angle_rs : RoundsOK (mkCtx Go.K.Link.seat impl_areAll_impl_Angle_c impl_areAll_impl_Angle_tab) (sums impl_areAll_impl_Angle_ls) (loopsOf 0 impl_areAll_impl_Angle_code) impl_areAll_impl_Angle_ls := trivial
theorem impl_areAll_impl_Angle_e : ∀ v, (evFn (mkCtx Go.K.Link.seat impl_areAll_impl_Angle_c impl_areAll_impl_Angle_tab) (sums impl_areAll_impl_Angle_ls) 67 Go.Proofs.Try.f67 (encL impl_areAll_impl_Angle_s.a v)).run = (impl_areAll_impl_Angle_s.gen v).bind fun y => some (impl_areAll_impl_Angle_s.out y) := by
  rintro ⟨list, ⟨⟨_, _⟩, _⟩⟩
  show _ = (impl_areAll_impl_Angle list).bind fun y : Bool => some (impl_areAll_impl_Angle_s.out y)
  simp only [impl_areAll_impl_Angle, kb_ite, kb_some, kb_none, kb_bind, kb_alt]
  kernel_rfl
theorem impl_areAll_impl_Angle_is : FnIs Go.Proofs.Try.prog 67 (modeOf []) (phi [impl_areAll_impl_Angle_s]) := spec_is (c := impl_areAll_impl_Angle_c) seatOK impl_areAll_impl_Angle_t Go.Proofs.Try.func67 rfl (code := impl_areAll_impl_Angle_code) rfl rfl impl_areAll_impl_Angle_rs impl_areAll_impl_Angle_e
noncomputable def impl_anglesCode_s : Spec := ⟨[.v (.sl 32 (.pair (.int .i64) (.pair (.int .i64) (.unit)))) .fr], Int, fun v => impl_anglesCode v.1, fun r => ([.v (.int .i64) .fr r], [])⟩
noncomputable def impl_anglesCode_ls : List LSum := []
noncomputable def impl_anglesCode_tab : List Row := [⟨67, [], [impl_areAll_impl_Angle_s]⟩]
theorem impl_anglesCode_t : ∀ r, r ∈ impl_anglesCode_tab → RowIs Go.Proofs.Try.prog r := tab_cons (impl_areAll_impl_Angle_is) (tab_nil)
theorem impl_anglesCode_rs : RoundsOK (mkCtx Go.K.Link.seat impl_anglesCode_c impl_anglesCode_tab) (sums impl_anglesCode_ls) (loopsOf 0 impl_anglesCode_code) impl_anglesCode_ls := trivial
theorem impl_anglesCode_e : ∀ v, (evFn (mkCtx Go.K.Link.seat impl_anglesCode_c impl_anglesCode_tab) (sums impl_anglesCode_ls) 35 Go.Proofs.Try.f35 (encL impl_anglesCode_s.a v)).run = (impl_anglesCode_s.gen v).bind fun y => some (impl_anglesCode_s.out y) := by
  rintro ⟨list, _⟩
  show _ = (impl_anglesCode list).bind fun y : Int => some (impl_anglesCode_s.out y)
  simp only [impl_anglesCode, kb_ite, kb_some, kb_none, kb_bind, kb_alt]
  kernel_rfl
theorem impl_anglesCode_is : FnIs Go.Proofs.Try.prog 35 (modeOf []) (phi [impl_anglesCode_s]) := spec_is (c := impl_anglesCode_c) seatOK impl_anglesCode_t Go.Proofs.Try.func35 rfl (code := impl_anglesCode_code) rfl rfl impl_anglesCode_rs impl_anglesCode_e
noncomputable def impl_areSets_code : Code := (Go.Proofs.Try.f37.body).getD .skip
def impl_areSets_c : Cfg := ⟨37, [], [[0, 3, 6, 7, 8], [0, 3], [2]], [], []⟩
noncomputable def impl_areSets_l0_s : LSum := ⟨0, ⟨[(0, .val (.sl 36 (.sl 32 (.pair (.int .i64) (.pair (.int .i64) (.unit))))) .fr), (2, .val (.int .i64) .fr), (2, .val (.sl 36 (.sl 32 (.pair (.int .i64) (.pair (.int .i64) (.unit))))) .fr), (0, .val (.int .i64) .fr), (0, .val (.int .i64) .fr)], 19⟩, (.exit 0, ⟨[(0, .val (.sl 36 (.sl 32 (.pair (.int .i64) (.pair (.int .i64) (.unit))))) .fr), (2, .val (.int .i64) .fr)], 24⟩), [], impl_areSets_l0⟩
noncomputable def impl_length__impl_Angle_code : Code := (Go.Proofs.Try.f71.body).getD .skip
def impl_length__impl_Angle_c : Cfg := ⟨71, [], [], [], []⟩
noncomputable def impl_length__impl_Angle_s : Spec := ⟨[.v (.sl 36 (.sl 32 (.pair (.int .i64) (.pair (.int .i64) (.unit))))) .fr], Int, fun v => impl_length__impl_Angle v.1, fun r => ([.v (.int .i64) .fr r], [])⟩
noncomputable def impl_length__impl_Angle_ls : List LSum := []
noncomputable def impl_length__impl_Angle_tab : List Row := []
theorem impl_length__impl_Angle_t : ∀ r, r ∈ impl_length__impl_Angle_tab → RowIs Go.Proofs.Try.prog r := tab_nil
theorem impl_length__impl_Angle_rs : RoundsOK (mkCtx Go.K.Link.seat impl_length__impl_Angle_c impl_length__impl_Angle_tab) (sums impl_length__impl_Angle_ls) (loopsOf 0 impl_length__impl_Angle_code) impl_length__impl_Angle_ls := trivial
theorem impl_length__impl_Angle_e : ∀ v, (evFn (mkCtx Go.K.Link.seat impl_length__impl_Angle_c impl_length__impl_Angle_tab) (sums impl_length__impl_Angle_ls) 71 Go.Proofs.Try.f71 (encL impl_length__impl_Angle_s.a v)).run = (impl_length__impl_Angle_s.gen v).bind fun y => some (impl_length__impl_Angle_s.out y) := by
  rintro ⟨list, _⟩
  show _ = (impl_length__impl_Angle list).bind fun y : Int => some (impl_length__impl_Angle_s.out y)
  simp only [impl_length__impl_Angle, kb_ite, kb_some, kb_none, kb_bind, kb_alt]
  kernel_rfl
theorem impl_length__impl_Angle_is : FnIs Go.Proofs.Try.prog 71 (modeOf []) (phi [impl_length__impl_Angle_s]) := spec_is (c := impl_length__impl_Angle_c) seatOK impl_length__impl_Angle_t Go.Proofs.Try.func71 rfl (code := impl_length__impl_Angle_code) rfl rfl impl_length__impl_Angle_rs impl_length__impl_Angle_e
noncomputable def impl_areAll__impl_Angle_code : Code := (Go.Proofs.Try.f72.body).getD .skip
def impl_areAll__impl_Angle_c : Cfg := ⟨72, [], [], [], []⟩
noncomputable def slices_ContainsFunc___impl_Angle__impl_Angle_code : Code := (Go.Proofs.Try.f58.body).getD .skip
def slices_ContainsFunc___impl_Angle__impl_Angle_c : Cfg := ⟨58, [], [], [], []⟩
noncomputable def slices_IndexFunc___impl_Angle__impl_Angle_code : Code := (Go.Proofs.Try.f89.body).getD .skip
def slices_IndexFunc___impl_Angle__impl_Angle_c : Cfg := ⟨89, [], [[0, 1, 7, 8], [], [4]], [], []⟩
noncomputable def impl_areAll__impl_Angle_f1_code : Code := (Go.Proofs.Try.f93.body).getD .skip
def impl_areAll__impl_Angle_f1_c : Cfg := ⟨93, [], [], [], []⟩
noncomputable def impl_areSets_f1_code : Code := (Go.Proofs.Try.f73.body).getD .skip
def impl_areSets_f1_c : Cfg := ⟨73, [], [], [], []⟩
noncomputable def impl_areAscending_code : Code := (Go.Proofs.Try.f74.body).getD .skip
def impl_areAscending_c : Cfg := ⟨74, [], [[0, 3], [], [2]], [], []⟩
noncomputable def impl_Angle_compare_code : Code := (Go.Proofs.Try.f52.body).getD .skip
def impl_Angle_compare_c : Cfg := ⟨52, [], [], [], []⟩
noncomputable def cmp_Compare_int64_code : Code := (Go.Proofs.Try.f84.body).getD .skip
def cmp_Compare_int64_c : Cfg := ⟨84, [], [], [], []⟩
noncomputable def cmp_isNaN_int64_code : Code := (Go.Proofs.Try.f100.body).getD .skip
def cmp_isNaN_int64_c : Cfg := ⟨100, [], [], [], []⟩
noncomputable def cmp_isNaN_int64_s : Spec := ⟨[.v (.int .i64) .fr], Bool, fun v => cmp_isNaN_int64 v.1, fun r => ([.v (.bool) .fr r], [])⟩
noncomputable def cmp_isNaN_int64_ls : List LSum := []
noncomputable def cmp_isNaN_int64_tab : List Row := []
theorem cmp_isNaN_int64_t : ∀ r, r ∈ cmp_isNaN_int64_tab → RowIs Go.Proofs.Try.prog r := tab_nil
theorem cmp_isNaN_int64_rs : RoundsOK (mkCtx Go.K.Link.seat cmp_isNaN_int64_c cmp_isNaN_int64_tab) (sums cmp_isNaN_int64_ls) (loopsOf 0 cmp_isNaN_int64_code) cmp_isNaN_int64_ls := trivial
theorem cmp_isNaN_int64_e : ∀ v, (evFn (mkCtx Go.K.Link.seat cmp_isNaN_int64_c cmp_isNaN_int64_tab) (sums cmp_isNaN_int64_ls) 100 Go.Proofs.Try.f100 (encL cmp_isNaN_int64_s.a v)).run = (cmp_isNaN_int64_s.gen v).bind fun y => some (cmp_isNaN_int64_s.out y) := by
  rintro ⟨x, _⟩
  show _ = (cmp_isNaN_int64 x).bind fun y : Bool => some (cmp_isNaN_int64_s.out y)
  simp only [cmp_isNaN_int64, kb_ite, kb_some, kb_none, kb_bind, kb_alt]
  kernel_rfl
theorem cmp_isNaN_int64_is : FnIs Go.Proofs.Try.prog 100 (modeOf []) (phi [cmp_isNaN_int64_s]) := spec_is (c := cmp_isNaN_int64_c) seatOK cmp_isNaN_int64_t Go.Proofs.Try.func100 rfl (code := cmp_isNaN_int64_code) rfl rfl cmp_isNaN_int64_rs cmp_isNaN_int64_e
noncomputable def cmp_Compare_int64_s : Spec := ⟨[.v (.int .i64) .fr, .v (.int .i64) .fr], Int, fun v => cmp_Compare_int64 v.1 v.2.1, fun r => ([.v (.int .i64) .fr r], [])⟩
noncomputable def cmp_Compare_int64_ls : List LSum := []
noncomputable def cmp_Compare_int64_tab : List Row := [⟨100, [], [cmp_isNaN_int64_s]⟩]
theorem cmp_Compare_int64_t : ∀ r, r ∈ cmp_Compare_int64_tab → RowIs Go.Proofs.Try.prog r := tab_cons (cmp_isNaN_int64_is) (tab_nil)
theorem cmp_Compare_int64_rs : RoundsOK (mkCtx Go.K.Link.seat cmp_Compare_int64_c cmp_Compare_int64_tab) (sums cmp_Compare_int64_ls) (loopsOf 0 cmp_Compare_int64_code) cmp_Compare_int64_ls := trivial
theorem cmp_Compare_int64_e : ∀ v, (evFn (mkCtx Go.K.Link.seat cmp_Compare_int64_c cmp_Compare_int64_tab) (sums cmp_Compare_int64_ls) 84 Go.Proofs.Try.f84 (encL cmp_Compare_int64_s.a v)).run = (cmp_Compare_int64_s.gen v).bind fun y => some (cmp_Compare_int64_s.out y) := by
  rintro ⟨x, ⟨y, _⟩⟩
  show _ = (cmp_Compare_int64 x y).bind fun y : Int => some (cmp_Compare_int64_s.out y)
  simp only [cmp_Compare_int64, kb_ite, kb_some, kb_none, kb_bind, kb_alt]
  kernel_rfl
theorem cmp_Compare_int64_is : FnIs Go.Proofs.Try.prog 84 (modeOf []) (phi [cmp_Compare_int64_s]) := spec_is (c := cmp_Compare_int64_c) seatOK cmp_Compare_int64_t Go.Proofs.Try.func84 rfl (code := cmp_Compare_int64_code) rfl rfl cmp_Compare_int64_rs cmp_Compare_int64_e
noncomputable def impl_Angle_compare_s : Spec := ⟨[.v (.pair (.int .i64) (.pair (.int .i64) (.unit))) .fr, .v (.pair (.int .i64) (.pair (.int .i64) (.unit))) .fr], Int, fun v => impl_Angle_compare v.1 v.2.1, fun r => ([.v (.int .i64) .fr r], [])⟩
noncomputable def impl_Angle_compare_ls : List LSum := []
noncomputable def impl_Angle_compare_tab : List Row := [⟨84, [], [cmp_Compare_int64_s]⟩]
theorem impl_Angle_compare_t : ∀ r, r ∈ impl_Angle_compare_tab → RowIs Go.Proofs.Try.prog r := tab_cons (cmp_Compare_int64_is) (tab_nil)
theorem impl_Angle_compare_rs : RoundsOK (mkCtx Go.K.Link.seat impl_Angle_compare_c impl_Angle_compare_tab) (sums impl_Angle_compare_ls) (loopsOf 0 impl_Angle_compare_code) impl_Angle_compare_ls := trivial
theorem impl_Angle_compare_e : ∀ v, (evFn (mkCtx Go.K.Link.seat impl_Angle_compare_c impl_Angle_compare_tab) (sums impl_Angle_compare_ls) 52 Go.Proofs.Try.f52 (encL impl_Angle_compare_s.a v)).run = (impl_Angle_compare_s.gen v).bind fun y => some (impl_Angle_compare_s.out y) := by
  rintro ⟨a, ⟨b, _⟩⟩
  show _ = (impl_Angle_compare a b).bind fun y : Int => some (impl_Angle_compare_s.out y)
  simp only [impl_Angle_compare, kb_ite, kb_some, kb_none, kb_bind, kb_alt]
  kernel_rfl
theorem impl_Angle_compare_is : FnIs Go.Proofs.Try.prog 52 (modeOf []) (phi [impl_Angle_compare_s]) := spec_is (c := impl_Angle_compare_c) seatOK impl_Angle_compare_t Go.Proofs.Try.func52 rfl (code := impl_Angle_compare_code) rfl rfl impl_Angle_compare_rs impl_Angle_compare_e
noncomputable def impl_areAscending_l0_s : LSum := ⟨0, ⟨[(0, .val (.sl 32 (.pair (.int .i64) (.pair (.int .i64) (.unit)))) .fr), (2, .val (.int .i64) .fr)], 17⟩, (.ret, ⟨[(2, .val (.bool) .fr)], 18⟩), [(.exit 0, ⟨[], 21⟩)], impl_areAscending_l0⟩
noncomputable def impl_areAscending_s : Spec := ⟨[.v (.sl 32 (.pair (.int .i64) (.pair (.int .i64) (.unit)))) .fr], Bool, fun v => impl_areAscending v.1, fun r => ([.v (.bool) .fr r], [])⟩
noncomputable def impl_areAscending_ls : List LSum := [impl_areAscending_l0_s]
noncomputable def impl_areAscending_tab : List Row := [⟨52, [], [impl_Angle_compare_s]⟩]
theorem impl_areAscending_t : ∀ r, r ∈ impl_areAscending_tab → RowIs Go.Proofs.Try.prog r := tab_cons (impl_Angle_compare_is) (tab_nil)
theorem impl_areAscending_l0_r : RoundIs (mkCtx Go.K.Link.seat impl_areAscending_c impl_areAscending_tab) (sums impl_areAscending_ls) 0 (bodyAt (loopsOf 0 impl_areAscending_code) 0) impl_areAscending_l0_s := by
  rintro ⟨list, ⟨i, _⟩⟩
  show _ = (impl_areAscending_l0 (list, (i, ()))).bind fun r : (Ctl ((List (Int × (Int × Unit))) × Int × Unit) ((Bool × Unit) ⊕ (Unit))) => some (ctlVal impl_areAscending_l0_s r)
  simp only [impl_areAscending_l0, kb_ite, kb_some, kb_none, kb_bind, kb_alt]
  kernel_rfl
theorem impl_areAscending_rs : RoundsOK (mkCtx Go.K.Link.seat impl_areAscending_c impl_areAscending_tab) (sums impl_areAscending_ls) (loopsOf 0 impl_areAscending_code) impl_areAscending_ls := ⟨⟨rfl, rfl, impl_areAscending_l0_r⟩, trivial⟩
theorem impl_areAscending_e : ∀ v, (evFn (mkCtx Go.K.Link.seat impl_areAscending_c impl_areAscending_tab) (sums impl_areAscending_ls) 74 Go.Proofs.Try.f74 (encL impl_areAscending_s.a v)).run = (impl_areAscending_s.gen v).bind fun y => some (impl_areAscending_s.out y) := by
  rintro ⟨list, _⟩
  show _ = (impl_areAscending list).bind fun y : Bool => some (impl_areAscending_s.out y)
  simp only [impl_areAscending, kb_ite, kb_some, kb_none, kb_bind, kb_alt]
  kernel_rfl
theorem impl_areAscending_is : FnIs Go.Proofs.Try.prog 74 (modeOf []) (phi [impl_areAscending_s]) := spec_is (c := impl_areAscending_c) seatOK impl_areAscending_t Go.Proofs.Try.func74 rfl (code := impl_areAscending_code) rfl rfl impl_areAscending_rs impl_areAscending_e
noncomputable def impl_areSets_f1_s : Spec := ⟨[.v (.sl 32 (.pair (.int .i64) (.pair (.int .i64) (.unit)))) .fr], Bool, fun v => impl_areSets_f1 v.1, fun r => ([.v (.bool) .fr r], [])⟩
noncomputable def impl_areSets_f1_ls : List LSum := []
noncomputable def impl_areSets_f1_tab : List Row := [⟨74, [], [impl_areAscending_s]⟩]
theorem impl_areSets_f1_t : ∀ r, r ∈ impl_areSets_f1_tab → RowIs Go.Proofs.Try.prog r := tab_cons (impl_areAscending_is) (tab_nil)
theorem impl_areSets_f1_rs : RoundsOK (mkCtx Go.K.Link.seat impl_areSets_f1_c impl_areSets_f1_tab) (sums impl_areSets_f1_ls) (loopsOf 0 impl_areSets_f1_code) impl_areSets_f1_ls := trivial
theorem impl_areSets_f1_e : ∀ v, (evFn (mkCtx Go.K.Link.seat impl_areSets_f1_c impl_areSets_f1_tab) (sums impl_areSets_f1_ls) 73 Go.Proofs.Try.f73 (encL impl_areSets_f1_s.a v)).run = (impl_areSets_f1_s.gen v).bind fun y => some (impl_areSets_f1_s.out y) := by
  rintro ⟨set, _⟩
  show _ = (impl_areSets_f1 set).bind fun y : Bool => some (impl_areSets_f1_s.out y)
  simp only [impl_areSets_f1, kb_ite, kb_some, kb_none, kb_bind, kb_alt]
  kernel_rfl
theorem impl_areSets_f1_is : FnIs Go.Proofs.Try.prog 73 (modeOf []) (phi [impl_areSets_f1_s]) := spec_is (c := impl_areSets_f1_c) seatOK impl_areSets_f1_t Go.Proofs.Try.func73 rfl (code := impl_areSets_f1_code) rfl rfl impl_areSets_f1_rs impl_areSets_f1_e
noncomputable def impl_areAll__impl_Angle_f1_s : Spec := ⟨[.v (.sl 32 (.pair (.int .i64) (.pair (.int .i64) (.unit)))) .fr, .pfn 73 [] []], Bool, fun v => impl_areAll__impl_Angle_f1 v.1, fun r => ([.v (.bool) .fr r], [])⟩
noncomputable def impl_areAll__impl_Angle_f1_ls : List LSum := []
noncomputable def impl_areAll__impl_Angle_f1_tab : List Row := [⟨73, [], [impl_areSets_f1_s]⟩]
theorem impl_areAll__impl_Angle_f1_t : ∀ r, r ∈ impl_areAll__impl_Angle_f1_tab → RowIs Go.Proofs.Try.prog r := tab_cons (impl_areSets_f1_is) (tab_nil)
theorem impl_areAll__impl_Angle_f1_rs : RoundsOK (mkCtx Go.K.Link.seat impl_areAll__impl_Angle_f1_c impl_areAll__impl_Angle_f1_tab) (sums impl_areAll__impl_Angle_f1_ls) (loopsOf 0 impl_areAll__impl_Angle_f1_code) impl_areAll__impl_Angle_f1_ls := trivial
theorem impl_areAll__impl_Angle_f1_e : ∀ v, (evFn (mkCtx Go.K.Link.seat impl_areAll__impl_Angle_f1_c impl_areAll__impl_Angle_f1_tab) (sums impl_areAll__impl_Angle_f1_ls) 93 Go.Proofs.Try.f93 (encL impl_areAll__impl_Angle_f1_s.a v)).run = (impl_areAll__impl_Angle_f1_s.gen v).bind fun y => some (impl_areAll__impl_Angle_f1_s.out y) := by
  rintro ⟨x, ⟨⟨_, _⟩, _⟩⟩
  show _ = (impl_areAll__impl_Angle_f1 x).bind fun y : Bool => some (impl_areAll__impl_Angle_f1_s.out y)
  simp only [impl_areAll__impl_Angle_f1, kb_ite, kb_some, kb_none, kb_bind, kb_alt]
  kernel_rfl
theorem impl_areAll__impl_Angle_f1_is : FnIs Go.Proofs.Try.prog 93 (modeOf []) (phi [impl_areAll__impl_Angle_f1_s]) := spec_is (c := impl_areAll__impl_Angle_f1_c) seatOK impl_areAll__impl_Angle_f1_t Go.Proofs.Try.func93 rfl (code := impl_areAll__impl_Angle_f1_code) rfl rfl impl_areAll__impl_Angle_f1_rs impl_areAll__impl_Angle_f1_e
noncomputable def slices_IndexFunc___impl_Angle__impl_Angle_l0_s : LSum := ⟨0, ⟨[(0, .val (.sl 36 (.sl 32 (.pair (.int .i64) (.pair (.int .i64) (.unit))))) .fr), (0, .fnl 93 [] [.arg (.pfn 73 [] [])]), (5, .val (.int .i64) .fr), (0, .val (.int .i64) .fr)], 10⟩, (.ret, ⟨[(4, .val (.int .i64) .fr)], 14⟩), [(.exit 0, ⟨[], 19⟩)], slices_IndexFunc___impl_Angle__impl_Angle_l0⟩
noncomputable def slices_IndexFunc___impl_Angle__impl_Angle_s : Spec := ⟨[.v (.sl 36 (.sl 32 (.pair (.int .i64) (.pair (.int .i64) (.unit))))) .fr, .fn 93 [] [.pfn 73 [] []]], Int, fun v => slices_IndexFunc___impl_Angle__impl_Angle v.1, fun r => ([.v (.int .i64) .fr r], [])⟩
noncomputable def slices_IndexFunc___impl_Angle__impl_Angle_ls : List LSum := [slices_IndexFunc___impl_Angle__impl_Angle_l0_s]
noncomputable def slices_IndexFunc___impl_Angle__impl_Angle_tab : List Row := [⟨93, [], [impl_areAll__impl_Angle_f1_s]⟩]
theorem slices_IndexFunc___impl_Angle__impl_Angle_t : ∀ r, r ∈ slices_IndexFunc___impl_Angle__impl_Angle_tab → RowIs Go.Proofs.Try.prog r := tab_cons (impl_areAll__impl_Angle_f1_is) (tab_nil)
theorem slices_IndexFunc___impl_Angle__impl_Angle_l0_r : RoundIs (mkCtx Go.K.Link.seat slices_IndexFunc___impl_Angle__impl_Angle_c slices_IndexFunc___impl_Angle__impl_Angle_tab) (sums slices_IndexFunc___impl_Angle__impl_Angle_ls) 0 (bodyAt (loopsOf 0 slices_IndexFunc___impl_Angle__impl_Angle_code) 0) slices_IndexFunc___impl_Angle__impl_Angle_l0_s := by
  rintro ⟨s, ⟨_, ⟨⟨_, _⟩, _⟩, ⟨t7, ⟨t8, _⟩⟩⟩⟩
  show _ = (slices_IndexFunc___impl_Angle__impl_Angle_l0 (s, ((), (((), ()), ()), (t7, (t8, ()))))).bind fun r : (Ctl ((List (List (Int × (Int × Unit)))) × Unit × ((Unit × Unit) × Unit) × Int × Int × Unit) ((Int × Unit) ⊕ (Unit))) => some (ctlVal slices_IndexFunc___impl_Angle__impl_Angle_l0_s r)
  simp only [slices_IndexFunc___impl_Angle__impl_Angle_l0, kb_ite, kb_some, kb_none, kb_bind, kb_alt]
  kernel_rfl
theorem slices_IndexFunc___impl_Angle__impl_Angle_rs : RoundsOK (mkCtx Go.K.Link.seat slices_IndexFunc___impl_Angle__impl_Angle_c slices_IndexFunc___impl_Angle__impl_Angle_tab) (sums slices_IndexFunc___impl_Angle__impl_Angle_ls) (loopsOf 0 slices_IndexFunc___impl_Angle__impl_Angle_code) slices_IndexFunc___impl_Angle__impl_Angle_ls := ⟨⟨rfl, rfl, slices_IndexFunc___impl_Angle__impl_Angle_l0_r⟩, trivial⟩
theorem slices_IndexFunc___impl_Angle__impl_Angle_e : ∀ v, (evFn (mkCtx Go.K.Link.seat slices_IndexFunc___impl_Angle__impl_Angle_c slices_IndexFunc___impl_Angle__impl_Angle_tab) (sums slices_IndexFunc___impl_Angle__impl_Angle_ls) 89 Go.Proofs.Try.f89 (encL slices_IndexFunc___impl_Angle__impl_Angle_s.a v)).run = (slices_IndexFunc___impl_Angle__impl_Angle_s.gen v).bind fun y => some (slices_IndexFunc___impl_Angle__impl_Angle_s.out y) := by
  rintro ⟨s, ⟨⟨_, ⟨⟨_, _⟩, _⟩⟩, _⟩⟩
  show _ = (slices_IndexFunc___impl_Angle__impl_Angle s).bind fun y : Int => some (slices_IndexFunc___impl_Angle__impl_Angle_s.out y)
  simp only [slices_IndexFunc___impl_Angle__impl_Angle, kb_ite, kb_some, kb_none, kb_bind, kb_alt]
  kernel_rfl
theorem slices_IndexFunc___impl_Angle__impl_Angle_is : FnIs Go.Proofs.Try.prog 89 (modeOf []) (phi [slices_IndexFunc___impl_Angle__impl_Angle_s]) := spec_is (c := slices_IndexFunc___impl_Angle__impl_Angle_c) seatOK slices_IndexFunc___impl_Angle__impl_Angle_t Go.Proofs.Try.func89 rfl (code := slices_IndexFunc___impl_Angle__impl_Angle_code) rfl rfl slices_IndexFunc___impl_Angle__impl_Angle_rs slices_IndexFunc___impl_Angle__impl_Angle_e
noncomputable def slices_ContainsFunc___impl_Angle__impl_Angle_s : Spec := ⟨[.v (.sl 36 (.sl 32 (.pair (.int .i64) (.pair (.int .i64) (.unit))))) .fr, .fn 93 [] [.pfn 73 [] []]], Bool, fun v => slices_ContainsFunc___impl_Angle__impl_Angle v.1, fun r => ([.v (.bool) .fr r], [])⟩
noncomputable def slices_ContainsFunc___impl_Angle__impl_Angle_ls : List LSum := []
noncomputable def slices_ContainsFunc___impl_Angle__impl_Angle_tab : List Row := [⟨89, [], [slices_IndexFunc___impl_Angle__impl_Angle_s]⟩]
theorem slices_ContainsFunc___impl_Angle__impl_Angle_t : ∀ r, r ∈ slices_ContainsFunc___impl_Angle__impl_Angle_tab → RowIs Go.Proofs.Try.prog r := tab_cons (slices_IndexFunc___impl_Angle__impl_Angle_is) (tab_nil)
theorem slices_ContainsFunc___impl_Angle__impl_Angle_rs : RoundsOK (mkCtx Go.K.Link.seat slices_ContainsFunc___impl_Angle__impl_Angle_c slices_ContainsFunc___impl_Angle__impl_Angle_tab) (sums slices_ContainsFunc___impl_Angle__impl_Angle_ls) (loopsOf 0 slices_ContainsFunc___impl_Angle__impl_Angle_code) slices_ContainsFunc___impl_Angle__impl_Angle_ls := trivial
theorem slices_ContainsFunc___impl_Angle__impl_Angle_e : ∀ v, (evFn (mkCtx Go.K.Link.seat slices_ContainsFunc___impl_Angle__impl_Angle_c slices_ContainsFunc___impl_Angle__impl_Angle_tab) (sums slices_ContainsFunc___impl_Angle__impl_Angle_ls) 58 Go.Proofs.Try.f58 (encL slices_ContainsFunc___impl_Angle__impl_Angle_s.a v)).run = (slices_ContainsFunc___impl_Angle__impl_Angle_s.gen v).bind fun y => some (slices_ContainsFunc___impl_Angle__impl_Angle_s.out y) := by
  rintro ⟨s, ⟨⟨_, ⟨⟨_, _⟩, _⟩⟩, _⟩⟩
  show _ = (slices_ContainsFunc___impl_Angle__impl_Angle s).bind fun y : Bool => some (slices_ContainsFunc___impl_Angle__impl_Angle_s.out y)
  simp only [slices_ContainsFunc___impl_Angle__impl_Angle, kb_ite, kb_some, kb_none, kb_bind, kb_alt]
  kernel_rfl
theorem slices_ContainsFunc___impl_Angle__impl_Angle_is : FnIs Go.Proofs.Try.prog 58 (modeOf []) (phi [slices_ContainsFunc___impl_Angle__impl_Angle_s]) := spec_is (c := slices_ContainsFunc___impl_Angle__impl_Angle_c) seatOK slices_ContainsFunc___impl_Angle__impl_Angle_t Go.Proofs.Try.func58 rfl (code := slices_ContainsFunc___impl_Angle__impl_Angle_code) rfl rfl slices_ContainsFunc___impl_Angle__impl_Angle_rs slices_ContainsFunc___impl_Angle__impl_Angle_e
noncomputable def impl_areAll__impl_Angle_s : Spec := ⟨[.v (.sl 36 (.sl 32 (.pair (.int .i64) (.pair (.int .i64) (.unit))))) .fr, .fn 73 [] []], Bool, fun v => impl_areAll__impl_Angle v.1, fun r => ([.v (.bool) .fr r], [])⟩
noncomputable def impl_areAll__impl_Angle_ls : List LSum := []
noncomputable def impl_areAll__impl_Angle_tab : List Row := [⟨58, [], [slices_ContainsFunc___impl_Angle__impl_Angle_s]⟩]
theorem impl_areAll__impl_Angle_t : ∀ r, r ∈ impl_areAll__impl_Angle_tab → RowIs Go.Proofs.Try.prog r := tab_cons (slices_ContainsFunc___impl_Angle__impl_Angle_is) (tab_nil)
theorem impl_areAll__impl_Angle_rs : RoundsOK (mkCtx Go.K.Link.seat impl_areAll__impl_Angle_c impl_areAll__impl_Angle_tab) (sums impl_areAll__impl_Angle_ls) (loopsOf 0 impl_areAll__impl_Angle_code) impl_areAll__impl_Angle_ls := trivial
theorem impl_areAll__impl_Angle_e : ∀ v, (evFn (mkCtx Go.K.Link.seat impl_areAll__impl_Angle_c impl_areAll__impl_Angle_tab) (sums impl_areAll__impl_Angle_ls) 72 Go.Proofs.Try.f72 (encL impl_areAll__impl_Angle_s.a v)).run = (impl_areAll__impl_Angle_s.gen v).bind fun y => some (impl_areAll__impl_Angle_s.out y) := by
  rintro ⟨list, ⟨⟨_, _⟩, _⟩⟩
  show _ = (impl_areAll__impl_Angle list).bind fun y : Bool => some (impl_areAll__impl_Angle_s.out y)
  simp only [impl_areAll__impl_Angle, kb_ite, kb_some, kb_none, kb_bind, kb_alt]
  kernel_rfl
theorem impl_areAll__impl_Angle_is : FnIs Go.Proofs.Try.prog 72 (modeOf []) (phi [impl_areAll__impl_Angle_s]) := spec_is (c := impl_areAll__impl_Angle_c) seatOK impl_areAll__impl_Angle_t Go.Proofs.Try.func72 rfl (code := impl_areAll__impl_Angle_code) rfl rfl impl_areAll__impl_Angle_rs impl_areAll__impl_Angle_e
noncomputable def impl_areSets_s : Spec := ⟨[.v (.sl 36 (.sl 32 (.pair (.int .i64) (.pair (.int .i64) (.unit))))) .fr], Bool, fun v => impl_areSets v.1, fun r => ([.v (.bool) .fr r], [])⟩
noncomputable def impl_areSets_ls : List LSum := [impl_areSets_l0_s]
noncomputable def impl_areSets_tab : List Row := [⟨70, [], [impl_within_s]⟩, ⟨71, [], [impl_length__impl_Angle_s]⟩, ⟨72, [], [impl_areAll__impl_Angle_s]⟩]
theorem impl_areSets_t : ∀ r, r ∈ impl_areSets_tab → RowIs Go.Proofs.Try.prog r := tab_cons (impl_within_is) (tab_cons (impl_length__impl_Angle_is) (tab_cons (impl_areAll__impl_Angle_is) (tab_nil)))
theorem impl_areSets_l0_r : RoundIs (mkCtx Go.K.Link.seat impl_areSets_c impl_areSets_tab) (sums impl_areSets_ls) 0 (bodyAt (loopsOf 0 impl_areSets_code) 0) impl_areSets_l0_s := by
  rintro ⟨sets, ⟨all, ⟨t6, ⟨t7, ⟨t8, _⟩⟩⟩⟩⟩
  show _ = (impl_areSets_l0 (sets, (all, (t6, (t7, (t8, ())))))).bind fun r : (Ctl ((List (List (Int × (Int × Unit)))) × Int × (List (List (Int × (Int × Unit)))) × Int × Int × Unit) (((List (List (Int × (Int × Unit)))) × Int × Unit))) => some (ctlVal impl_areSets_l0_s r)
  simp only [impl_areSets_l0, kb_ite, kb_some, kb_none, kb_bind, kb_alt]
  kernel_rfl
theorem impl_areSets_rs : RoundsOK (mkCtx Go.K.Link.seat impl_areSets_c impl_areSets_tab) (sums impl_areSets_ls) (loopsOf 0 impl_areSets_code) impl_areSets_ls := ⟨⟨rfl, rfl, impl_areSets_l0_r⟩, trivial⟩
theorem impl_areSets_e : ∀ v, (evFn (mkCtx Go.K.Link.seat impl_areSets_c impl_areSets_tab) (sums impl_areSets_ls) 37 Go.Proofs.Try.f37 (encL impl_areSets_s.a v)).run = (impl_areSets_s.gen v).bind fun y => some (impl_areSets_s.out y) := by
  rintro ⟨sets, _⟩
  show _ = (impl_areSets sets).bind fun y : Bool => some (impl_areSets_s.out y)
  simp only [impl_areSets, kb_ite, kb_some, kb_none, kb_bind, kb_alt]
  kernel_rfl
theorem impl_areSets_is : FnIs Go.Proofs.Try.prog 37 (modeOf []) (phi [impl_areSets_s]) := spec_is (c := impl_areSets_c) seatOK impl_areSets_t Go.Proofs.Try.func37 rfl (code := impl_areSets_code) rfl rfl impl_areSets_rs impl_areSets_e
noncomputable def impl_fails_code : Code := (Go.Proofs.Try.f38.body).getD .skip
def impl_fails_c : Cfg := ⟨38, [], [[0, 3, 4, 14, 28, 29, 30, 31], [0, 3, 4, 14, 28], [2], [], [], [], [0, 3, 4, 14, 28, 44, 45, 46], [0, 3, 14], [2], [], [], [], [0, 62, 63, 64], [], [2], [], [], [], [0, 9, 10, 62, 63, 64, 67, 68, 69, 70, 71], [0, 62, 63, 64], [2]], [], []⟩
noncomputable def impl_sorted_code : Code := (Go.Proofs.Try.f75.body).getD .skip
def impl_sorted_c : Cfg := ⟨75, [], [], [], []⟩
noncomputable def slices_Values__impl_Angle_impl_Angle_code : Code := (Go.Proofs.Try.f96.body).getD .skip
def slices_Values__impl_Angle_impl_Angle_c : Cfg := ⟨96, [], [], [], []⟩
noncomputable def slices_Values__impl_Angle_impl_Angle_s : Spec := ⟨[.v (.sl 32 (.pair (.int .i64) (.pair (.int .i64) (.unit)))) .fr], (List (Int × (Int × Unit))), fun v => slices_Values__impl_Angle_impl_Angle v.1, fun r => ([.fn 104 [] [.v (.ptr (.sl 32 (.pair (.int .i64) (.pair (.int .i64) (.unit))))) .fr r]], [])⟩
noncomputable def slices_Values__impl_Angle_impl_Angle_ls : List LSum := []
noncomputable def slices_Values__impl_Angle_impl_Angle_tab : List Row := []
theorem slices_Values__impl_Angle_impl_Angle_t : ∀ r, r ∈ slices_Values__impl_Angle_impl_Angle_tab → RowIs Go.Proofs.Try.prog r := tab_nil
theorem slices_Values__impl_Angle_impl_Angle_rs : RoundsOK (mkCtx Go.K.Link.seat slices_Values__impl_Angle_impl_Angle_c slices_Values__impl_Angle_impl_Angle_tab) (sums slices_Values__impl_Angle_impl_Angle_ls) (loopsOf 0 slices_Values__impl_Angle_impl_Angle_code) slices_Values__impl_Angle_impl_Angle_ls := trivial
theorem slices_Values__impl_Angle_impl_Angle_e : ∀ v, (evFn (mkCtx Go.K.Link.seat slices_Values__impl_Angle_impl_Angle_c slices_Values__impl_Angle_impl_Angle_tab) (sums slices_Values__impl_Angle_impl_Angle_ls) 96 Go.Proofs.Try.f96 (encL slices_Values__impl_Angle_impl_Angle_s.a v)).run = (slices_Values__impl_Angle_impl_Angle_s.gen v).bind fun y => some (slices_Values__impl_Angle_impl_Angle_s.out y) := by
  rintro ⟨s, _⟩
  show _ = (slices_Values__impl_Angle_impl_Angle s).bind fun y : (List (Int × (Int × Unit))) => some (slices_Values__impl_Angle_impl_Angle_s.out y)
  simp only [slices_Values__impl_Angle_impl_Angle, kb_ite, kb_some, kb_none, kb_bind, kb_alt]
  kernel_rfl
theorem slices_Values__impl_Angle_impl_Angle_is : FnIs Go.Proofs.Try.prog 96 (modeOf []) (phi [slices_Values__impl_Angle_impl_Angle_s]) := spec_is (c := slices_Values__impl_Angle_impl_Angle_c) seatOK slices_Values__impl_Angle_impl_Angle_t Go.Proofs.Try.func96 rfl (code := slices_Values__impl_Angle_impl_Angle_code) rfl rfl slices_Values__impl_Angle_impl_Angle_rs slices_Values__impl_Angle_impl_Angle_e
noncomputable def slices_SortedFunc_impl_Angle_code : Code := (Go.Proofs.Try.f95.body).getD .skip
def slices_SortedFunc_impl_Angle_c : Cfg := ⟨95, [], [], [], []⟩
noncomputable def slices_Collect_impl_Angle_s : Spec := ⟨[.fn 104 [] [.v (.ptr (.sl 32 (.pair (.int .i64) (.pair (.int .i64) (.unit))))) .fr]], List (Int × (Int × Unit)), fun v => slices_Collect_impl_Angle v.1.2.1, fun r => ([.v (.sl 32 (.pair (.int .i64) (.pair (.int .i64) (.unit)))) (.own .fr) r], [])⟩
theorem slices_Collect_impl_Angle_is : FnIs Go.Proofs.Try.prog 102 (modeOf []) (phi [slices_Collect_impl_Angle_s]) := collect_is ⟨Go.Proofs.Try.underlying36, by kernel_rfl, Go.Proofs.Try.isAgg36, Go.Proofs.Try.sizeOf36, Go.Proofs.Try.isAgg32, Go.Proofs.Try.sizeOf32, Go.Proofs.Try.zeroValue32⟩ (by decide) Go.Proofs.Try.underlying3 Go.Proofs.Try.underlying4 Go.Proofs.Try.func102 rfl rfl rfl rfl Go.Proofs.Try.func105 rfl rfl rfl rfl Go.Proofs.Try.func104 rfl rfl rfl rfl
noncomputable def slices_SortFunc__impl_Angle_impl_Angle_s : Spec := ⟨[.v (.sl 32 (.pair (.int .i64) (.pair (.int .i64) (.unit)))) (.own .fr), .fn 52 [] []], List (Int × (Int × Unit)), fun v => slices_SortFunc__impl_Angle_impl_Angle v.1, fun r => ([], [.v (.sl 32 (.pair (.int .i64) (.pair (.int .i64) (.unit)))) (.own .fr) r])⟩
theorem slices_SortFunc__impl_Angle_impl_Angle_is : FnIs Go.Proofs.Try.prog 103 (modeOf [.mut]) (phi [slices_SortFunc__impl_Angle_impl_Angle_s]) := sortFunc_is (cs := []) (cf := fun c x y => impl_Angle_compare x y ) Go.Proofs.Try.sortL103 ⟨_, Go.Proofs.Try.func103, rfl, rfl⟩ (T := 32) (e := (.pair (.int .i64) (.pair (.int .i64) (.unit)))) rfl rfl Go.Proofs.Try.isAgg32 Go.Proofs.Try.sizeOf32 impl_Angle_compare_is (fun c x y r h => by
  have e : (phi [impl_Angle_compare_s] (.v (.pair (.int .i64) (.pair (.int .i64) (.unit))) .fr x :: .v (.pair (.int .i64) (.pair (.int .i64) (.unit))) .fr y :: encL [] c)).run = (impl_Angle_compare x y ).bind fun r => some ([.v (.int .i64) .fr r], []) := by kernel_rfl
  rw [e]
  show (impl_Angle_compare x y ).bind _ = _
  rw [show impl_Angle_compare x y  = some r from h]
  rfl)
noncomputable def slices_SortedFunc_impl_Angle_s : Spec := ⟨[.fn 104 [] [.v (.ptr (.sl 32 (.pair (.int .i64) (.pair (.int .i64) (.unit))))) .fr], .fn 52 [] []], (List (Int × (Int × Unit))), fun v => slices_SortedFunc_impl_Angle v.1.2.1, fun r => ([.v (.sl 32 (.pair (.int .i64) (.pair (.int .i64) (.unit)))) (.own .fr) r], [])⟩
noncomputable def slices_SortedFunc_impl_Angle_ls : List LSum := []
noncomputable def slices_SortedFunc_impl_Angle_tab : List Row := [⟨102, [], [slices_Collect_impl_Angle_s]⟩, ⟨103, [.mut], [slices_SortFunc__impl_Angle_impl_Angle_s]⟩]
theorem slices_SortedFunc_impl_Angle_t : ∀ r, r ∈ slices_SortedFunc_impl_Angle_tab → RowIs Go.Proofs.Try.prog r := tab_cons (slices_Collect_impl_Angle_is) (tab_cons (slices_SortFunc__impl_Angle_impl_Angle_is) (tab_nil))
theorem slices_SortedFunc_impl_Angle_rs : RoundsOK (mkCtx Go.K.Link.seat slices_SortedFunc_impl_Angle_c slices_SortedFunc_impl_Angle_tab) (sums slices_SortedFunc_impl_Angle_ls) (loopsOf 0 slices_SortedFunc_impl_Angle_code) slices_SortedFunc_impl_Angle_ls := trivial
theorem slices_SortedFunc_impl_Angle_e : ∀ v, (evFn (mkCtx Go.K.Link.seat slices_SortedFunc_impl_Angle_c slices_SortedFunc_impl_Angle_tab) (sums slices_SortedFunc_impl_Angle_ls) 95 Go.Proofs.Try.f95 (encL slices_SortedFunc_impl_Angle_s.a v)).run = (slices_SortedFunc_impl_Angle_s.gen v).bind fun y => some (slices_SortedFunc_impl_Angle_s.out y) := by
  rintro ⟨⟨_, ⟨seq_0, _⟩⟩, ⟨⟨_, _⟩, _⟩⟩
  show _ = (slices_SortedFunc_impl_Angle seq_0).bind fun y : (List (Int × (Int × Unit))) => some (slices_SortedFunc_impl_Angle_s.out y)
  simp only [slices_SortedFunc_impl_Angle, kb_ite, kb_some, kb_none, kb_bind, kb_alt]
  kernel_rfl
theorem slices_SortedFunc_impl_Angle_is : FnIs Go.Proofs.Try.prog 95 (modeOf []) (phi [slices_SortedFunc_impl_Angle_s]) := spec_is (c := slices_SortedFunc_impl_Angle_c) seatOK slices_SortedFunc_impl_Angle_t Go.Proofs.Try.func95 rfl (code := slices_SortedFunc_impl_Angle_code) rfl rfl slices_SortedFunc_impl_Angle_rs slices_SortedFunc_impl_Angle_e
noncomputable def slices_Compact__impl_Angle_impl_Angle_code : Code := (Go.Proofs.Try.f94.body).getD .skip
def slices_Compact__impl_Angle_impl_Angle_c : Cfg := ⟨94, [.own], [[0, 3, 9, 57, 59, 60], [0, 9, 57, 59], [0, 2, 9, 57, 59, 60], [], [], [], [0, 3, 4, 5, 9, 26, 28, 60], [0, 3, 9, 60], [0, 2, 9, 57, 59, 60]], [], []⟩
noncomputable def slices_Compact__impl_Angle_impl_Angle_l1_s : LSum := ⟨2, ⟨[(0, .val (.sl 32 (.pair (.int .i64) (.pair (.int .i64) (.unit)))) (.own .fr)), (2, .val (.int .i64) .fr), (0, .win 0 []), (0, .val (.int .i64) .fr), (20, .sref 0 []), (1, .win 0 [])], 32⟩, (.exit 2, ⟨[(0, .val (.sl 32 (.pair (.int .i64) (.pair (.int .i64) (.unit)))) (.own .fr)), (2, .val (.int .i64) .fr)], 57⟩), [], slices_Compact__impl_Angle_impl_Angle_l1⟩
noncomputable def slices_Compact__impl_Angle_impl_Angle_l0_s : LSum := ⟨0, ⟨[(0, .val (.sl 32 (.pair (.int .i64) (.pair (.int .i64) (.unit)))) (.own .fr)), (2, .val (.int .i64) .fr)], 57⟩, (.ret, ⟨[(0, .val (.sl 32 (.pair (.int .i64) (.pair (.int .i64) (.unit)))) (.own .fr)), (1, .win 0 []), (54, .sref 0 []), (1, .win 0 [])], 1⟩), [(.exit 0, ⟨[(0, .val (.sl 32 (.pair (.int .i64) (.pair (.int .i64) (.unit)))) (.own .fr))], 60⟩)], slices_Compact__impl_Angle_impl_Angle_l0⟩
noncomputable def slices_Compact__impl_Angle_impl_Angle_s : Spec := ⟨[.v (.sl 32 (.pair (.int .i64) (.pair (.int .i64) (.unit)))) (.own .fr)], (List (Int × (Int × Unit))), fun v => slices_Compact__impl_Angle_impl_Angle v.1, fun r => ([.v (.sl 32 (.pair (.int .i64) (.pair (.int .i64) (.unit)))) (.own .fr) r], [])⟩
noncomputable def slices_Compact__impl_Angle_impl_Angle_ls : List LSum := [slices_Compact__impl_Angle_impl_Angle_l0_s, slices_Compact__impl_Angle_impl_Angle_l1_s]
noncomputable def slices_Compact__impl_Angle_impl_Angle_tab : List Row := []
theorem slices_Compact__impl_Angle_impl_Angle_t : ∀ r, r ∈ slices_Compact__impl_Angle_impl_Angle_tab → RowIs Go.Proofs.Try.prog r := tab_nil
theorem slices_Compact__impl_Angle_impl_Angle_l0_r : RoundIs (mkCtx Go.K.Link.seat slices_Compact__impl_Angle_impl_Angle_c slices_Compact__impl_Angle_impl_Angle_tab) (sums slices_Compact__impl_Angle_impl_Angle_ls) 0 (bodyAt (loopsOf 0 slices_Compact__impl_Angle_impl_Angle_code) 0) slices_Compact__impl_Angle_impl_Angle_l0_s := by
  rintro ⟨s, ⟨k, _⟩⟩
  show _ = (slices_Compact__impl_Angle_impl_Angle_l0 (s, (k, ()))).bind fun r : (Ctl ((List (Int × (Int × Unit))) × Int × Unit) (((List (Int × (Int × Unit))) × Nat × Nat × Nat × Nat × Unit) ⊕ ((List (Int × (Int × Unit))) × Unit))) => some (ctlVal slices_Compact__impl_Angle_impl_Angle_l0_s r)
  simp only [slices_Compact__impl_Angle_impl_Angle_l0, kb_ite, kb_some, kb_none, kb_bind, kb_alt]
  kernel_rfl
theorem slices_Compact__impl_Angle_impl_Angle_l1_r : RoundIs (mkCtx Go.K.Link.seat slices_Compact__impl_Angle_impl_Angle_c slices_Compact__impl_Angle_impl_Angle_tab) (sums slices_Compact__impl_Angle_impl_Angle_ls) 2 (bodyAt (loopsOf 0 slices_Compact__impl_Angle_impl_Angle_code) 1) slices_Compact__impl_Angle_impl_Angle_l1_s := by
  rintro ⟨s, ⟨k, ⟨s2_0, s2_1, ⟨k2, ⟨t28_0, t28_1, _⟩⟩⟩⟩⟩
  show _ = (slices_Compact__impl_Angle_impl_Angle_l1 (s, (k, (s2_0, s2_1, (k2, (t28_0, t28_1, ())))))).bind fun r : (Ctl ((List (Int × (Int × Unit))) × Int × Nat × Nat × Int × Nat × Nat × Unit) (((List (Int × (Int × Unit))) × Int × Unit))) => some (ctlVal slices_Compact__impl_Angle_impl_Angle_l1_s r)
  simp only [slices_Compact__impl_Angle_impl_Angle_l1, kb_ite, kb_some, kb_none, kb_bind, kb_alt]
  kernel_rfl
theorem slices_Compact__impl_Angle_impl_Angle_rs : RoundsOK (mkCtx Go.K.Link.seat slices_Compact__impl_Angle_impl_Angle_c slices_Compact__impl_Angle_impl_Angle_tab) (sums slices_Compact__impl_Angle_impl_Angle_ls) (loopsOf 0 slices_Compact__impl_Angle_impl_Angle_code) slices_Compact__impl_Angle_impl_Angle_ls := ⟨⟨rfl, rfl, slices_Compact__impl_Angle_impl_Angle_l0_r⟩, ⟨⟨rfl, rfl, slices_Compact__impl_Angle_impl_Angle_l1_r⟩, trivial⟩⟩
theorem slices_Compact__impl_Angle_impl_Angle_e : ∀ v, (evFn (mkCtx Go.K.Link.seat slices_Compact__impl_Angle_impl_Angle_c slices_Compact__impl_Angle_impl_Angle_tab) (sums slices_Compact__impl_Angle_impl_Angle_ls) 94 Go.Proofs.Try.f94 (encL slices_Compact__impl_Angle_impl_Angle_s.a v)).run = (slices_Compact__impl_Angle_impl_Angle_s.gen v).bind fun y => some (slices_Compact__impl_Angle_impl_Angle_s.out y) := by
  rintro ⟨s, _⟩
  show _ = (slices_Compact__impl_Angle_impl_Angle s).bind fun y : (List (Int × (Int × Unit))) => some (slices_Compact__impl_Angle_impl_Angle_s.out y)
  simp only [slices_Compact__impl_Angle_impl_Angle, kb_ite, kb_some, kb_none, kb_bind, kb_alt]
  kernel_rfl
theorem slices_Compact__impl_Angle_impl_Angle_is : FnIs Go.Proofs.Try.prog 94 (modeOf [.own]) (phi [slices_Compact__impl_Angle_impl_Angle_s]) := spec_is (c := slices_Compact__impl_Angle_impl_Angle_c) seatOK slices_Compact__impl_Angle_impl_Angle_t Go.Proofs.Try.func94 rfl (code := slices_Compact__impl_Angle_impl_Angle_code) rfl rfl slices_Compact__impl_Angle_impl_Angle_rs slices_Compact__impl_Angle_impl_Angle_e
noncomputable def impl_sorted_s : Spec := ⟨[.v (.sl 32 (.pair (.int .i64) (.pair (.int .i64) (.unit)))) .fr], (List (Int × (Int × Unit))), fun v => impl_sorted v.1, fun r => ([.v (.sl 32 (.pair (.int .i64) (.pair (.int .i64) (.unit)))) (.own .fr) r], [])⟩
noncomputable def impl_sorted_ls : List LSum := []
noncomputable def impl_sorted_tab : List Row := [⟨94, [.own], [slices_Compact__impl_Angle_impl_Angle_s]⟩, ⟨95, [], [slices_SortedFunc_impl_Angle_s]⟩, ⟨96, [], [slices_Values__impl_Angle_impl_Angle_s]⟩]
theorem impl_sorted_t : ∀ r, r ∈ impl_sorted_tab → RowIs Go.Proofs.Try.prog r := tab_cons (slices_Compact__impl_Angle_impl_Angle_is) (tab_cons (slices_SortedFunc_impl_Angle_is) (tab_cons (slices_Values__impl_Angle_impl_Angle_is) (tab_nil)))
theorem impl_sorted_rs : RoundsOK (mkCtx Go.K.Link.seat impl_sorted_c impl_sorted_tab) (sums impl_sorted_ls) (loopsOf 0 impl_sorted_code) impl_sorted_ls := trivial
theorem impl_sorted_e : ∀ v, (evFn (mkCtx Go.K.Link.seat impl_sorted_c impl_sorted_tab) (sums impl_sorted_ls) 75 Go.Proofs.Try.f75 (encL impl_sorted_s.a v)).run = (impl_sorted_s.gen v).bind fun y => some (impl_sorted_s.out y) := by
  rintro ⟨list, _⟩
  show _ = (impl_sorted list).bind fun y : (List (Int × (Int × Unit))) => some (impl_sorted_s.out y)
  simp only [impl_sorted, kb_ite, kb_some, kb_none, kb_bind, kb_alt]
  kernel_rfl
theorem impl_sorted_is : FnIs Go.Proofs.Try.prog 75 (modeOf []) (phi [impl_sorted_s]) := spec_is (c := impl_sorted_c) seatOK impl_sorted_t Go.Proofs.Try.func75 rfl (code := impl_sorted_code) rfl rfl impl_sorted_rs impl_sorted_e
noncomputable def slices_Clone___impl_Angle__impl_Angle_s : Spec := ⟨[.v (.sl 36 (.sl 32 (.pair (.int .i64) (.pair (.int .i64) (.unit))))) .fr], List (List (Int × (Int × Unit))), fun v => slices_Clone___impl_Angle__impl_Angle v.1, fun r => ([.v (.sl 36 (.sl 32 (.pair (.int .i64) (.pair (.int .i64) (.unit))))) (.own .fr) r], [])⟩
theorem slices_Clone___impl_Angle__impl_Angle_is : FnIs Go.Proofs.Try.prog 76 (modeOf []) (phi [slices_Clone___impl_Angle__impl_Angle_s]) := clone_is (TS := 26) (TE := 36) (e := (.sl 32 (.pair (.int .i64) (.pair (.int .i64) (.unit))))) (bytes := 24) ⟨Go.Proofs.Try.underlying26, by kernel_rfl, Go.Proofs.Try.isAgg26, Go.Proofs.Try.sizeOf26, Go.Proofs.Try.sizeOf36, by decide, by decide⟩ Go.Proofs.Try.func76 rfl rfl rfl rfl
noncomputable def impl_leads_code : Code := (Go.Proofs.Try.f77.body).getD .skip
def impl_leads_c : Cfg := ⟨77, [], [[0, 3, 5, 8, 9, 10, 18], [0, 3, 5, 18], [4]], [], []⟩
noncomputable def impl_Angle_double_code : Code := (Go.Proofs.Try.f46.body).getD .skip
def impl_Angle_double_c : Cfg := ⟨46, [], [], [], []⟩
noncomputable def impl_angle_code : Code := (Go.Proofs.Try.f47.body).getD .skip
def impl_angle_c : Cfg := ⟨47, [], [], [], []⟩
noncomputable def impl_angle_s : Spec := ⟨[.v (.int .i64) .fr, .v (.int .i64) .fr], (Int × (Int × Unit)), fun v => impl_angle v.1 v.2.1, fun r => ([.v (.pair (.int .i64) (.pair (.int .i64) (.unit))) .fr r], [])⟩
noncomputable def impl_angle_ls : List LSum := []
noncomputable def impl_angle_tab : List Row := [⟨81, [], [impl_divisor_s]⟩]
theorem impl_angle_t : ∀ r, r ∈ impl_angle_tab → RowIs Go.Proofs.Try.prog r := tab_cons (impl_divisor_is) (tab_nil)
theorem impl_angle_rs : RoundsOK (mkCtx Go.K.Link.seat impl_angle_c impl_angle_tab) (sums impl_angle_ls) (loopsOf 0 impl_angle_code) impl_angle_ls := trivial
theorem impl_angle_e : ∀ v, (evFn (mkCtx Go.K.Link.seat impl_angle_c impl_angle_tab) (sums impl_angle_ls) 47 Go.Proofs.Try.f47 (encL impl_angle_s.a v)).run = (impl_angle_s.gen v).bind fun y => some (impl_angle_s.out y) := by
  rintro ⟨num, ⟨den, _⟩⟩
  show _ = (impl_angle num den).bind fun y : (Int × (Int × Unit)) => some (impl_angle_s.out y)
  simp only [impl_angle, kb_ite, kb_some, kb_none, kb_bind, kb_alt]
  kernel_rfl
theorem impl_angle_is : FnIs Go.Proofs.Try.prog 47 (modeOf []) (phi [impl_angle_s]) := spec_is (c := impl_angle_c) seatOK impl_angle_t Go.Proofs.Try.func47 rfl (code := impl_angle_code) rfl rfl impl_angle_rs impl_angle_e
noncomputable def impl_Angle_double_s : Spec := ⟨[.v (.pair (.int .i64) (.pair (.int .i64) (.unit))) .fr], (Int × (Int × Unit)), fun v => impl_Angle_double v.1, fun r => ([.v (.pair (.int .i64) (.pair (.int .i64) (.unit))) .fr r], [])⟩
noncomputable def impl_Angle_double_ls : List LSum := []
noncomputable def impl_Angle_double_tab : List Row := [⟨47, [], [impl_angle_s]⟩]
theorem impl_Angle_double_t : ∀ r, r ∈ impl_Angle_double_tab → RowIs Go.Proofs.Try.prog r := tab_cons (impl_angle_is) (tab_nil)
theorem impl_Angle_double_rs : RoundsOK (mkCtx Go.K.Link.seat impl_Angle_double_c impl_Angle_double_tab) (sums impl_Angle_double_ls) (loopsOf 0 impl_Angle_double_code) impl_Angle_double_ls := trivial
theorem impl_Angle_double_e : ∀ v, (evFn (mkCtx Go.K.Link.seat impl_Angle_double_c impl_Angle_double_tab) (sums impl_Angle_double_ls) 46 Go.Proofs.Try.f46 (encL impl_Angle_double_s.a v)).run = (impl_Angle_double_s.gen v).bind fun y => some (impl_Angle_double_s.out y) := by
  rintro ⟨a, _⟩
  show _ = (impl_Angle_double a).bind fun y : (Int × (Int × Unit)) => some (impl_Angle_double_s.out y)
  simp only [impl_Angle_double, kb_ite, kb_some, kb_none, kb_bind, kb_alt]
  kernel_rfl
theorem impl_Angle_double_is : FnIs Go.Proofs.Try.prog 46 (modeOf []) (phi [impl_Angle_double_s]) := spec_is (c := impl_Angle_double_c) seatOK impl_Angle_double_t Go.Proofs.Try.func46 rfl (code := impl_Angle_double_code) rfl rfl impl_Angle_double_rs impl_Angle_double_e
noncomputable def impl_leads_l0_s : LSum := ⟨0, ⟨[(0, .val (.sl 32 (.pair (.int .i64) (.pair (.int .i64) (.unit)))) .fr), (2, .val (.ptr (.sl 32 (.pair (.int .i64) (.pair (.int .i64) (.unit))))) (.own .fr)), (1, .val (.sl 32 (.pair (.int .i64) (.pair (.int .i64) (.unit)))) (.own .fr)), (2, .val (.sl 32 (.pair (.int .i64) (.pair (.int .i64) (.unit)))) .fr), (0, .val (.int .i64) .fr), (0, .val (.int .i64) .fr)], 20⟩, (.exit 0, ⟨[(0, .val (.sl 32 (.pair (.int .i64) (.pair (.int .i64) (.unit)))) .fr), (2, .val (.ptr (.sl 32 (.pair (.int .i64) (.pair (.int .i64) (.unit))))) (.own .fr)), (1, .val (.sl 32 (.pair (.int .i64) (.pair (.int .i64) (.unit)))) (.own .fr))], 25⟩), [], impl_leads_l0⟩
noncomputable def impl_areAll_impl_Angle_v2_code : Code := (Go.Proofs.Try.f67.body).getD .skip
def impl_areAll_impl_Angle_v2_c : Cfg := ⟨67, [], [], [], []⟩
noncomputable def slices_ContainsFunc__impl_Angle_impl_Angle_v2_code : Code := (Go.Proofs.Try.f91.body).getD .skip
def slices_ContainsFunc__impl_Angle_impl_Angle_v2_c : Cfg := ⟨91, [], [], [], []⟩
noncomputable def slices_IndexFunc__impl_Angle_impl_Angle_v2_code : Code := (Go.Proofs.Try.f101.body).getD .skip
def slices_IndexFunc__impl_Angle_impl_Angle_v2_c : Cfg := ⟨101, [], [[0, 1, 7, 8], [], [4]], [], []⟩
noncomputable def impl_areAll_impl_Angle_f1_v2_code : Code := (Go.Proofs.Try.f92.body).getD .skip
def impl_areAll_impl_Angle_f1_v2_c : Cfg := ⟨92, [], [], [], []⟩
noncomputable def impl_leads_f1_code : Code := (Go.Proofs.Try.f97.body).getD .skip
def impl_leads_f1_c : Cfg := ⟨97, [], [], [], []⟩
noncomputable def slices_Contains__impl_Angle_impl_Angle_code : Code := (Go.Proofs.Try.f60.body).getD .skip
def slices_Contains__impl_Angle_impl_Angle_c : Cfg := ⟨60, [], [], [], []⟩
noncomputable def slices_Index__impl_Angle_impl_Angle_code : Code := (Go.Proofs.Try.f48.body).getD .skip
def slices_Index__impl_Angle_impl_Angle_c : Cfg := ⟨48, [], [[0, 3, 7, 8], [], [4]], [], []⟩
noncomputable def slices_Index__impl_Angle_impl_Angle_l0_s : LSum := ⟨0, ⟨[(0, .val (.sl 32 (.pair (.int .i64) (.pair (.int .i64) (.unit)))) .fr), (2, .val (.ptr (.pair (.int .i64) (.pair (.int .i64) (.unit)))) (.own .fr)), (3, .val (.int .i64) .fr), (0, .val (.int .i64) .fr)], 10⟩, (.ret, ⟨[(4, .val (.int .i64) .fr)], 14⟩), [(.exit 0, ⟨[], 19⟩)], slices_Index__impl_Angle_impl_Angle_l0⟩
noncomputable def slices_Index__impl_Angle_impl_Angle_s : Spec := ⟨[.v (.sl 32 (.pair (.int .i64) (.pair (.int .i64) (.unit)))) .fr, .v (.pair (.int .i64) (.pair (.int .i64) (.unit))) .fr], Int, fun v => slices_Index__impl_Angle_impl_Angle v.1 v.2.1, fun r => ([.v (.int .i64) .fr r], [])⟩
noncomputable def slices_Index__impl_Angle_impl_Angle_ls : List LSum := [slices_Index__impl_Angle_impl_Angle_l0_s]
noncomputable def slices_Index__impl_Angle_impl_Angle_tab : List Row := []
theorem slices_Index__impl_Angle_impl_Angle_t : ∀ r, r ∈ slices_Index__impl_Angle_impl_Angle_tab → RowIs Go.Proofs.Try.prog r := tab_nil
theorem slices_Index__impl_Angle_impl_Angle_l0_r : RoundIs (mkCtx Go.K.Link.seat slices_Index__impl_Angle_impl_Angle_c slices_Index__impl_Angle_impl_Angle_tab) (sums slices_Index__impl_Angle_impl_Angle_ls) 0 (bodyAt (loopsOf 0 slices_Index__impl_Angle_impl_Angle_code) 0) slices_Index__impl_Angle_impl_Angle_l0_s := by
  rintro ⟨s, ⟨v, ⟨t7, ⟨t8, _⟩⟩⟩⟩
  show _ = (slices_Index__impl_Angle_impl_Angle_l0 (s, (v, (t7, (t8, ()))))).bind fun r : (Ctl ((List (Int × (Int × Unit))) × ((Int × (Int × Unit))) × Int × Int × Unit) ((Int × Unit) ⊕ (Unit))) => some (ctlVal slices_Index__impl_Angle_impl_Angle_l0_s r)
  simp only [slices_Index__impl_Angle_impl_Angle_l0, kb_ite, kb_some, kb_none, kb_bind, kb_alt]
  kernel_rfl
theorem slices_Index__impl_Angle_impl_Angle_rs : RoundsOK (mkCtx Go.K.Link.seat slices_Index__impl_Angle_impl_Angle_c slices_Index__impl_Angle_impl_Angle_tab) (sums slices_Index__impl_Angle_impl_Angle_ls) (loopsOf 0 slices_Index__impl_Angle_impl_Angle_code) slices_Index__impl_Angle_impl_Angle_ls := ⟨⟨rfl, rfl, slices_Index__impl_Angle_impl_Angle_l0_r⟩, trivial⟩
theorem slices_Index__impl_Angle_impl_Angle_e : ∀ v, (evFn (mkCtx Go.K.Link.seat slices_Index__impl_Angle_impl_Angle_c slices_Index__impl_Angle_impl_Angle_tab) (sums slices_Index__impl_Angle_impl_Angle_ls) 48 Go.Proofs.Try.f48 (encL slices_Index__impl_Angle_impl_Angle_s.a v)).run = (slices_Index__impl_Angle_impl_Angle_s.gen v).bind fun y => some (slices_Index__impl_Angle_impl_Angle_s.out y) := by
  rintro ⟨s, ⟨v, _⟩⟩
  show _ = (slices_Index__impl_Angle_impl_Angle s v).bind fun y : Int => some (slices_Index__impl_Angle_impl_Angle_s.out y)
  simp only [slices_Index__impl_Angle_impl_Angle, kb_ite, kb_some, kb_none, kb_bind, kb_alt]
  kernel_rfl
theorem slices_Index__impl_Angle_impl_Angle_is : FnIs Go.Proofs.Try.prog 48 (modeOf []) (phi [slices_Index__impl_Angle_impl_Angle_s]) := spec_is (c := slices_Index__impl_Angle_impl_Angle_c) seatOK slices_Index__impl_Angle_impl_Angle_t Go.Proofs.Try.func48 rfl (code := slices_Index__impl_Angle_impl_Angle_code) rfl rfl slices_Index__impl_Angle_impl_Angle_rs slices_Index__impl_Angle_impl_Angle_e
noncomputable def slices_Contains__impl_Angle_impl_Angle_s : Spec := ⟨[.v (.sl 32 (.pair (.int .i64) (.pair (.int .i64) (.unit)))) .fr, .v (.pair (.int .i64) (.pair (.int .i64) (.unit))) .fr], Bool, fun v => slices_Contains__impl_Angle_impl_Angle v.1 v.2.1, fun r => ([.v (.bool) .fr r], [])⟩
noncomputable def slices_Contains__impl_Angle_impl_Angle_ls : List LSum := []
noncomputable def slices_Contains__impl_Angle_impl_Angle_tab : List Row := [⟨48, [], [slices_Index__impl_Angle_impl_Angle_s]⟩]
theorem slices_Contains__impl_Angle_impl_Angle_t : ∀ r, r ∈ slices_Contains__impl_Angle_impl_Angle_tab → RowIs Go.Proofs.Try.prog r := tab_cons (slices_Index__impl_Angle_impl_Angle_is) (tab_nil)
theorem slices_Contains__impl_Angle_impl_Angle_rs : RoundsOK (mkCtx Go.K.Link.seat slices_Contains__impl_Angle_impl_Angle_c slices_Contains__impl_Angle_impl_Angle_tab) (sums slices_Contains__impl_Angle_impl_Angle_ls) (loopsOf 0 slices_Contains__impl_Angle_impl_Angle_code) slices_Contains__impl_Angle_impl_Angle_ls := trivial
theorem slices_Contains__impl_Angle_impl_Angle_e : ∀ v, (evFn (mkCtx Go.K.Link.seat slices_Contains__impl_Angle_impl_Angle_c slices_Contains__impl_Angle_impl_Angle_tab) (sums slices_Contains__impl_Angle_impl_Angle_ls) 60 Go.Proofs.Try.f60 (encL slices_Contains__impl_Angle_impl_Angle_s.a v)).run = (slices_Contains__impl_Angle_impl_Angle_s.gen v).bind fun y => some (slices_Contains__impl_Angle_impl_Angle_s.out y) := by
  rintro ⟨s, ⟨v, _⟩⟩
  show _ = (slices_Contains__impl_Angle_impl_Angle s v).bind fun y : Bool => some (slices_Contains__impl_Angle_impl_Angle_s.out y)
  simp only [slices_Contains__impl_Angle_impl_Angle, kb_ite, kb_some, kb_none, kb_bind, kb_alt]
  kernel_rfl
theorem slices_Contains__impl_Angle_impl_Angle_is : FnIs Go.Proofs.Try.prog 60 (modeOf []) (phi [slices_Contains__impl_Angle_impl_Angle_s]) := spec_is (c := slices_Contains__impl_Angle_impl_Angle_c) seatOK slices_Contains__impl_Angle_impl_Angle_t Go.Proofs.Try.func60 rfl (code := slices_Contains__impl_Angle_impl_Angle_code) rfl rfl slices_Contains__impl_Angle_impl_Angle_rs slices_Contains__impl_Angle_impl_Angle_e
noncomputable def impl_leads_f1_s : Spec := ⟨[.v (.pair (.int .i64) (.pair (.int .i64) (.unit))) .fr, .v (.ptr (.sl 32 (.pair (.int .i64) (.pair (.int .i64) (.unit))))) .fr], Bool, fun v => impl_leads_f1 v.1 v.2.1, fun r => ([.v (.bool) .fr r], [])⟩
noncomputable def impl_leads_f1_ls : List LSum := []
noncomputable def impl_leads_f1_tab : List Row := [⟨60, [], [slices_Contains__impl_Angle_impl_Angle_s]⟩]
theorem impl_leads_f1_t : ∀ r, r ∈ impl_leads_f1_tab → RowIs Go.Proofs.Try.prog r := tab_cons (slices_Contains__impl_Angle_impl_Angle_is) (tab_nil)
theorem impl_leads_f1_rs : RoundsOK (mkCtx Go.K.Link.seat impl_leads_f1_c impl_leads_f1_tab) (sums impl_leads_f1_ls) (loopsOf 0 impl_leads_f1_code) impl_leads_f1_ls := trivial
theorem impl_leads_f1_e : ∀ v, (evFn (mkCtx Go.K.Link.seat impl_leads_f1_c impl_leads_f1_tab) (sums impl_leads_f1_ls) 97 Go.Proofs.Try.f97 (encL impl_leads_f1_s.a v)).run = (impl_leads_f1_s.gen v).bind fun y => some (impl_leads_f1_s.out y) := by
  rintro ⟨a, ⟨t1, _⟩⟩
  show _ = (impl_leads_f1 a t1).bind fun y : Bool => some (impl_leads_f1_s.out y)
  simp only [impl_leads_f1, kb_ite, kb_some, kb_none, kb_bind, kb_alt]
  kernel_rfl
theorem impl_leads_f1_is : FnIs Go.Proofs.Try.prog 97 (modeOf []) (phi [impl_leads_f1_s]) := spec_is (c := impl_leads_f1_c) seatOK impl_leads_f1_t Go.Proofs.Try.func97 rfl (code := impl_leads_f1_code) rfl rfl impl_leads_f1_rs impl_leads_f1_e
noncomputable def impl_areAll_impl_Angle_f1_v2_s : Spec := ⟨[.v (.pair (.int .i64) (.pair (.int .i64) (.unit))) .fr, .pfn 97 [] [.v (.ptr (.sl 32 (.pair (.int .i64) (.pair (.int .i64) (.unit))))) .fr]], Bool, fun v => impl_areAll_impl_Angle_f1_v2 v.1 v.2.1.2.1, fun r => ([.v (.bool) .fr r], [])⟩
noncomputable def impl_areAll_impl_Angle_f1_v2_ls : List LSum := []
noncomputable def impl_areAll_impl_Angle_f1_v2_tab : List Row := [⟨97, [], [impl_leads_f1_s]⟩]
theorem impl_areAll_impl_Angle_f1_v2_t : ∀ r, r ∈ impl_areAll_impl_Angle_f1_v2_tab → RowIs Go.Proofs.Try.prog r := tab_cons (impl_leads_f1_is) (tab_nil)
theorem impl_areAll_impl_Angle_f1_v2_rs : RoundsOK (mkCtx Go.K.Link.seat impl_areAll_impl_Angle_f1_v2_c impl_areAll_impl_Angle_f1_v2_tab) (sums impl_areAll_impl_Angle_f1_v2_ls) (loopsOf 0 impl_areAll_impl_Angle_f1_v2_code) impl_areAll_impl_Angle_f1_v2_ls := trivial
theorem impl_areAll_impl_Angle_f1_v2_e : ∀ v, (evFn (mkCtx Go.K.Link.seat impl_areAll_impl_Angle_f1_v2_c impl_areAll_impl_Angle_f1_v2_tab) (sums impl_areAll_impl_Angle_f1_v2_ls) 92 Go.Proofs.Try.f92 (encL impl_areAll_impl_Angle_f1_v2_s.a v)).run = (impl_areAll_impl_Angle_f1_v2_s.gen v).bind fun y => some (impl_areAll_impl_Angle_f1_v2_s.out y) := by
  rintro ⟨x, ⟨⟨_, ⟨t1_0, _⟩⟩, _⟩⟩
  show _ = (impl_areAll_impl_Angle_f1_v2 x t1_0).bind fun y : Bool => some (impl_areAll_impl_Angle_f1_v2_s.out y)
  simp only [impl_areAll_impl_Angle_f1_v2, kb_ite, kb_some, kb_none, kb_bind, kb_alt]
  kernel_rfl
theorem impl_areAll_impl_Angle_f1_v2_is : FnIs Go.Proofs.Try.prog 92 (modeOf []) (phi [impl_areAll_impl_Angle_f1_v2_s]) := spec_is (c := impl_areAll_impl_Angle_f1_v2_c) seatOK impl_areAll_impl_Angle_f1_v2_t Go.Proofs.Try.func92 rfl (code := impl_areAll_impl_Angle_f1_v2_code) rfl rfl impl_areAll_impl_Angle_f1_v2_rs impl_areAll_impl_Angle_f1_v2_e
noncomputable def slices_IndexFunc__impl_Angle_impl_Angle_v2_l0_s : LSum := ⟨0, ⟨[(0, .val (.sl 32 (.pair (.int .i64) (.pair (.int .i64) (.unit)))) .fr), (0, .fnl 92 [] [.arg (.pfn 97 [] [.v (.ptr (.sl 32 (.pair (.int .i64) (.pair (.int .i64) (.unit))))) .fr])]), (5, .val (.int .i64) .fr), (0, .val (.int .i64) .fr)], 10⟩, (.ret, ⟨[(4, .val (.int .i64) .fr)], 14⟩), [(.exit 0, ⟨[], 19⟩)], slices_IndexFunc__impl_Angle_impl_Angle_v2_l0⟩
noncomputable def slices_IndexFunc__impl_Angle_impl_Angle_v2_s : Spec := ⟨[.v (.sl 32 (.pair (.int .i64) (.pair (.int .i64) (.unit)))) .fr, .fn 92 [] [.pfn 97 [] [.v (.ptr (.sl 32 (.pair (.int .i64) (.pair (.int .i64) (.unit))))) .fr]]], Int, fun v => slices_IndexFunc__impl_Angle_impl_Angle_v2 v.1 v.2.1.2.1.2.1, fun r => ([.v (.int .i64) .fr r], [])⟩
noncomputable def slices_IndexFunc__impl_Angle_impl_Angle_v2_ls : List LSum := [slices_IndexFunc__impl_Angle_impl_Angle_v2_l0_s]
noncomputable def slices_IndexFunc__impl_Angle_impl_Angle_v2_tab : List Row := [⟨92, [], [impl_areAll_impl_Angle_f1_v2_s]⟩]
theorem slices_IndexFunc__impl_Angle_impl_Angle_v2_t : ∀ r, r ∈ slices_IndexFunc__impl_Angle_impl_Angle_v2_tab → RowIs Go.Proofs.Try.prog r := tab_cons (impl_areAll_impl_Angle_f1_v2_is) (tab_nil)
theorem slices_IndexFunc__impl_Angle_impl_Angle_v2_l0_r : RoundIs (mkCtx Go.K.Link.seat slices_IndexFunc__impl_Angle_impl_Angle_v2_c slices_IndexFunc__impl_Angle_impl_Angle_v2_tab) (sums slices_IndexFunc__impl_Angle_impl_Angle_v2_ls) 0 (bodyAt (loopsOf 0 slices_IndexFunc__impl_Angle_impl_Angle_v2_code) 0) slices_IndexFunc__impl_Angle_impl_Angle_v2_l0_s := by
  rintro ⟨s, ⟨_, ⟨⟨_, ⟨f, _⟩⟩, _⟩, ⟨t7, ⟨t8, _⟩⟩⟩⟩
  show _ = (slices_IndexFunc__impl_Angle_impl_Angle_v2_l0 (s, ((), (((), (f, ())), ()), (t7, (t8, ()))))).bind fun r : (Ctl ((List (Int × (Int × Unit))) × Unit × ((Unit × (List (Int × (Int × Unit)) × Unit)) × Unit) × Int × Int × Unit) ((Int × Unit) ⊕ (Unit))) => some (ctlVal slices_IndexFunc__impl_Angle_impl_Angle_v2_l0_s r)
  simp only [slices_IndexFunc__impl_Angle_impl_Angle_v2_l0, kb_ite, kb_some, kb_none, kb_bind, kb_alt]
  kernel_rfl
theorem slices_IndexFunc__impl_Angle_impl_Angle_v2_rs : RoundsOK (mkCtx Go.K.Link.seat slices_IndexFunc__impl_Angle_impl_Angle_v2_c slices_IndexFunc__impl_Angle_impl_Angle_v2_tab) (sums slices_IndexFunc__impl_Angle_impl_Angle_v2_ls) (loopsOf 0 slices_IndexFunc__impl_Angle_impl_Angle_v2_code) slices_IndexFunc__impl_Angle_impl_Angle_v2_ls := ⟨⟨rfl, rfl, slices_IndexFunc__impl_Angle_impl_Angle_v2_l0_r⟩, trivial⟩
theorem slices_IndexFunc__impl_Angle_impl_Angle_v2_e : ∀ v, (evFn (mkCtx Go.K.Link.seat slices_IndexFunc__impl_Angle_impl_Angle_v2_c slices_IndexFunc__impl_Angle_impl_Angle_v2_tab) (sums slices_IndexFunc__impl_Angle_impl_Angle_v2_ls) 101 Go.Proofs.Try.f101 (encL slices_IndexFunc__impl_Angle_impl_Angle_v2_s.a v)).run = (slices_IndexFunc__impl_Angle_impl_Angle_v2_s.gen v).bind fun y => some (slices_IndexFunc__impl_Angle_impl_Angle_v2_s.out y) := by
  rintro ⟨s, ⟨⟨_, ⟨⟨_, ⟨f_0_1, _⟩⟩, _⟩⟩, _⟩⟩
  show _ = (slices_IndexFunc__impl_Angle_impl_Angle_v2 s f_0_1).bind fun y : Int => some (slices_IndexFunc__impl_Angle_impl_Angle_v2_s.out y)
  simp only [slices_IndexFunc__impl_Angle_impl_Angle_v2, kb_ite, kb_some, kb_none, kb_bind, kb_alt]
  kernel_rfl
theorem slices_IndexFunc__impl_Angle_impl_Angle_v2_is : FnIs Go.Proofs.Try.prog 101 (modeOf []) (phi [slices_IndexFunc__impl_Angle_impl_Angle_v2_s]) := spec_is (c := slices_IndexFunc__impl_Angle_impl_Angle_v2_c) seatOK slices_IndexFunc__impl_Angle_impl_Angle_v2_t Go.Proofs.Try.func101 rfl (code := slices_IndexFunc__impl_Angle_impl_Angle_v2_code) rfl rfl slices_IndexFunc__impl_Angle_impl_Angle_v2_rs slices_IndexFunc__impl_Angle_impl_Angle_v2_e
noncomputable def slices_ContainsFunc__impl_Angle_impl_Angle_v2_s : Spec := ⟨[.v (.sl 32 (.pair (.int .i64) (.pair (.int .i64) (.unit)))) .fr, .fn 92 [] [.pfn 97 [] [.v (.ptr (.sl 32 (.pair (.int .i64) (.pair (.int .i64) (.unit))))) .fr]]], Bool, fun v => slices_ContainsFunc__impl_Angle_impl_Angle_v2 v.1 v.2.1.2.1.2.1, fun r => ([.v (.bool) .fr r], [])⟩
noncomputable def slices_ContainsFunc__impl_Angle_impl_Angle_v2_ls : List LSum := []
noncomputable def slices_ContainsFunc__impl_Angle_impl_Angle_v2_tab : List Row := [⟨101, [], [slices_IndexFunc__impl_Angle_impl_Angle_v2_s]⟩]
theorem slices_ContainsFunc__impl_Angle_impl_Angle_v2_t : ∀ r, r ∈ slices_ContainsFunc__impl_Angle_impl_Angle_v2_tab → RowIs Go.Proofs.Try.prog r := tab_cons (slices_IndexFunc__impl_Angle_impl_Angle_v2_is) (tab_nil)
theorem slices_ContainsFunc__impl_Angle_impl_Angle_v2_rs : RoundsOK (mkCtx Go.K.Link.seat slices_ContainsFunc__impl_Angle_impl_Angle_v2_c slices_ContainsFunc__impl_Angle_impl_Angle_v2_tab) (sums slices_ContainsFunc__impl_Angle_impl_Angle_v2_ls) (loopsOf 0 slices_ContainsFunc__impl_Angle_impl_Angle_v2_code) slices_ContainsFunc__impl_Angle_impl_Angle_v2_ls := trivial
theorem slices_ContainsFunc__impl_Angle_impl_Angle_v2_e : ∀ v, (evFn (mkCtx Go.K.Link.seat slices_ContainsFunc__impl_Angle_impl_Angle_v2_c slices_ContainsFunc__impl_Angle_impl_Angle_v2_tab) (sums slices_ContainsFunc__impl_Angle_impl_Angle_v2_ls) 91 Go.Proofs.Try.f91 (encL slices_ContainsFunc__impl_Angle_impl_Angle_v2_s.a v)).run = (slices_ContainsFunc__impl_Angle_impl_Angle_v2_s.gen v).bind fun y => some (slices_ContainsFunc__impl_Angle_impl_Angle_v2_s.out y) := by
  rintro ⟨s, ⟨⟨_, ⟨⟨_, ⟨f_0_1, _⟩⟩, _⟩⟩, _⟩⟩
  show _ = (slices_ContainsFunc__impl_Angle_impl_Angle_v2 s f_0_1).bind fun y : Bool => some (slices_ContainsFunc__impl_Angle_impl_Angle_v2_s.out y)
  simp only [slices_ContainsFunc__impl_Angle_impl_Angle_v2, kb_ite, kb_some, kb_none, kb_bind, kb_alt]
  kernel_rfl
theorem slices_ContainsFunc__impl_Angle_impl_Angle_v2_is : FnIs Go.Proofs.Try.prog 91 (modeOf []) (phi [slices_ContainsFunc__impl_Angle_impl_Angle_v2_s]) := spec_is (c := slices_ContainsFunc__impl_Angle_impl_Angle_v2_c) seatOK slices_ContainsFunc__impl_Angle_impl_Angle_v2_t Go.Proofs.Try.func91 rfl (code := slices_ContainsFunc__impl_Angle_impl_Angle_v2_code) rfl rfl slices_ContainsFunc__impl_Angle_impl_Angle_v2_rs slices_ContainsFunc__impl_Angle_impl_Angle_v2_e
noncomputable def impl_areAll_impl_Angle_v2_s : Spec := ⟨[.v (.sl 32 (.pair (.int .i64) (.pair (.int .i64) (.unit)))) .fr, .fn 97 [] [.v (.ptr (.sl 32 (.pair (.int .i64) (.pair (.int .i64) (.unit))))) .fr]], Bool, fun v => impl_areAll_impl_Angle_v2 v.1 v.2.1.2.1, fun r => ([.v (.bool) .fr r], [])⟩
noncomputable def impl_areAll_impl_Angle_v2_ls : List LSum := []
noncomputable def impl_areAll_impl_Angle_v2_tab : List Row := [⟨91, [], [slices_ContainsFunc__impl_Angle_impl_Angle_v2_s]⟩]
theorem impl_areAll_impl_Angle_v2_t : ∀ r, r ∈ impl_areAll_impl_Angle_v2_tab → RowIs Go.Proofs.Try.prog r := tab_cons (slices_ContainsFunc__impl_Angle_impl_Angle_v2_is) (tab_nil)
theorem impl_areAll_impl_Angle_v2_rs : RoundsOK (mkCtx Go.K.Link.seat impl_areAll_impl_Angle_v2_c impl_areAll_impl_Angle_v2_tab) (sums impl_areAll_impl_Angle_v2_ls) (loopsOf 0 impl_areAll_impl_Angle_v2_code) impl_areAll_impl_Angle_v2_ls := trivial
theorem impl_areAll_impl_Angle_v2_e : ∀ v, (evFn (mkCtx Go.K.Link.seat impl_areAll_impl_Angle_v2_c impl_areAll_impl_Angle_v2_tab) (sums impl_areAll_impl_Angle_v2_ls) 67 Go.Proofs.Try.f67 (encL impl_areAll_impl_Angle_v2_s.a v)).run = (impl_areAll_impl_Angle_v2_s.gen v).bind fun y => some (impl_areAll_impl_Angle_v2_s.out y) := by
  rintro ⟨list, ⟨⟨_, ⟨is'_0, _⟩⟩, _⟩⟩
  show _ = (impl_areAll_impl_Angle_v2 list is'_0).bind fun y : Bool => some (impl_areAll_impl_Angle_v2_s.out y)
  simp only [impl_areAll_impl_Angle_v2, kb_ite, kb_some, kb_none, kb_bind, kb_alt]
  kernel_rfl
theorem impl_areAll_impl_Angle_v2_is : FnIs Go.Proofs.Try.prog 67 (modeOf []) (phi [impl_areAll_impl_Angle_v2_s]) := spec_is (c := impl_areAll_impl_Angle_v2_c) seatOK impl_areAll_impl_Angle_v2_t Go.Proofs.Try.func67 rfl (code := impl_areAll_impl_Angle_v2_code) rfl rfl impl_areAll_impl_Angle_v2_rs impl_areAll_impl_Angle_v2_e
noncomputable def impl_leads_s : Spec := ⟨[.v (.sl 32 (.pair (.int .i64) (.pair (.int .i64) (.unit)))) .fr, .v (.sl 32 (.pair (.int .i64) (.pair (.int .i64) (.unit)))) .fr], Bool, fun v => impl_leads v.1 v.2.1, fun r => ([.v (.bool) .fr r], [])⟩
noncomputable def impl_leads_ls : List LSum := [impl_leads_l0_s]
noncomputable def impl_leads_tab : List Row := [⟨46, [], [impl_Angle_double_s]⟩, ⟨67, [], [impl_areAll_impl_Angle_v2_s]⟩, ⟨75, [], [impl_sorted_s]⟩]
theorem impl_leads_t : ∀ r, r ∈ impl_leads_tab → RowIs Go.Proofs.Try.prog r := tab_cons (impl_Angle_double_is) (tab_cons (impl_areAll_impl_Angle_v2_is) (tab_cons (impl_sorted_is) (tab_nil)))
theorem impl_leads_l0_r : RoundIs (mkCtx Go.K.Link.seat impl_leads_c impl_leads_tab) (sums impl_leads_ls) 0 (bodyAt (loopsOf 0 impl_leads_code) 0) impl_leads_l0_s := by
  rintro ⟨set, ⟨next', ⟨images, ⟨t8, ⟨t9, ⟨t10, _⟩⟩⟩⟩⟩⟩
  show _ = (impl_leads_l0 (set, (next', (images, (t8, (t9, (t10, ()))))))).bind fun r : (Ctl ((List (Int × (Int × Unit))) × (List (Int × (Int × Unit))) × (List (Int × (Int × Unit))) × (List (Int × (Int × Unit))) × Int × Int × Unit) (((List (Int × (Int × Unit))) × (List (Int × (Int × Unit))) × (List (Int × (Int × Unit))) × Unit))) => some (ctlVal impl_leads_l0_s r)
  simp only [impl_leads_l0, kb_ite, kb_some, kb_none, kb_bind, kb_alt]
  kernel_rfl
theorem impl_leads_rs : RoundsOK (mkCtx Go.K.Link.seat impl_leads_c impl_leads_tab) (sums impl_leads_ls) (loopsOf 0 impl_leads_code) impl_leads_ls := ⟨⟨rfl, rfl, impl_leads_l0_r⟩, trivial⟩
theorem impl_leads_e : ∀ v, (evFn (mkCtx Go.K.Link.seat impl_leads_c impl_leads_tab) (sums impl_leads_ls) 77 Go.Proofs.Try.f77 (encL impl_leads_s.a v)).run = (impl_leads_s.gen v).bind fun y => some (impl_leads_s.out y) := by
  rintro ⟨set, ⟨next', _⟩⟩
  show _ = (impl_leads set next').bind fun y : Bool => some (impl_leads_s.out y)
  simp only [impl_leads, kb_ite, kb_some, kb_none, kb_bind, kb_alt]
  kernel_rfl
theorem impl_leads_is : FnIs Go.Proofs.Try.prog 77 (modeOf []) (phi [impl_leads_s]) := spec_is (c := impl_leads_c) seatOK impl_leads_t Go.Proofs.Try.func77 rfl (code := impl_leads_code) rfl rfl impl_leads_rs impl_leads_e
noncomputable def impl_fails_l0_s : LSum := ⟨0, ⟨[(0, .val (.sl 36 (.sl 32 (.pair (.int .i64) (.pair (.int .i64) (.unit))))) .fr), (2, .val (.sl 32 (.pair (.int .i64) (.pair (.int .i64) (.unit)))) (.own .fr)), (0, .val (.sl 36 (.sl 32 (.pair (.int .i64) (.pair (.int .i64) (.unit))))) (.own .fr)), (24, .val (.sl 36 (.sl 32 (.pair (.int .i64) (.pair (.int .i64) (.unit))))) .fr), (0, .val (.int .i64) .fr), (0, .val (.int .i64) .fr)], 55⟩, (.ret, ⟨[(2, .val (.int .i64) .fr)], 84⟩), [(.exit 0, ⟨[(0, .val (.sl 36 (.sl 32 (.pair (.int .i64) (.pair (.int .i64) (.unit))))) .fr), (2, .val (.sl 32 (.pair (.int .i64) (.pair (.int .i64) (.unit)))) (.own .fr)), (0, .val (.sl 36 (.sl 32 (.pair (.int .i64) (.pair (.int .i64) (.unit))))) (.own .fr))], 82⟩)], impl_fails_l0⟩
noncomputable def impl_keeps_code : Code := (Go.Proofs.Try.f78.body).getD .skip
def impl_keeps_c : Cfg := ⟨78, [], [[0, 1, 7, 8, 9], [], [4]], [], []⟩
noncomputable def impl_at_code : Code := (Go.Proofs.Try.f50.body).getD .skip
def impl_at_c : Cfg := ⟨50, [], [], [], []⟩
noncomputable def impl_at_s : Spec := ⟨[.v (.sl 32 (.pair (.int .i64) (.pair (.int .i64) (.unit)))) .fr, .v (.int .i64) .fr], (Int × (Int × Unit)), fun v => impl_at v.1 v.2.1, fun r => ([.v (.pair (.int .i64) (.pair (.int .i64) (.unit))) .fr r], [])⟩
noncomputable def impl_at_ls : List LSum := []
noncomputable def impl_at_tab : List Row := []
theorem impl_at_t : ∀ r, r ∈ impl_at_tab → RowIs Go.Proofs.Try.prog r := tab_nil
theorem impl_at_rs : RoundsOK (mkCtx Go.K.Link.seat impl_at_c impl_at_tab) (sums impl_at_ls) (loopsOf 0 impl_at_code) impl_at_ls := trivial
theorem impl_at_e : ∀ v, (evFn (mkCtx Go.K.Link.seat impl_at_c impl_at_tab) (sums impl_at_ls) 50 Go.Proofs.Try.f50 (encL impl_at_s.a v)).run = (impl_at_s.gen v).bind fun y => some (impl_at_s.out y) := by
  rintro ⟨set, ⟨i, _⟩⟩
  show _ = (impl_at set i).bind fun y : (Int × (Int × Unit)) => some (impl_at_s.out y)
  simp only [impl_at, kb_ite, kb_some, kb_none, kb_bind, kb_alt]
  kernel_rfl
theorem impl_at_is : FnIs Go.Proofs.Try.prog 50 (modeOf []) (phi [impl_at_s]) := spec_is (c := impl_at_c) seatOK impl_at_t Go.Proofs.Try.func50 rfl (code := impl_at_code) rfl rfl impl_at_rs impl_at_e
noncomputable def impl_keeps_l0_s : LSum := ⟨0, ⟨[(0, .val (.sl 32 (.pair (.int .i64) (.pair (.int .i64) (.unit)))) .fr), (0, .val (.sl 32 (.pair (.int .i64) (.pair (.int .i64) (.unit)))) .fr), (5, .val (.sl 32 (.pair (.int .i64) (.pair (.int .i64) (.unit)))) .fr), (0, .val (.int .i64) .fr), (0, .val (.int .i64) .fr)], 18⟩, (.ret, ⟨[(4, .val (.bool) .fr)], 23⟩), [(.exit 0, ⟨[], 28⟩)], impl_keeps_l0⟩
noncomputable def impl_keeps_s : Spec := ⟨[.v (.sl 32 (.pair (.int .i64) (.pair (.int .i64) (.unit)))) .fr, .v (.sl 32 (.pair (.int .i64) (.pair (.int .i64) (.unit)))) .fr], Bool, fun v => impl_keeps v.1 v.2.1, fun r => ([.v (.bool) .fr r], [])⟩
noncomputable def impl_keeps_ls : List LSum := [impl_keeps_l0_s]
noncomputable def impl_keeps_tab : List Row := [⟨46, [], [impl_Angle_double_s]⟩, ⟨48, [], [slices_Index__impl_Angle_impl_Angle_s]⟩, ⟨50, [], [impl_at_s]⟩]
theorem impl_keeps_t : ∀ r, r ∈ impl_keeps_tab → RowIs Go.Proofs.Try.prog r := tab_cons (impl_Angle_double_is) (tab_cons (slices_Index__impl_Angle_impl_Angle_is) (tab_cons (impl_at_is) (tab_nil)))
theorem impl_keeps_l0_r : RoundIs (mkCtx Go.K.Link.seat impl_keeps_c impl_keeps_tab) (sums impl_keeps_ls) 0 (bodyAt (loopsOf 0 impl_keeps_code) 0) impl_keeps_l0_s := by
  rintro ⟨set, ⟨next', ⟨t7, ⟨t8, ⟨t9, _⟩⟩⟩⟩⟩
  show _ = (impl_keeps_l0 (set, (next', (t7, (t8, (t9, ())))))).bind fun r : (Ctl ((List (Int × (Int × Unit))) × (List (Int × (Int × Unit))) × (List (Int × (Int × Unit))) × Int × Int × Unit) ((Bool × Unit) ⊕ (Unit))) => some (ctlVal impl_keeps_l0_s r)
  simp only [impl_keeps_l0, kb_ite, kb_some, kb_none, kb_bind, kb_alt]
  kernel_rfl
theorem impl_keeps_rs : RoundsOK (mkCtx Go.K.Link.seat impl_keeps_c impl_keeps_tab) (sums impl_keeps_ls) (loopsOf 0 impl_keeps_code) impl_keeps_ls := ⟨⟨rfl, rfl, impl_keeps_l0_r⟩, trivial⟩
theorem impl_keeps_e : ∀ v, (evFn (mkCtx Go.K.Link.seat impl_keeps_c impl_keeps_tab) (sums impl_keeps_ls) 78 Go.Proofs.Try.f78 (encL impl_keeps_s.a v)).run = (impl_keeps_s.gen v).bind fun y => some (impl_keeps_s.out y) := by
  rintro ⟨set, ⟨next', _⟩⟩
  show _ = (impl_keeps set next').bind fun y : Bool => some (impl_keeps_s.out y)
  simp only [impl_keeps, kb_ite, kb_some, kb_none, kb_bind, kb_alt]
  kernel_rfl
theorem impl_keeps_is : FnIs Go.Proofs.Try.prog 78 (modeOf []) (phi [impl_keeps_s]) := spec_is (c := impl_keeps_c) seatOK impl_keeps_t Go.Proofs.Try.func78 rfl (code := impl_keeps_code) rfl rfl impl_keeps_rs impl_keeps_e
noncomputable def impl_fails_l1_s : LSum := ⟨2, ⟨[(0, .val (.sl 36 (.sl 32 (.pair (.int .i64) (.pair (.int .i64) (.unit))))) .fr), (2, .val (.sl 32 (.pair (.int .i64) (.pair (.int .i64) (.unit)))) (.own .fr)), (0, .val (.sl 36 (.sl 32 (.pair (.int .i64) (.pair (.int .i64) (.unit))))) (.own .fr)), (39, .val (.sl 36 (.sl 32 (.pair (.int .i64) (.pair (.int .i64) (.unit))))) .fr), (0, .val (.int .i64) .fr), (0, .val (.int .i64) .fr)], 40⟩, (.ret, ⟨[(2, .val (.int .i64) .fr)], 84⟩), [(.exit 2, ⟨[(0, .val (.sl 36 (.sl 32 (.pair (.int .i64) (.pair (.int .i64) (.unit))))) .fr), (2, .val (.sl 32 (.pair (.int .i64) (.pair (.int .i64) (.unit)))) (.own .fr))], 83⟩)], impl_fails_l1⟩
noncomputable def impl_periodic_code : Code := (Go.Proofs.Try.f57.body).getD .skip
def impl_periodic_c : Cfg := ⟨57, [], [], [], []⟩
noncomputable def impl_preperiods_code : Code := (Go.Proofs.Try.f87.body).getD .skip
def impl_preperiods_c : Cfg := ⟨87, [], [], [], []⟩
noncomputable def impl_Angle_orbit_code : Code := (Go.Proofs.Try.f56.body).getD .skip
def impl_Angle_orbit_c : Cfg := ⟨56, [], [[1, 5, 12, 20], [], [2, 3, 4, 5, 12, 20]], [], []⟩
noncomputable def impl_Angle_orbit_l0_s : LSum := ⟨0, ⟨[(1, .val (.ptr (.pair (.int .i64) (.pair (.int .i64) (.unit)))) (.own .fr)), (3, .val (.sl 32 (.pair (.int .i64) (.pair (.int .i64) (.unit)))) (.own .fr))], 17⟩, (.ret, ⟨[(2, .sref 5 []), (0, .val (.int .i64) .fr), (0, .val (.bool) .fr), (0, .val (.sl 32 (.pair (.int .i64) (.pair (.int .i64) (.unit)))) (.own .fr)), (6, .sref 5 [])], 10⟩), [(.ret, ⟨[(2, .val (.sl 32 (.pair (.int .i64) (.pair (.int .i64) (.unit)))) (.own .fr)), (0, .val (.int .i64) .fr), (0, .val (.bool) .fr), (0, .val (.sl 32 (.pair (.int .i64) (.pair (.int .i64) (.unit)))) (.own .fr))], 17⟩)], impl_Angle_orbit_l0⟩
noncomputable def impl_Angle_orbit_s : Spec := ⟨[.v (.pair (.int .i64) (.pair (.int .i64) (.unit))) .fr], (List (Int × (Int × Unit))) × Int × Bool, fun v => impl_Angle_orbit v.1, fun r => ([.v (.sl 32 (.pair (.int .i64) (.pair (.int .i64) (.unit)))) (.own .fr) r.1, .v (.int .i64) .fr r.2.1, .v (.bool) .fr r.2.2], [])⟩
noncomputable def impl_Angle_orbit_ls : List LSum := [impl_Angle_orbit_l0_s]
noncomputable def impl_Angle_orbit_tab : List Row := [⟨46, [], [impl_Angle_double_s]⟩, ⟨48, [], [slices_Index__impl_Angle_impl_Angle_s]⟩]
theorem impl_Angle_orbit_t : ∀ r, r ∈ impl_Angle_orbit_tab → RowIs Go.Proofs.Try.prog r := tab_cons (impl_Angle_double_is) (tab_cons (slices_Index__impl_Angle_impl_Angle_is) (tab_nil))
theorem impl_Angle_orbit_l0_r : RoundIs (mkCtx Go.K.Link.seat impl_Angle_orbit_c impl_Angle_orbit_tab) (sums impl_Angle_orbit_ls) 0 (bodyAt (loopsOf 0 impl_Angle_orbit_code) 0) impl_Angle_orbit_l0_s := by
  rintro ⟨a, ⟨list, _⟩⟩
  show _ = (impl_Angle_orbit_l0 (a, (list, ()))).bind fun r : (Ctl (((Int × (Int × Unit))) × (List (Int × (Int × Unit))) × Unit) ((Int × Bool × (List (Int × (Int × Unit))) × Unit) ⊕ ((List (Int × (Int × Unit))) × Int × Bool × (List (Int × (Int × Unit))) × Unit))) => some (ctlVal impl_Angle_orbit_l0_s r)
  simp only [impl_Angle_orbit_l0, kb_ite, kb_some, kb_none, kb_bind, kb_alt]
  kernel_rfl
theorem impl_Angle_orbit_rs : RoundsOK (mkCtx Go.K.Link.seat impl_Angle_orbit_c impl_Angle_orbit_tab) (sums impl_Angle_orbit_ls) (loopsOf 0 impl_Angle_orbit_code) impl_Angle_orbit_ls := ⟨⟨rfl, rfl, impl_Angle_orbit_l0_r⟩, trivial⟩
theorem impl_Angle_orbit_e : ∀ v, (evFn (mkCtx Go.K.Link.seat impl_Angle_orbit_c impl_Angle_orbit_tab) (sums impl_Angle_orbit_ls) 56 Go.Proofs.Try.f56 (encL impl_Angle_orbit_s.a v)).run = (impl_Angle_orbit_s.gen v).bind fun y => some (impl_Angle_orbit_s.out y) := by
  rintro ⟨a, _⟩
  show _ = (impl_Angle_orbit a).bind fun y : (List (Int × (Int × Unit))) × Int × Bool => some (impl_Angle_orbit_s.out y)
  simp only [impl_Angle_orbit, kb_ite, kb_some, kb_none, kb_bind, kb_alt]
  kernel_rfl
theorem impl_Angle_orbit_is : FnIs Go.Proofs.Try.prog 56 (modeOf []) (phi [impl_Angle_orbit_s]) := spec_is (c := impl_Angle_orbit_c) seatOK impl_Angle_orbit_t Go.Proofs.Try.func56 rfl (code := impl_Angle_orbit_code) rfl rfl impl_Angle_orbit_rs impl_Angle_orbit_e
noncomputable def impl_preperiods_s : Spec := ⟨[.v (.pair (.int .i64) (.pair (.int .i64) (.unit))) .fr], Int × Int, fun v => impl_preperiods v.1, fun r => ([.v (.int .i64) .fr r.1, .v (.int .i64) .fr r.2], [])⟩
noncomputable def impl_preperiods_ls : List LSum := []
noncomputable def impl_preperiods_tab : List Row := [⟨56, [], [impl_Angle_orbit_s]⟩]
theorem impl_preperiods_t : ∀ r, r ∈ impl_preperiods_tab → RowIs Go.Proofs.Try.prog r := tab_cons (impl_Angle_orbit_is) (tab_nil)
theorem impl_preperiods_rs : RoundsOK (mkCtx Go.K.Link.seat impl_preperiods_c impl_preperiods_tab) (sums impl_preperiods_ls) (loopsOf 0 impl_preperiods_code) impl_preperiods_ls := trivial
theorem impl_preperiods_e : ∀ v, (evFn (mkCtx Go.K.Link.seat impl_preperiods_c impl_preperiods_tab) (sums impl_preperiods_ls) 87 Go.Proofs.Try.f87 (encL impl_preperiods_s.a v)).run = (impl_preperiods_s.gen v).bind fun y => some (impl_preperiods_s.out y) := by
  rintro ⟨a, _⟩
  show _ = (impl_preperiods a).bind fun y : Int × Int => some (impl_preperiods_s.out y)
  simp only [impl_preperiods, kb_ite, kb_some, kb_none, kb_bind, kb_alt]
  kernel_rfl
theorem impl_preperiods_is : FnIs Go.Proofs.Try.prog 87 (modeOf []) (phi [impl_preperiods_s]) := spec_is (c := impl_preperiods_c) seatOK impl_preperiods_t Go.Proofs.Try.func87 rfl (code := impl_preperiods_code) rfl rfl impl_preperiods_rs impl_preperiods_e
noncomputable def impl_areAll_impl_Angle_v3_code : Code := (Go.Proofs.Try.f67.body).getD .skip
def impl_areAll_impl_Angle_v3_c : Cfg := ⟨67, [], [], [], []⟩
noncomputable def slices_ContainsFunc__impl_Angle_impl_Angle_v3_code : Code := (Go.Proofs.Try.f91.body).getD .skip
def slices_ContainsFunc__impl_Angle_impl_Angle_v3_c : Cfg := ⟨91, [], [], [], []⟩
noncomputable def slices_IndexFunc__impl_Angle_impl_Angle_v3_code : Code := (Go.Proofs.Try.f101.body).getD .skip
def slices_IndexFunc__impl_Angle_impl_Angle_v3_c : Cfg := ⟨101, [], [[0, 1, 7, 8], [], [4]], [], []⟩
noncomputable def impl_areAll_impl_Angle_f1_v3_code : Code := (Go.Proofs.Try.f92.body).getD .skip
def impl_areAll_impl_Angle_f1_v3_c : Cfg := ⟨92, [], [], [], []⟩
noncomputable def impl_periodic_f1_code : Code := (Go.Proofs.Try.f88.body).getD .skip
def impl_periodic_f1_c : Cfg := ⟨88, [], [], [], []⟩
noncomputable def impl_periodic_f1_s : Spec := ⟨[.v (.pair (.int .i64) (.pair (.int .i64) (.unit))) .fr, .v (.ptr (.int .i64)) .fr], Bool, fun v => impl_periodic_f1 v.1 v.2.1, fun r => ([.v (.bool) .fr r], [])⟩
noncomputable def impl_periodic_f1_ls : List LSum := []
noncomputable def impl_periodic_f1_tab : List Row := [⟨87, [], [impl_preperiods_s]⟩]
theorem impl_periodic_f1_t : ∀ r, r ∈ impl_periodic_f1_tab → RowIs Go.Proofs.Try.prog r := tab_cons (impl_preperiods_is) (tab_nil)
theorem impl_periodic_f1_rs : RoundsOK (mkCtx Go.K.Link.seat impl_periodic_f1_c impl_periodic_f1_tab) (sums impl_periodic_f1_ls) (loopsOf 0 impl_periodic_f1_code) impl_periodic_f1_ls := trivial
theorem impl_periodic_f1_e : ∀ v, (evFn (mkCtx Go.K.Link.seat impl_periodic_f1_c impl_periodic_f1_tab) (sums impl_periodic_f1_ls) 88 Go.Proofs.Try.f88 (encL impl_periodic_f1_s.a v)).run = (impl_periodic_f1_s.gen v).bind fun y => some (impl_periodic_f1_s.out y) := by
  rintro ⟨a, ⟨t1, _⟩⟩
  show _ = (impl_periodic_f1 a t1).bind fun y : Bool => some (impl_periodic_f1_s.out y)
  simp only [impl_periodic_f1, kb_ite, kb_some, kb_none, kb_bind, kb_alt]
  kernel_rfl
theorem impl_periodic_f1_is : FnIs Go.Proofs.Try.prog 88 (modeOf []) (phi [impl_periodic_f1_s]) := spec_is (c := impl_periodic_f1_c) seatOK impl_periodic_f1_t Go.Proofs.Try.func88 rfl (code := impl_periodic_f1_code) rfl rfl impl_periodic_f1_rs impl_periodic_f1_e
noncomputable def impl_areAll_impl_Angle_f1_v3_s : Spec := ⟨[.v (.pair (.int .i64) (.pair (.int .i64) (.unit))) .fr, .pfn 88 [] [.v (.ptr (.int .i64)) .fr]], Bool, fun v => impl_areAll_impl_Angle_f1_v3 v.1 v.2.1.2.1, fun r => ([.v (.bool) .fr r], [])⟩
noncomputable def impl_areAll_impl_Angle_f1_v3_ls : List LSum := []
noncomputable def impl_areAll_impl_Angle_f1_v3_tab : List Row := [⟨88, [], [impl_periodic_f1_s]⟩]
theorem impl_areAll_impl_Angle_f1_v3_t : ∀ r, r ∈ impl_areAll_impl_Angle_f1_v3_tab → RowIs Go.Proofs.Try.prog r := tab_cons (impl_periodic_f1_is) (tab_nil)
theorem impl_areAll_impl_Angle_f1_v3_rs : RoundsOK (mkCtx Go.K.Link.seat impl_areAll_impl_Angle_f1_v3_c impl_areAll_impl_Angle_f1_v3_tab) (sums impl_areAll_impl_Angle_f1_v3_ls) (loopsOf 0 impl_areAll_impl_Angle_f1_v3_code) impl_areAll_impl_Angle_f1_v3_ls := trivial
theorem impl_areAll_impl_Angle_f1_v3_e : ∀ v, (evFn (mkCtx Go.K.Link.seat impl_areAll_impl_Angle_f1_v3_c impl_areAll_impl_Angle_f1_v3_tab) (sums impl_areAll_impl_Angle_f1_v3_ls) 92 Go.Proofs.Try.f92 (encL impl_areAll_impl_Angle_f1_v3_s.a v)).run = (impl_areAll_impl_Angle_f1_v3_s.gen v).bind fun y => some (impl_areAll_impl_Angle_f1_v3_s.out y) := by
  rintro ⟨x, ⟨⟨_, ⟨t1_0, _⟩⟩, _⟩⟩
  show _ = (impl_areAll_impl_Angle_f1_v3 x t1_0).bind fun y : Bool => some (impl_areAll_impl_Angle_f1_v3_s.out y)
  simp only [impl_areAll_impl_Angle_f1_v3, kb_ite, kb_some, kb_none, kb_bind, kb_alt]
  kernel_rfl
theorem impl_areAll_impl_Angle_f1_v3_is : FnIs Go.Proofs.Try.prog 92 (modeOf []) (phi [impl_areAll_impl_Angle_f1_v3_s]) := spec_is (c := impl_areAll_impl_Angle_f1_v3_c) seatOK impl_areAll_impl_Angle_f1_v3_t Go.Proofs.Try.func92 rfl (code := impl_areAll_impl_Angle_f1_v3_code) rfl rfl impl_areAll_impl_Angle_f1_v3_rs impl_areAll_impl_Angle_f1_v3_e
noncomputable def slices_IndexFunc__impl_Angle_impl_Angle_v3_l0_s : LSum := ⟨0, ⟨[(0, .val (.sl 32 (.pair (.int .i64) (.pair (.int .i64) (.unit)))) .fr), (0, .fnl 92 [] [.arg (.pfn 88 [] [.v (.ptr (.int .i64)) .fr])]), (5, .val (.int .i64) .fr), (0, .val (.int .i64) .fr)], 10⟩, (.ret, ⟨[(4, .val (.int .i64) .fr)], 14⟩), [(.exit 0, ⟨[], 19⟩)], slices_IndexFunc__impl_Angle_impl_Angle_v3_l0⟩
noncomputable def slices_IndexFunc__impl_Angle_impl_Angle_v3_s : Spec := ⟨[.v (.sl 32 (.pair (.int .i64) (.pair (.int .i64) (.unit)))) .fr, .fn 92 [] [.pfn 88 [] [.v (.ptr (.int .i64)) .fr]]], Int, fun v => slices_IndexFunc__impl_Angle_impl_Angle_v3 v.1 v.2.1.2.1.2.1, fun r => ([.v (.int .i64) .fr r], [])⟩
noncomputable def slices_IndexFunc__impl_Angle_impl_Angle_v3_ls : List LSum := [slices_IndexFunc__impl_Angle_impl_Angle_v3_l0_s]
noncomputable def slices_IndexFunc__impl_Angle_impl_Angle_v3_tab : List Row := [⟨92, [], [impl_areAll_impl_Angle_f1_v3_s]⟩]
theorem slices_IndexFunc__impl_Angle_impl_Angle_v3_t : ∀ r, r ∈ slices_IndexFunc__impl_Angle_impl_Angle_v3_tab → RowIs Go.Proofs.Try.prog r := tab_cons (impl_areAll_impl_Angle_f1_v3_is) (tab_nil)
theorem slices_IndexFunc__impl_Angle_impl_Angle_v3_l0_r : RoundIs (mkCtx Go.K.Link.seat slices_IndexFunc__impl_Angle_impl_Angle_v3_c slices_IndexFunc__impl_Angle_impl_Angle_v3_tab) (sums slices_IndexFunc__impl_Angle_impl_Angle_v3_ls) 0 (bodyAt (loopsOf 0 slices_IndexFunc__impl_Angle_impl_Angle_v3_code) 0) slices_IndexFunc__impl_Angle_impl_Angle_v3_l0_s := by
  rintro ⟨s, ⟨_, ⟨⟨_, ⟨f, _⟩⟩, _⟩, ⟨t7, ⟨t8, _⟩⟩⟩⟩
  show _ = (slices_IndexFunc__impl_Angle_impl_Angle_v3_l0 (s, ((), (((), (f, ())), ()), (t7, (t8, ()))))).bind fun r : (Ctl ((List (Int × (Int × Unit))) × Unit × ((Unit × (Int × Unit)) × Unit) × Int × Int × Unit) ((Int × Unit) ⊕ (Unit))) => some (ctlVal slices_IndexFunc__impl_Angle_impl_Angle_v3_l0_s r)
  simp only [slices_IndexFunc__impl_Angle_impl_Angle_v3_l0, kb_ite, kb_some, kb_none, kb_bind, kb_alt]
  kernel_rfl
theorem slices_IndexFunc__impl_Angle_impl_Angle_v3_rs : RoundsOK (mkCtx Go.K.Link.seat slices_IndexFunc__impl_Angle_impl_Angle_v3_c slices_IndexFunc__impl_Angle_impl_Angle_v3_tab) (sums slices_IndexFunc__impl_Angle_impl_Angle_v3_ls) (loopsOf 0 slices_IndexFunc__impl_Angle_impl_Angle_v3_code) slices_IndexFunc__impl_Angle_impl_Angle_v3_ls := ⟨⟨rfl, rfl, slices_IndexFunc__impl_Angle_impl_Angle_v3_l0_r⟩, trivial⟩
theorem slices_IndexFunc__impl_Angle_impl_Angle_v3_e : ∀ v, (evFn (mkCtx Go.K.Link.seat slices_IndexFunc__impl_Angle_impl_Angle_v3_c slices_IndexFunc__impl_Angle_impl_Angle_v3_tab) (sums slices_IndexFunc__impl_Angle_impl_Angle_v3_ls) 101 Go.Proofs.Try.f101 (encL slices_IndexFunc__impl_Angle_impl_Angle_v3_s.a v)).run = (slices_IndexFunc__impl_Angle_impl_Angle_v3_s.gen v).bind fun y => some (slices_IndexFunc__impl_Angle_impl_Angle_v3_s.out y) := by
  rintro ⟨s, ⟨⟨_, ⟨⟨_, ⟨f_0_1, _⟩⟩, _⟩⟩, _⟩⟩
  show _ = (slices_IndexFunc__impl_Angle_impl_Angle_v3 s f_0_1).bind fun y : Int => some (slices_IndexFunc__impl_Angle_impl_Angle_v3_s.out y)
  simp only [slices_IndexFunc__impl_Angle_impl_Angle_v3, kb_ite, kb_some, kb_none, kb_bind, kb_alt]
  kernel_rfl
theorem slices_IndexFunc__impl_Angle_impl_Angle_v3_is : FnIs Go.Proofs.Try.prog 101 (modeOf []) (phi [slices_IndexFunc__impl_Angle_impl_Angle_v3_s]) := spec_is (c := slices_IndexFunc__impl_Angle_impl_Angle_v3_c) seatOK slices_IndexFunc__impl_Angle_impl_Angle_v3_t Go.Proofs.Try.func101 rfl (code := slices_IndexFunc__impl_Angle_impl_Angle_v3_code) rfl rfl slices_IndexFunc__impl_Angle_impl_Angle_v3_rs slices_IndexFunc__impl_Angle_impl_Angle_v3_e
noncomputable def slices_ContainsFunc__impl_Angle_impl_Angle_v3_s : Spec := ⟨[.v (.sl 32 (.pair (.int .i64) (.pair (.int .i64) (.unit)))) .fr, .fn 92 [] [.pfn 88 [] [.v (.ptr (.int .i64)) .fr]]], Bool, fun v => slices_ContainsFunc__impl_Angle_impl_Angle_v3 v.1 v.2.1.2.1.2.1, fun r => ([.v (.bool) .fr r], [])⟩
noncomputable def slices_ContainsFunc__impl_Angle_impl_Angle_v3_ls : List LSum := []
noncomputable def slices_ContainsFunc__impl_Angle_impl_Angle_v3_tab : List Row := [⟨101, [], [slices_IndexFunc__impl_Angle_impl_Angle_v3_s]⟩]
theorem slices_ContainsFunc__impl_Angle_impl_Angle_v3_t : ∀ r, r ∈ slices_ContainsFunc__impl_Angle_impl_Angle_v3_tab → RowIs Go.Proofs.Try.prog r := tab_cons (slices_IndexFunc__impl_Angle_impl_Angle_v3_is) (tab_nil)
theorem slices_ContainsFunc__impl_Angle_impl_Angle_v3_rs : RoundsOK (mkCtx Go.K.Link.seat slices_ContainsFunc__impl_Angle_impl_Angle_v3_c slices_ContainsFunc__impl_Angle_impl_Angle_v3_tab) (sums slices_ContainsFunc__impl_Angle_impl_Angle_v3_ls) (loopsOf 0 slices_ContainsFunc__impl_Angle_impl_Angle_v3_code) slices_ContainsFunc__impl_Angle_impl_Angle_v3_ls := trivial
theorem slices_ContainsFunc__impl_Angle_impl_Angle_v3_e : ∀ v, (evFn (mkCtx Go.K.Link.seat slices_ContainsFunc__impl_Angle_impl_Angle_v3_c slices_ContainsFunc__impl_Angle_impl_Angle_v3_tab) (sums slices_ContainsFunc__impl_Angle_impl_Angle_v3_ls) 91 Go.Proofs.Try.f91 (encL slices_ContainsFunc__impl_Angle_impl_Angle_v3_s.a v)).run = (slices_ContainsFunc__impl_Angle_impl_Angle_v3_s.gen v).bind fun y => some (slices_ContainsFunc__impl_Angle_impl_Angle_v3_s.out y) := by
  rintro ⟨s, ⟨⟨_, ⟨⟨_, ⟨f_0_1, _⟩⟩, _⟩⟩, _⟩⟩
  show _ = (slices_ContainsFunc__impl_Angle_impl_Angle_v3 s f_0_1).bind fun y : Bool => some (slices_ContainsFunc__impl_Angle_impl_Angle_v3_s.out y)
  simp only [slices_ContainsFunc__impl_Angle_impl_Angle_v3, kb_ite, kb_some, kb_none, kb_bind, kb_alt]
  kernel_rfl
theorem slices_ContainsFunc__impl_Angle_impl_Angle_v3_is : FnIs Go.Proofs.Try.prog 91 (modeOf []) (phi [slices_ContainsFunc__impl_Angle_impl_Angle_v3_s]) := spec_is (c := slices_ContainsFunc__impl_Angle_impl_Angle_v3_c) seatOK slices_ContainsFunc__impl_Angle_impl_Angle_v3_t Go.Proofs.Try.func91 rfl (code := slices_ContainsFunc__impl_Angle_impl_Angle_v3_code) rfl rfl slices_ContainsFunc__impl_Angle_impl_Angle_v3_rs slices_ContainsFunc__impl_Angle_impl_Angle_v3_e
noncomputable def impl_areAll_impl_Angle_v3_s : Spec := ⟨[.v (.sl 32 (.pair (.int .i64) (.pair (.int .i64) (.unit)))) .fr, .fn 88 [] [.v (.ptr (.int .i64)) .fr]], Bool, fun v => impl_areAll_impl_Angle_v3 v.1 v.2.1.2.1, fun r => ([.v (.bool) .fr r], [])⟩
noncomputable def impl_areAll_impl_Angle_v3_ls : List LSum := []
noncomputable def impl_areAll_impl_Angle_v3_tab : List Row := [⟨91, [], [slices_ContainsFunc__impl_Angle_impl_Angle_v3_s]⟩]
theorem impl_areAll_impl_Angle_v3_t : ∀ r, r ∈ impl_areAll_impl_Angle_v3_tab → RowIs Go.Proofs.Try.prog r := tab_cons (slices_ContainsFunc__impl_Angle_impl_Angle_v3_is) (tab_nil)
theorem impl_areAll_impl_Angle_v3_rs : RoundsOK (mkCtx Go.K.Link.seat impl_areAll_impl_Angle_v3_c impl_areAll_impl_Angle_v3_tab) (sums impl_areAll_impl_Angle_v3_ls) (loopsOf 0 impl_areAll_impl_Angle_v3_code) impl_areAll_impl_Angle_v3_ls := trivial
theorem impl_areAll_impl_Angle_v3_e : ∀ v, (evFn (mkCtx Go.K.Link.seat impl_areAll_impl_Angle_v3_c impl_areAll_impl_Angle_v3_tab) (sums impl_areAll_impl_Angle_v3_ls) 67 Go.Proofs.Try.f67 (encL impl_areAll_impl_Angle_v3_s.a v)).run = (impl_areAll_impl_Angle_v3_s.gen v).bind fun y => some (impl_areAll_impl_Angle_v3_s.out y) := by
  rintro ⟨list, ⟨⟨_, ⟨is'_0, _⟩⟩, _⟩⟩
  show _ = (impl_areAll_impl_Angle_v3 list is'_0).bind fun y : Bool => some (impl_areAll_impl_Angle_v3_s.out y)
  simp only [impl_areAll_impl_Angle_v3, kb_ite, kb_some, kb_none, kb_bind, kb_alt]
  kernel_rfl
theorem impl_areAll_impl_Angle_v3_is : FnIs Go.Proofs.Try.prog 67 (modeOf []) (phi [impl_areAll_impl_Angle_v3_s]) := spec_is (c := impl_areAll_impl_Angle_v3_c) seatOK impl_areAll_impl_Angle_v3_t Go.Proofs.Try.func67 rfl (code := impl_areAll_impl_Angle_v3_code) rfl rfl impl_areAll_impl_Angle_v3_rs impl_areAll_impl_Angle_v3_e
noncomputable def impl_periodic_s : Spec := ⟨[.v (.sl 32 (.pair (.int .i64) (.pair (.int .i64) (.unit)))) .fr], Bool, fun v => impl_periodic v.1, fun r => ([.v (.bool) .fr r], [])⟩
noncomputable def impl_periodic_ls : List LSum := []
noncomputable def impl_periodic_tab : List Row := [⟨67, [], [impl_areAll_impl_Angle_v3_s]⟩, ⟨87, [], [impl_preperiods_s]⟩]
theorem impl_periodic_t : ∀ r, r ∈ impl_periodic_tab → RowIs Go.Proofs.Try.prog r := tab_cons (impl_areAll_impl_Angle_v3_is) (tab_cons (impl_preperiods_is) (tab_nil))
theorem impl_periodic_rs : RoundsOK (mkCtx Go.K.Link.seat impl_periodic_c impl_periodic_tab) (sums impl_periodic_ls) (loopsOf 0 impl_periodic_code) impl_periodic_ls := trivial
theorem impl_periodic_e : ∀ v, (evFn (mkCtx Go.K.Link.seat impl_periodic_c impl_periodic_tab) (sums impl_periodic_ls) 57 Go.Proofs.Try.f57 (encL impl_periodic_s.a v)).run = (impl_periodic_s.gen v).bind fun y => some (impl_periodic_s.out y) := by
  rintro ⟨list, _⟩
  show _ = (impl_periodic list).bind fun y : Bool => some (impl_periodic_s.out y)
  simp only [impl_periodic, kb_ite, kb_some, kb_none, kb_bind, kb_alt]
  kernel_rfl
theorem impl_periodic_is : FnIs Go.Proofs.Try.prog 57 (modeOf []) (phi [impl_periodic_s]) := spec_is (c := impl_periodic_c) seatOK impl_periodic_t Go.Proofs.Try.func57 rfl (code := impl_periodic_code) rfl rfl impl_periodic_rs impl_periodic_e
noncomputable def impl_areUnlinked_code : Code := (Go.Proofs.Try.f79.body).getD .skip
def impl_areUnlinked_c : Cfg := ⟨79, [], [[0, 1, 11, 12, 13], [], [4]], [], []⟩
noncomputable def impl_areAll_impl_Angle_v4_code : Code := (Go.Proofs.Try.f67.body).getD .skip
def impl_areAll_impl_Angle_v4_c : Cfg := ⟨67, [], [], [], []⟩
noncomputable def slices_ContainsFunc__impl_Angle_impl_Angle_v4_code : Code := (Go.Proofs.Try.f91.body).getD .skip
def slices_ContainsFunc__impl_Angle_impl_Angle_v4_c : Cfg := ⟨91, [], [], [], []⟩
noncomputable def slices_IndexFunc__impl_Angle_impl_Angle_v4_code : Code := (Go.Proofs.Try.f101.body).getD .skip
def slices_IndexFunc__impl_Angle_impl_Angle_v4_c : Cfg := ⟨101, [], [[0, 1, 7, 8], [], [4]], [], []⟩
noncomputable def impl_areAll_impl_Angle_f1_v4_code : Code := (Go.Proofs.Try.f92.body).getD .skip
def impl_areAll_impl_Angle_f1_v4_c : Cfg := ⟨92, [], [], [], []⟩
noncomputable def impl_areUnlinked_f1_code : Code := (Go.Proofs.Try.f98.body).getD .skip
def impl_areUnlinked_f1_c : Cfg := ⟨98, [], [], [], []⟩
noncomputable def impl_order_code : Code := (Go.Proofs.Try.f99.body).getD .skip
def impl_order_c : Cfg := ⟨99, [], [], [], []⟩
noncomputable def impl_Angle_minus_code : Code := (Go.Proofs.Try.f51.body).getD .skip
def impl_Angle_minus_c : Cfg := ⟨51, [], [], [], []⟩
noncomputable def impl_Angle_minus_s : Spec := ⟨[.v (.pair (.int .i64) (.pair (.int .i64) (.unit))) .fr, .v (.pair (.int .i64) (.pair (.int .i64) (.unit))) .fr], (Int × (Int × Unit)), fun v => impl_Angle_minus v.1 v.2.1, fun r => ([.v (.pair (.int .i64) (.pair (.int .i64) (.unit))) .fr r], [])⟩
noncomputable def impl_Angle_minus_ls : List LSum := []
noncomputable def impl_Angle_minus_tab : List Row := [⟨47, [], [impl_angle_s]⟩]
theorem impl_Angle_minus_t : ∀ r, r ∈ impl_Angle_minus_tab → RowIs Go.Proofs.Try.prog r := tab_cons (impl_angle_is) (tab_nil)
theorem impl_Angle_minus_rs : RoundsOK (mkCtx Go.K.Link.seat impl_Angle_minus_c impl_Angle_minus_tab) (sums impl_Angle_minus_ls) (loopsOf 0 impl_Angle_minus_code) impl_Angle_minus_ls := trivial
theorem impl_Angle_minus_e : ∀ v, (evFn (mkCtx Go.K.Link.seat impl_Angle_minus_c impl_Angle_minus_tab) (sums impl_Angle_minus_ls) 51 Go.Proofs.Try.f51 (encL impl_Angle_minus_s.a v)).run = (impl_Angle_minus_s.gen v).bind fun y => some (impl_Angle_minus_s.out y) := by
  rintro ⟨a, ⟨b, _⟩⟩
  show _ = (impl_Angle_minus a b).bind fun y : (Int × (Int × Unit)) => some (impl_Angle_minus_s.out y)
  simp only [impl_Angle_minus, kb_ite, kb_some, kb_none, kb_bind, kb_alt]
  kernel_rfl
theorem impl_Angle_minus_is : FnIs Go.Proofs.Try.prog 51 (modeOf []) (phi [impl_Angle_minus_s]) := spec_is (c := impl_Angle_minus_c) seatOK impl_Angle_minus_t Go.Proofs.Try.func51 rfl (code := impl_Angle_minus_code) rfl rfl impl_Angle_minus_rs impl_Angle_minus_e
noncomputable def impl_order_s : Spec := ⟨[.v (.pair (.int .i64) (.pair (.int .i64) (.unit))) .fr, .v (.pair (.int .i64) (.pair (.int .i64) (.unit))) .fr, .v (.pair (.int .i64) (.pair (.int .i64) (.unit))) .fr], Int, fun v => impl_order v.1 v.2.1 v.2.2.1, fun r => ([.v (.int .i64) .fr r], [])⟩
noncomputable def impl_order_ls : List LSum := []
noncomputable def impl_order_tab : List Row := [⟨51, [], [impl_Angle_minus_s]⟩, ⟨52, [], [impl_Angle_compare_s]⟩]
theorem impl_order_t : ∀ r, r ∈ impl_order_tab → RowIs Go.Proofs.Try.prog r := tab_cons (impl_Angle_minus_is) (tab_cons (impl_Angle_compare_is) (tab_nil))
theorem impl_order_rs : RoundsOK (mkCtx Go.K.Link.seat impl_order_c impl_order_tab) (sums impl_order_ls) (loopsOf 0 impl_order_code) impl_order_ls := trivial
theorem impl_order_e : ∀ v, (evFn (mkCtx Go.K.Link.seat impl_order_c impl_order_tab) (sums impl_order_ls) 99 Go.Proofs.Try.f99 (encL impl_order_s.a v)).run = (impl_order_s.gen v).bind fun y => some (impl_order_s.out y) := by
  rintro ⟨a, ⟨b, ⟨c, _⟩⟩⟩
  show _ = (impl_order a b c).bind fun y : Int => some (impl_order_s.out y)
  simp only [impl_order, kb_ite, kb_some, kb_none, kb_bind, kb_alt]
  kernel_rfl
theorem impl_order_is : FnIs Go.Proofs.Try.prog 99 (modeOf []) (phi [impl_order_s]) := spec_is (c := impl_order_c) seatOK impl_order_t Go.Proofs.Try.func99 rfl (code := impl_order_code) rfl rfl impl_order_rs impl_order_e
noncomputable def impl_areUnlinked_f1_s : Spec := ⟨[.v (.pair (.int .i64) (.pair (.int .i64) (.unit))) .fr, .v (.ptr (.pair (.int .i64) (.pair (.int .i64) (.unit)))) .fr, .v (.ptr (.pair (.int .i64) (.pair (.int .i64) (.unit)))) .fr], Bool, fun v => impl_areUnlinked_f1 v.1 v.2.1 v.2.2.1, fun r => ([.v (.bool) .fr r], [])⟩
noncomputable def impl_areUnlinked_f1_ls : List LSum := []
noncomputable def impl_areUnlinked_f1_tab : List Row := [⟨99, [], [impl_order_s]⟩]
theorem impl_areUnlinked_f1_t : ∀ r, r ∈ impl_areUnlinked_f1_tab → RowIs Go.Proofs.Try.prog r := tab_cons (impl_order_is) (tab_nil)
theorem impl_areUnlinked_f1_rs : RoundsOK (mkCtx Go.K.Link.seat impl_areUnlinked_f1_c impl_areUnlinked_f1_tab) (sums impl_areUnlinked_f1_ls) (loopsOf 0 impl_areUnlinked_f1_code) impl_areUnlinked_f1_ls := trivial
theorem impl_areUnlinked_f1_e : ∀ v, (evFn (mkCtx Go.K.Link.seat impl_areUnlinked_f1_c impl_areUnlinked_f1_tab) (sums impl_areUnlinked_f1_ls) 98 Go.Proofs.Try.f98 (encL impl_areUnlinked_f1_s.a v)).run = (impl_areUnlinked_f1_s.gen v).bind fun y => some (impl_areUnlinked_f1_s.out y) := by
  rintro ⟨x, ⟨t1, ⟨t2, _⟩⟩⟩
  show _ = (impl_areUnlinked_f1 x t1 t2).bind fun y : Bool => some (impl_areUnlinked_f1_s.out y)
  simp only [impl_areUnlinked_f1, kb_ite, kb_some, kb_none, kb_bind, kb_alt]
  kernel_rfl
theorem impl_areUnlinked_f1_is : FnIs Go.Proofs.Try.prog 98 (modeOf []) (phi [impl_areUnlinked_f1_s]) := spec_is (c := impl_areUnlinked_f1_c) seatOK impl_areUnlinked_f1_t Go.Proofs.Try.func98 rfl (code := impl_areUnlinked_f1_code) rfl rfl impl_areUnlinked_f1_rs impl_areUnlinked_f1_e
noncomputable def impl_areAll_impl_Angle_f1_v4_s : Spec := ⟨[.v (.pair (.int .i64) (.pair (.int .i64) (.unit))) .fr, .pfn 98 [] [.v (.ptr (.pair (.int .i64) (.pair (.int .i64) (.unit)))) .fr, .v (.ptr (.pair (.int .i64) (.pair (.int .i64) (.unit)))) .fr]], Bool, fun v => impl_areAll_impl_Angle_f1_v4 v.1 v.2.1.2.1 v.2.1.2.2.1, fun r => ([.v (.bool) .fr r], [])⟩
noncomputable def impl_areAll_impl_Angle_f1_v4_ls : List LSum := []
noncomputable def impl_areAll_impl_Angle_f1_v4_tab : List Row := [⟨98, [], [impl_areUnlinked_f1_s]⟩]
theorem impl_areAll_impl_Angle_f1_v4_t : ∀ r, r ∈ impl_areAll_impl_Angle_f1_v4_tab → RowIs Go.Proofs.Try.prog r := tab_cons (impl_areUnlinked_f1_is) (tab_nil)
theorem impl_areAll_impl_Angle_f1_v4_rs : RoundsOK (mkCtx Go.K.Link.seat impl_areAll_impl_Angle_f1_v4_c impl_areAll_impl_Angle_f1_v4_tab) (sums impl_areAll_impl_Angle_f1_v4_ls) (loopsOf 0 impl_areAll_impl_Angle_f1_v4_code) impl_areAll_impl_Angle_f1_v4_ls := trivial
theorem impl_areAll_impl_Angle_f1_v4_e : ∀ v, (evFn (mkCtx Go.K.Link.seat impl_areAll_impl_Angle_f1_v4_c impl_areAll_impl_Angle_f1_v4_tab) (sums impl_areAll_impl_Angle_f1_v4_ls) 92 Go.Proofs.Try.f92 (encL impl_areAll_impl_Angle_f1_v4_s.a v)).run = (impl_areAll_impl_Angle_f1_v4_s.gen v).bind fun y => some (impl_areAll_impl_Angle_f1_v4_s.out y) := by
  rintro ⟨x, ⟨⟨_, ⟨t1_0, ⟨t1_1, _⟩⟩⟩, _⟩⟩
  show _ = (impl_areAll_impl_Angle_f1_v4 x t1_0 t1_1).bind fun y : Bool => some (impl_areAll_impl_Angle_f1_v4_s.out y)
  simp only [impl_areAll_impl_Angle_f1_v4, kb_ite, kb_some, kb_none, kb_bind, kb_alt]
  kernel_rfl
theorem impl_areAll_impl_Angle_f1_v4_is : FnIs Go.Proofs.Try.prog 92 (modeOf []) (phi [impl_areAll_impl_Angle_f1_v4_s]) := spec_is (c := impl_areAll_impl_Angle_f1_v4_c) seatOK impl_areAll_impl_Angle_f1_v4_t Go.Proofs.Try.func92 rfl (code := impl_areAll_impl_Angle_f1_v4_code) rfl rfl impl_areAll_impl_Angle_f1_v4_rs impl_areAll_impl_Angle_f1_v4_e
noncomputable def slices_IndexFunc__impl_Angle_impl_Angle_v4_l0_s : LSum := ⟨0, ⟨[(0, .val (.sl 32 (.pair (.int .i64) (.pair (.int .i64) (.unit)))) .fr), (0, .fnl 92 [] [.arg (.pfn 98 [] [.v (.ptr (.pair (.int .i64) (.pair (.int .i64) (.unit)))) .fr, .v (.ptr (.pair (.int .i64) (.pair (.int .i64) (.unit)))) .fr])]), (5, .val (.int .i64) .fr), (0, .val (.int .i64) .fr)], 10⟩, (.ret, ⟨[(4, .val (.int .i64) .fr)], 14⟩), [(.exit 0, ⟨[], 19⟩)], slices_IndexFunc__impl_Angle_impl_Angle_v4_l0⟩
noncomputable def slices_IndexFunc__impl_Angle_impl_Angle_v4_s : Spec := ⟨[.v (.sl 32 (.pair (.int .i64) (.pair (.int .i64) (.unit)))) .fr, .fn 92 [] [.pfn 98 [] [.v (.ptr (.pair (.int .i64) (.pair (.int .i64) (.unit)))) .fr, .v (.ptr (.pair (.int .i64) (.pair (.int .i64) (.unit)))) .fr]]], Int, fun v => slices_IndexFunc__impl_Angle_impl_Angle_v4 v.1 v.2.1.2.1.2.1 v.2.1.2.1.2.2.1, fun r => ([.v (.int .i64) .fr r], [])⟩
noncomputable def slices_IndexFunc__impl_Angle_impl_Angle_v4_ls : List LSum := [slices_IndexFunc__impl_Angle_impl_Angle_v4_l0_s]
noncomputable def slices_IndexFunc__impl_Angle_impl_Angle_v4_tab : List Row := [⟨92, [], [impl_areAll_impl_Angle_f1_v4_s]⟩]
theorem slices_IndexFunc__impl_Angle_impl_Angle_v4_t : ∀ r, r ∈ slices_IndexFunc__impl_Angle_impl_Angle_v4_tab → RowIs Go.Proofs.Try.prog r := tab_cons (impl_areAll_impl_Angle_f1_v4_is) (tab_nil)
theorem slices_IndexFunc__impl_Angle_impl_Angle_v4_l0_r : RoundIs (mkCtx Go.K.Link.seat slices_IndexFunc__impl_Angle_impl_Angle_v4_c slices_IndexFunc__impl_Angle_impl_Angle_v4_tab) (sums slices_IndexFunc__impl_Angle_impl_Angle_v4_ls) 0 (bodyAt (loopsOf 0 slices_IndexFunc__impl_Angle_impl_Angle_v4_code) 0) slices_IndexFunc__impl_Angle_impl_Angle_v4_l0_s := by
  rintro ⟨s, ⟨_, ⟨⟨_, ⟨f_0, ⟨f_1, _⟩⟩⟩, _⟩, ⟨t7, ⟨t8, _⟩⟩⟩⟩
  show _ = (slices_IndexFunc__impl_Angle_impl_Angle_v4_l0 (s, ((), (((), (f_0, (f_1, ()))), ()), (t7, (t8, ()))))).bind fun r : (Ctl ((List (Int × (Int × Unit))) × Unit × ((Unit × ((Int × (Int × Unit)) × ((Int × (Int × Unit)) × Unit))) × Unit) × Int × Int × Unit) ((Int × Unit) ⊕ (Unit))) => some (ctlVal slices_IndexFunc__impl_Angle_impl_Angle_v4_l0_s r)
  simp only [slices_IndexFunc__impl_Angle_impl_Angle_v4_l0, kb_ite, kb_some, kb_none, kb_bind, kb_alt]
  kernel_rfl
theorem slices_IndexFunc__impl_Angle_impl_Angle_v4_rs : RoundsOK (mkCtx Go.K.Link.seat slices_IndexFunc__impl_Angle_impl_Angle_v4_c slices_IndexFunc__impl_Angle_impl_Angle_v4_tab) (sums slices_IndexFunc__impl_Angle_impl_Angle_v4_ls) (loopsOf 0 slices_IndexFunc__impl_Angle_impl_Angle_v4_code) slices_IndexFunc__impl_Angle_impl_Angle_v4_ls := ⟨⟨rfl, rfl, slices_IndexFunc__impl_Angle_impl_Angle_v4_l0_r⟩, trivial⟩
theorem slices_IndexFunc__impl_Angle_impl_Angle_v4_e : ∀ v, (evFn (mkCtx Go.K.Link.seat slices_IndexFunc__impl_Angle_impl_Angle_v4_c slices_IndexFunc__impl_Angle_impl_Angle_v4_tab) (sums slices_IndexFunc__impl_Angle_impl_Angle_v4_ls) 101 Go.Proofs.Try.f101 (encL slices_IndexFunc__impl_Angle_impl_Angle_v4_s.a v)).run = (slices_IndexFunc__impl_Angle_impl_Angle_v4_s.gen v).bind fun y => some (slices_IndexFunc__impl_Angle_impl_Angle_v4_s.out y) := by
  rintro ⟨s, ⟨⟨_, ⟨⟨_, ⟨f_0_1, ⟨f_0_2, _⟩⟩⟩, _⟩⟩, _⟩⟩
  show _ = (slices_IndexFunc__impl_Angle_impl_Angle_v4 s f_0_1 f_0_2).bind fun y : Int => some (slices_IndexFunc__impl_Angle_impl_Angle_v4_s.out y)
  simp only [slices_IndexFunc__impl_Angle_impl_Angle_v4, kb_ite, kb_some, kb_none, kb_bind, kb_alt]
  kernel_rfl
theorem slices_IndexFunc__impl_Angle_impl_Angle_v4_is : FnIs Go.Proofs.Try.prog 101 (modeOf []) (phi [slices_IndexFunc__impl_Angle_impl_Angle_v4_s]) := spec_is (c := slices_IndexFunc__impl_Angle_impl_Angle_v4_c) seatOK slices_IndexFunc__impl_Angle_impl_Angle_v4_t Go.Proofs.Try.func101 rfl (code := slices_IndexFunc__impl_Angle_impl_Angle_v4_code) rfl rfl slices_IndexFunc__impl_Angle_impl_Angle_v4_rs slices_IndexFunc__impl_Angle_impl_Angle_v4_e
noncomputable def slices_ContainsFunc__impl_Angle_impl_Angle_v4_s : Spec := ⟨[.v (.sl 32 (.pair (.int .i64) (.pair (.int .i64) (.unit)))) .fr, .fn 92 [] [.pfn 98 [] [.v (.ptr (.pair (.int .i64) (.pair (.int .i64) (.unit)))) .fr, .v (.ptr (.pair (.int .i64) (.pair (.int .i64) (.unit)))) .fr]]], Bool, fun v => slices_ContainsFunc__impl_Angle_impl_Angle_v4 v.1 v.2.1.2.1.2.1 v.2.1.2.1.2.2.1, fun r => ([.v (.bool) .fr r], [])⟩
noncomputable def slices_ContainsFunc__impl_Angle_impl_Angle_v4_ls : List LSum := []
noncomputable def slices_ContainsFunc__impl_Angle_impl_Angle_v4_tab : List Row := [⟨101, [], [slices_IndexFunc__impl_Angle_impl_Angle_v4_s]⟩]
theorem slices_ContainsFunc__impl_Angle_impl_Angle_v4_t : ∀ r, r ∈ slices_ContainsFunc__impl_Angle_impl_Angle_v4_tab → RowIs Go.Proofs.Try.prog r := tab_cons (slices_IndexFunc__impl_Angle_impl_Angle_v4_is) (tab_nil)
theorem slices_ContainsFunc__impl_Angle_impl_Angle_v4_rs : RoundsOK (mkCtx Go.K.Link.seat slices_ContainsFunc__impl_Angle_impl_Angle_v4_c slices_ContainsFunc__impl_Angle_impl_Angle_v4_tab) (sums slices_ContainsFunc__impl_Angle_impl_Angle_v4_ls) (loopsOf 0 slices_ContainsFunc__impl_Angle_impl_Angle_v4_code) slices_ContainsFunc__impl_Angle_impl_Angle_v4_ls := trivial
theorem slices_ContainsFunc__impl_Angle_impl_Angle_v4_e : ∀ v, (evFn (mkCtx Go.K.Link.seat slices_ContainsFunc__impl_Angle_impl_Angle_v4_c slices_ContainsFunc__impl_Angle_impl_Angle_v4_tab) (sums slices_ContainsFunc__impl_Angle_impl_Angle_v4_ls) 91 Go.Proofs.Try.f91 (encL slices_ContainsFunc__impl_Angle_impl_Angle_v4_s.a v)).run = (slices_ContainsFunc__impl_Angle_impl_Angle_v4_s.gen v).bind fun y => some (slices_ContainsFunc__impl_Angle_impl_Angle_v4_s.out y) := by
  rintro ⟨s, ⟨⟨_, ⟨⟨_, ⟨f_0_1, ⟨f_0_2, _⟩⟩⟩, _⟩⟩, _⟩⟩
  show _ = (slices_ContainsFunc__impl_Angle_impl_Angle_v4 s f_0_1 f_0_2).bind fun y : Bool => some (slices_ContainsFunc__impl_Angle_impl_Angle_v4_s.out y)
  simp only [slices_ContainsFunc__impl_Angle_impl_Angle_v4, kb_ite, kb_some, kb_none, kb_bind, kb_alt]
  kernel_rfl
theorem slices_ContainsFunc__impl_Angle_impl_Angle_v4_is : FnIs Go.Proofs.Try.prog 91 (modeOf []) (phi [slices_ContainsFunc__impl_Angle_impl_Angle_v4_s]) := spec_is (c := slices_ContainsFunc__impl_Angle_impl_Angle_v4_c) seatOK slices_ContainsFunc__impl_Angle_impl_Angle_v4_t Go.Proofs.Try.func91 rfl (code := slices_ContainsFunc__impl_Angle_impl_Angle_v4_code) rfl rfl slices_ContainsFunc__impl_Angle_impl_Angle_v4_rs slices_ContainsFunc__impl_Angle_impl_Angle_v4_e
noncomputable def impl_areAll_impl_Angle_v4_s : Spec := ⟨[.v (.sl 32 (.pair (.int .i64) (.pair (.int .i64) (.unit)))) .fr, .fn 98 [] [.v (.ptr (.pair (.int .i64) (.pair (.int .i64) (.unit)))) .fr, .v (.ptr (.pair (.int .i64) (.pair (.int .i64) (.unit)))) .fr]], Bool, fun v => impl_areAll_impl_Angle_v4 v.1 v.2.1.2.1 v.2.1.2.2.1, fun r => ([.v (.bool) .fr r], [])⟩
noncomputable def impl_areAll_impl_Angle_v4_ls : List LSum := []
noncomputable def impl_areAll_impl_Angle_v4_tab : List Row := [⟨91, [], [slices_ContainsFunc__impl_Angle_impl_Angle_v4_s]⟩]
theorem impl_areAll_impl_Angle_v4_t : ∀ r, r ∈ impl_areAll_impl_Angle_v4_tab → RowIs Go.Proofs.Try.prog r := tab_cons (slices_ContainsFunc__impl_Angle_impl_Angle_v4_is) (tab_nil)
theorem impl_areAll_impl_Angle_v4_rs : RoundsOK (mkCtx Go.K.Link.seat impl_areAll_impl_Angle_v4_c impl_areAll_impl_Angle_v4_tab) (sums impl_areAll_impl_Angle_v4_ls) (loopsOf 0 impl_areAll_impl_Angle_v4_code) impl_areAll_impl_Angle_v4_ls := trivial
theorem impl_areAll_impl_Angle_v4_e : ∀ v, (evFn (mkCtx Go.K.Link.seat impl_areAll_impl_Angle_v4_c impl_areAll_impl_Angle_v4_tab) (sums impl_areAll_impl_Angle_v4_ls) 67 Go.Proofs.Try.f67 (encL impl_areAll_impl_Angle_v4_s.a v)).run = (impl_areAll_impl_Angle_v4_s.gen v).bind fun y => some (impl_areAll_impl_Angle_v4_s.out y) := by
  rintro ⟨list, ⟨⟨_, ⟨is'_0, ⟨is'_1, _⟩⟩⟩, _⟩⟩
  show _ = (impl_areAll_impl_Angle_v4 list is'_0 is'_1).bind fun y : Bool => some (impl_areAll_impl_Angle_v4_s.out y)
  simp only [impl_areAll_impl_Angle_v4, kb_ite, kb_some, kb_none, kb_bind, kb_alt]
  kernel_rfl
theorem impl_areAll_impl_Angle_v4_is : FnIs Go.Proofs.Try.prog 67 (modeOf []) (phi [impl_areAll_impl_Angle_v4_s]) := spec_is (c := impl_areAll_impl_Angle_v4_c) seatOK impl_areAll_impl_Angle_v4_t Go.Proofs.Try.func67 rfl (code := impl_areAll_impl_Angle_v4_code) rfl rfl impl_areAll_impl_Angle_v4_rs impl_areAll_impl_Angle_v4_e
noncomputable def impl_areUnlinked_l0_s : LSum := ⟨0, ⟨[(0, .val (.sl 32 (.pair (.int .i64) (.pair (.int .i64) (.unit)))) .fr), (0, .val (.sl 32 (.pair (.int .i64) (.pair (.int .i64) (.unit)))) .fr), (9, .val (.sl 32 (.pair (.int .i64) (.pair (.int .i64) (.unit)))) .fr), (0, .val (.int .i64) .fr), (0, .val (.int .i64) .fr)], 12⟩, (.ret, ⟨[(4, .val (.bool) .fr)], 21⟩), [(.exit 0, ⟨[], 26⟩)], impl_areUnlinked_l0⟩
noncomputable def impl_areUnlinked_s : Spec := ⟨[.v (.sl 32 (.pair (.int .i64) (.pair (.int .i64) (.unit)))) .fr, .v (.sl 32 (.pair (.int .i64) (.pair (.int .i64) (.unit)))) .fr], Bool, fun v => impl_areUnlinked v.1 v.2.1, fun r => ([.v (.bool) .fr r], [])⟩
noncomputable def impl_areUnlinked_ls : List LSum := [impl_areUnlinked_l0_s]
noncomputable def impl_areUnlinked_tab : List Row := [⟨50, [], [impl_at_s]⟩, ⟨67, [], [impl_areAll_impl_Angle_v4_s]⟩]
theorem impl_areUnlinked_t : ∀ r, r ∈ impl_areUnlinked_tab → RowIs Go.Proofs.Try.prog r := tab_cons (impl_at_is) (tab_cons (impl_areAll_impl_Angle_v4_is) (tab_nil))
theorem impl_areUnlinked_l0_r : RoundIs (mkCtx Go.K.Link.seat impl_areUnlinked_c impl_areUnlinked_tab) (sums impl_areUnlinked_ls) 0 (bodyAt (loopsOf 0 impl_areUnlinked_code) 0) impl_areUnlinked_l0_s := by
  rintro ⟨set, ⟨other, ⟨t11, ⟨t12, ⟨t13, _⟩⟩⟩⟩⟩
  show _ = (impl_areUnlinked_l0 (set, (other, (t11, (t12, (t13, ())))))).bind fun r : (Ctl ((List (Int × (Int × Unit))) × (List (Int × (Int × Unit))) × (List (Int × (Int × Unit))) × Int × Int × Unit) ((Bool × Unit) ⊕ (Unit))) => some (ctlVal impl_areUnlinked_l0_s r)
  simp only [impl_areUnlinked_l0, kb_ite, kb_some, kb_none, kb_bind, kb_alt]
  kernel_rfl
theorem impl_areUnlinked_rs : RoundsOK (mkCtx Go.K.Link.seat impl_areUnlinked_c impl_areUnlinked_tab) (sums impl_areUnlinked_ls) (loopsOf 0 impl_areUnlinked_code) impl_areUnlinked_ls := ⟨⟨rfl, rfl, impl_areUnlinked_l0_r⟩, trivial⟩
theorem impl_areUnlinked_e : ∀ v, (evFn (mkCtx Go.K.Link.seat impl_areUnlinked_c impl_areUnlinked_tab) (sums impl_areUnlinked_ls) 79 Go.Proofs.Try.f79 (encL impl_areUnlinked_s.a v)).run = (impl_areUnlinked_s.gen v).bind fun y => some (impl_areUnlinked_s.out y) := by
  rintro ⟨set, ⟨other, _⟩⟩
  show _ = (impl_areUnlinked set other).bind fun y : Bool => some (impl_areUnlinked_s.out y)
  simp only [impl_areUnlinked, kb_ite, kb_some, kb_none, kb_bind, kb_alt]
  kernel_rfl
theorem impl_areUnlinked_is : FnIs Go.Proofs.Try.prog 79 (modeOf []) (phi [impl_areUnlinked_s]) := spec_is (c := impl_areUnlinked_c) seatOK impl_areUnlinked_t Go.Proofs.Try.func79 rfl (code := impl_areUnlinked_code) rfl rfl impl_areUnlinked_rs impl_areUnlinked_e
noncomputable def impl_fails_l3_s : LSum := ⟨6, ⟨[(0, .val (.sl 36 (.sl 32 (.pair (.int .i64) (.pair (.int .i64) (.unit))))) .fr), (8, .val (.int .i64) .fr), (0, .val (.sl 32 (.pair (.int .i64) (.pair (.int .i64) (.unit)))) .fr), (51, .val (.sl 36 (.sl 32 (.pair (.int .i64) (.pair (.int .i64) (.unit))))) .fr), (0, .val (.int .i64) .fr), (0, .val (.int .i64) .fr), (2, .val (.ptr (.sl 32 (.pair (.int .i64) (.pair (.int .i64) (.unit))))) .fr), (0, .val (.sl 32 (.pair (.int .i64) (.pair (.int .i64) (.unit)))) .fr), (0, .val (.sl 36 (.sl 32 (.pair (.int .i64) (.pair (.int .i64) (.unit))))) .fr), (0, .val (.int .i64) .fr), (0, .val (.int .i64) .fr)], 15⟩, (.ret, ⟨[(2, .val (.int .i64) .fr)], 84⟩), [(.exit 6, ⟨[(0, .val (.sl 36 (.sl 32 (.pair (.int .i64) (.pair (.int .i64) (.unit))))) .fr), (61, .val (.sl 36 (.sl 32 (.pair (.int .i64) (.pair (.int .i64) (.unit))))) .fr), (0, .val (.int .i64) .fr), (0, .val (.int .i64) .fr)], 22⟩)], impl_fails_l3⟩
noncomputable def impl_fails_l2_s : LSum := ⟨4, ⟨[(0, .val (.sl 36 (.sl 32 (.pair (.int .i64) (.pair (.int .i64) (.unit))))) .fr), (61, .val (.sl 36 (.sl 32 (.pair (.int .i64) (.pair (.int .i64) (.unit))))) .fr), (0, .val (.int .i64) .fr), (0, .val (.int .i64) .fr)], 22⟩, (.ret, ⟨[(2, .val (.int .i64) .fr)], 84⟩), [(.exit 4, ⟨[], 87⟩)], impl_fails_l2⟩
noncomputable def impl_fails_s : Spec := ⟨[.v (.sl 36 (.sl 32 (.pair (.int .i64) (.pair (.int .i64) (.unit))))) .fr], Int, fun v => impl_fails v.1, fun r => ([.v (.int .i64) .fr r], [])⟩
noncomputable def impl_fails_ls : List LSum := [impl_fails_l0_s, impl_fails_l1_s, impl_fails_l2_s, impl_fails_l3_s]
noncomputable def impl_fails_tab : List Row := [⟨36, [], [slices_Concat__impl_Angle_impl_Angle_s]⟩, ⟨57, [], [impl_periodic_s]⟩, ⟨75, [], [impl_sorted_s]⟩, ⟨76, [], [slices_Clone___impl_Angle__impl_Angle_s]⟩, ⟨77, [], [impl_leads_s]⟩, ⟨78, [], [impl_keeps_s]⟩, ⟨79, [], [impl_areUnlinked_s]⟩]
theorem impl_fails_t : ∀ r, r ∈ impl_fails_tab → RowIs Go.Proofs.Try.prog r := tab_cons (slices_Concat__impl_Angle_impl_Angle_is) (tab_cons (impl_periodic_is) (tab_cons (impl_sorted_is) (tab_cons (slices_Clone___impl_Angle__impl_Angle_is) (tab_cons (impl_leads_is) (tab_cons (impl_keeps_is) (tab_cons (impl_areUnlinked_is) (tab_nil)))))))
theorem impl_fails_l0_r : RoundIs (mkCtx Go.K.Link.seat impl_fails_c impl_fails_tab) (sums impl_fails_ls) 0 (bodyAt (loopsOf 0 impl_fails_code) 0) impl_fails_l0_s := by
  rintro ⟨sets, ⟨all, ⟨next', ⟨t29, ⟨t30, ⟨t31, _⟩⟩⟩⟩⟩⟩
  show _ = (impl_fails_l0 (sets, (all, (next', (t29, (t30, (t31, ()))))))).bind fun r : (Ctl ((List (List (Int × (Int × Unit)))) × (List (Int × (Int × Unit))) × (List (List (Int × (Int × Unit)))) × (List (List (Int × (Int × Unit)))) × Int × Int × Unit) ((Int × Unit) ⊕ ((List (List (Int × (Int × Unit)))) × (List (Int × (Int × Unit))) × (List (List (Int × (Int × Unit)))) × Unit))) => some (ctlVal impl_fails_l0_s r)
  simp only [impl_fails_l0, kb_ite, kb_some, kb_none, kb_bind, kb_alt]
  kernel_rfl
theorem impl_fails_l1_r : RoundIs (mkCtx Go.K.Link.seat impl_fails_c impl_fails_tab) (sums impl_fails_ls) 2 (bodyAt (loopsOf 0 impl_fails_code) 1) impl_fails_l1_s := by
  rintro ⟨sets, ⟨all, ⟨next', ⟨t44, ⟨t45, ⟨t46, _⟩⟩⟩⟩⟩⟩
  show _ = (impl_fails_l1 (sets, (all, (next', (t44, (t45, (t46, ()))))))).bind fun r : (Ctl ((List (List (Int × (Int × Unit)))) × (List (Int × (Int × Unit))) × (List (List (Int × (Int × Unit)))) × (List (List (Int × (Int × Unit)))) × Int × Int × Unit) ((Int × Unit) ⊕ ((List (List (Int × (Int × Unit)))) × (List (Int × (Int × Unit))) × Unit))) => some (ctlVal impl_fails_l1_s r)
  simp only [impl_fails_l1, kb_ite, kb_some, kb_none, kb_bind, kb_alt]
  kernel_rfl
theorem impl_fails_l2_r : RoundIs (mkCtx Go.K.Link.seat impl_fails_c impl_fails_tab) (sums impl_fails_ls) 4 (bodyAt (loopsOf 0 impl_fails_code) 2) impl_fails_l2_s := by
  rintro ⟨sets, ⟨t62, ⟨t63, ⟨t64, _⟩⟩⟩⟩
  show _ = (impl_fails_l2 (sets, (t62, (t63, (t64, ()))))).bind fun r : (Ctl ((List (List (Int × (Int × Unit)))) × (List (List (Int × (Int × Unit)))) × Int × Int × Unit) ((Int × Unit) ⊕ (Unit))) => some (ctlVal impl_fails_l2_s r)
  simp only [impl_fails_l2, kb_ite, kb_some, kb_none, kb_bind, kb_alt]
  kernel_rfl
theorem impl_fails_l3_r : RoundIs (mkCtx Go.K.Link.seat impl_fails_c impl_fails_tab) (sums impl_fails_ls) 6 (bodyAt (loopsOf 0 impl_fails_code) 3) impl_fails_l3_s := by
  rintro ⟨sets, ⟨i, ⟨set, ⟨t62, ⟨t63, ⟨t64, ⟨t67, ⟨t68, ⟨t69, ⟨t70, ⟨t71, _⟩⟩⟩⟩⟩⟩⟩⟩⟩⟩⟩
  show _ = (impl_fails_l3 (sets, (i, (set, (t62, (t63, (t64, (t67, (t68, (t69, (t70, (t71, ())))))))))))).bind fun r : (Ctl ((List (List (Int × (Int × Unit)))) × Int × (List (Int × (Int × Unit))) × (List (List (Int × (Int × Unit)))) × Int × Int × (List (Int × (Int × Unit))) × (List (Int × (Int × Unit))) × (List (List (Int × (Int × Unit)))) × Int × Int × Unit) ((Int × Unit) ⊕ ((List (List (Int × (Int × Unit)))) × (List (List (Int × (Int × Unit)))) × Int × Int × Unit))) => some (ctlVal impl_fails_l3_s r)
  simp only [impl_fails_l3, kb_ite, kb_some, kb_none, kb_bind, kb_alt]
  kernel_rfl
theorem impl_fails_rs : RoundsOK (mkCtx Go.K.Link.seat impl_fails_c impl_fails_tab) (sums impl_fails_ls) (loopsOf 0 impl_fails_code) impl_fails_ls := ⟨⟨rfl, rfl, impl_fails_l0_r⟩, ⟨⟨rfl, rfl, impl_fails_l1_r⟩, ⟨⟨rfl, rfl, impl_fails_l2_r⟩, ⟨⟨rfl, rfl, impl_fails_l3_r⟩, trivial⟩⟩⟩⟩
theorem impl_fails_e : ∀ v, (evFn (mkCtx Go.K.Link.seat impl_fails_c impl_fails_tab) (sums impl_fails_ls) 38 Go.Proofs.Try.f38 (encL impl_fails_s.a v)).run = (impl_fails_s.gen v).bind fun y => some (impl_fails_s.out y) := by
  rintro ⟨sets, _⟩
  show _ = (impl_fails sets).bind fun y : Int => some (impl_fails_s.out y)
  simp only [impl_fails, kb_ite, kb_some, kb_none, kb_bind, kb_alt]
  kernel_rfl
theorem impl_fails_is : FnIs Go.Proofs.Try.prog 38 (modeOf []) (phi [impl_fails_s]) := spec_is (c := impl_fails_c) seatOK impl_fails_t Go.Proofs.Try.func38 rfl (code := impl_fails_code) rfl rfl impl_fails_rs impl_fails_e
noncomputable def impl_PortraitThatFails_s : Spec := ⟨[.v (.sl 36 (.sl 32 (.pair (.int .i64) (.pair (.int .i64) (.unit))))) .fr], Int × Int, fun v => impl_PortraitThatFails v.1, fun r => ([.v (.int .i64) .fr r.1, .v (.int .i64) .fr r.2], [])⟩
noncomputable def impl_PortraitThatFails_ls : List LSum := []
noncomputable def impl_PortraitThatFails_tab : List Row := [⟨35, [], [impl_anglesCode_s]⟩, ⟨36, [], [slices_Concat__impl_Angle_impl_Angle_s]⟩, ⟨37, [], [impl_areSets_s]⟩, ⟨38, [], [impl_fails_s]⟩]
theorem impl_PortraitThatFails_t : ∀ r, r ∈ impl_PortraitThatFails_tab → RowIs Go.Proofs.Try.prog r := tab_cons (impl_anglesCode_is) (tab_cons (slices_Concat__impl_Angle_impl_Angle_is) (tab_cons (impl_areSets_is) (tab_cons (impl_fails_is) (tab_nil))))
theorem impl_PortraitThatFails_rs : RoundsOK (mkCtx Go.K.Link.seat impl_PortraitThatFails_c impl_PortraitThatFails_tab) (sums impl_PortraitThatFails_ls) (loopsOf 0 impl_PortraitThatFails_code) impl_PortraitThatFails_ls := trivial
theorem impl_PortraitThatFails_e : ∀ v, (evFn (mkCtx Go.K.Link.seat impl_PortraitThatFails_c impl_PortraitThatFails_tab) (sums impl_PortraitThatFails_ls) 12 Go.Proofs.Try.f12 (encL impl_PortraitThatFails_s.a v)).run = (impl_PortraitThatFails_s.gen v).bind fun y => some (impl_PortraitThatFails_s.out y) := by
  rintro ⟨sets, _⟩
  show _ = (impl_PortraitThatFails sets).bind fun y : Int × Int => some (impl_PortraitThatFails_s.out y)
  simp only [impl_PortraitThatFails, kb_ite, kb_some, kb_none, kb_bind, kb_alt]
  kernel_rfl
theorem impl_PortraitThatFails_is : FnIs Go.Proofs.Try.prog 12 (modeOf []) (phi [impl_PortraitThatFails_s]) := spec_is (c := impl_PortraitThatFails_c) seatOK impl_PortraitThatFails_t Go.Proofs.Try.func12 rfl (code := impl_PortraitThatFails_code) rfl rfl impl_PortraitThatFails_rs impl_PortraitThatFails_e
noncomputable def laws_eqAngleSS_code : Code := (Go.Proofs.Try.f13.body).getD .skip
def laws_eqAngleSS_c : Cfg := ⟨13, [], [[0, 1, 5], [], [4]], [], []⟩
noncomputable def laws_eqAngleS_code : Code := (Go.Proofs.Try.f23.body).getD .skip
def laws_eqAngleS_c : Cfg := ⟨23, [], [[0, 1, 5], [], [4]], [], []⟩
noncomputable def laws_eqAngle_code : Code := (Go.Proofs.Try.f20.body).getD .skip
def laws_eqAngle_c : Cfg := ⟨20, [], [], [], []⟩
noncomputable def laws_eqAngle_s : Spec := ⟨[.v (.pair (.int .i64) (.pair (.int .i64) (.unit))) .fr, .v (.pair (.int .i64) (.pair (.int .i64) (.unit))) .fr], Bool, fun v => laws_eqAngle v.1 v.2.1, fun r => ([.v (.bool) .fr r], [])⟩
noncomputable def laws_eqAngle_ls : List LSum := []
noncomputable def laws_eqAngle_tab : List Row := []
theorem laws_eqAngle_t : ∀ r, r ∈ laws_eqAngle_tab → RowIs Go.Proofs.Try.prog r := tab_nil
theorem laws_eqAngle_rs : RoundsOK (mkCtx Go.K.Link.seat laws_eqAngle_c laws_eqAngle_tab) (sums laws_eqAngle_ls) (loopsOf 0 laws_eqAngle_code) laws_eqAngle_ls := trivial
theorem laws_eqAngle_e : ∀ v, (evFn (mkCtx Go.K.Link.seat laws_eqAngle_c laws_eqAngle_tab) (sums laws_eqAngle_ls) 20 Go.Proofs.Try.f20 (encL laws_eqAngle_s.a v)).run = (laws_eqAngle_s.gen v).bind fun y => some (laws_eqAngle_s.out y) := by
  rintro ⟨a, ⟨b, _⟩⟩
  show _ = (laws_eqAngle a b).bind fun y : Bool => some (laws_eqAngle_s.out y)
  simp only [laws_eqAngle, kb_ite, kb_some, kb_none, kb_bind, kb_alt]
  kernel_rfl
theorem laws_eqAngle_is : FnIs Go.Proofs.Try.prog 20 (modeOf []) (phi [laws_eqAngle_s]) := spec_is (c := laws_eqAngle_c) seatOK laws_eqAngle_t Go.Proofs.Try.func20 rfl (code := laws_eqAngle_code) rfl rfl laws_eqAngle_rs laws_eqAngle_e
noncomputable def laws_eqAngleS_l0_s : LSum := ⟨0, ⟨[(0, .val (.sl 32 (.pair (.int .i64) (.pair (.int .i64) (.unit)))) .fr), (0, .val (.sl 32 (.pair (.int .i64) (.pair (.int .i64) (.unit)))) .fr), (3, .val (.int .i64) .fr)], 21⟩, (.ret, ⟨[(4, .val (.bool) .fr)], 22⟩), [(.exit 0, ⟨[], 27⟩)], laws_eqAngleS_l0⟩
noncomputable def laws_eqAngleS_s : Spec := ⟨[.v (.sl 32 (.pair (.int .i64) (.pair (.int .i64) (.unit)))) .fr, .v (.sl 32 (.pair (.int .i64) (.pair (.int .i64) (.unit)))) .fr], Bool, fun v => laws_eqAngleS v.1 v.2.1, fun r => ([.v (.bool) .fr r], [])⟩
noncomputable def laws_eqAngleS_ls : List LSum := [laws_eqAngleS_l0_s]
noncomputable def laws_eqAngleS_tab : List Row := [⟨20, [], [laws_eqAngle_s]⟩]
theorem laws_eqAngleS_t : ∀ r, r ∈ laws_eqAngleS_tab → RowIs Go.Proofs.Try.prog r := tab_cons (laws_eqAngle_is) (tab_nil)
theorem laws_eqAngleS_l0_r : RoundIs (mkCtx Go.K.Link.seat laws_eqAngleS_c laws_eqAngleS_tab) (sums laws_eqAngleS_ls) 0 (bodyAt (loopsOf 0 laws_eqAngleS_code) 0) laws_eqAngleS_l0_s := by
  rintro ⟨a, ⟨b, ⟨i, _⟩⟩⟩
  show _ = (laws_eqAngleS_l0 (a, (b, (i, ())))).bind fun r : (Ctl ((List (Int × (Int × Unit))) × (List (Int × (Int × Unit))) × Int × Unit) ((Bool × Unit) ⊕ (Unit))) => some (ctlVal laws_eqAngleS_l0_s r)
  simp only [laws_eqAngleS_l0, kb_ite, kb_some, kb_none, kb_bind, kb_alt]
  kernel_rfl
theorem laws_eqAngleS_rs : RoundsOK (mkCtx Go.K.Link.seat laws_eqAngleS_c laws_eqAngleS_tab) (sums laws_eqAngleS_ls) (loopsOf 0 laws_eqAngleS_code) laws_eqAngleS_ls := ⟨⟨rfl, rfl, laws_eqAngleS_l0_r⟩, trivial⟩
theorem laws_eqAngleS_e : ∀ v, (evFn (mkCtx Go.K.Link.seat laws_eqAngleS_c laws_eqAngleS_tab) (sums laws_eqAngleS_ls) 23 Go.Proofs.Try.f23 (encL laws_eqAngleS_s.a v)).run = (laws_eqAngleS_s.gen v).bind fun y => some (laws_eqAngleS_s.out y) := by
  rintro ⟨a, ⟨b, _⟩⟩
  show _ = (laws_eqAngleS a b).bind fun y : Bool => some (laws_eqAngleS_s.out y)
  simp only [laws_eqAngleS, kb_ite, kb_some, kb_none, kb_bind, kb_alt]
  kernel_rfl
theorem laws_eqAngleS_is : FnIs Go.Proofs.Try.prog 23 (modeOf []) (phi [laws_eqAngleS_s]) := spec_is (c := laws_eqAngleS_c) seatOK laws_eqAngleS_t Go.Proofs.Try.func23 rfl (code := laws_eqAngleS_code) rfl rfl laws_eqAngleS_rs laws_eqAngleS_e
noncomputable def laws_eqAngleSS_l0_s : LSum := ⟨0, ⟨[(0, .val (.sl 36 (.sl 32 (.pair (.int .i64) (.pair (.int .i64) (.unit))))) .fr), (0, .val (.sl 36 (.sl 32 (.pair (.int .i64) (.pair (.int .i64) (.unit))))) .fr), (3, .val (.int .i64) .fr)], 21⟩, (.ret, ⟨[(4, .val (.bool) .fr)], 22⟩), [(.exit 0, ⟨[], 27⟩)], laws_eqAngleSS_l0⟩
noncomputable def laws_eqAngleSS_s : Spec := ⟨[.v (.sl 36 (.sl 32 (.pair (.int .i64) (.pair (.int .i64) (.unit))))) .fr, .v (.sl 36 (.sl 32 (.pair (.int .i64) (.pair (.int .i64) (.unit))))) .fr], Bool, fun v => laws_eqAngleSS v.1 v.2.1, fun r => ([.v (.bool) .fr r], [])⟩
noncomputable def laws_eqAngleSS_ls : List LSum := [laws_eqAngleSS_l0_s]
noncomputable def laws_eqAngleSS_tab : List Row := [⟨23, [], [laws_eqAngleS_s]⟩]
theorem laws_eqAngleSS_t : ∀ r, r ∈ laws_eqAngleSS_tab → RowIs Go.Proofs.Try.prog r := tab_cons (laws_eqAngleS_is) (tab_nil)
theorem laws_eqAngleSS_l0_r : RoundIs (mkCtx Go.K.Link.seat laws_eqAngleSS_c laws_eqAngleSS_tab) (sums laws_eqAngleSS_ls) 0 (bodyAt (loopsOf 0 laws_eqAngleSS_code) 0) laws_eqAngleSS_l0_s := by
  rintro ⟨a, ⟨b, ⟨i, _⟩⟩⟩
  show _ = (laws_eqAngleSS_l0 (a, (b, (i, ())))).bind fun r : (Ctl ((List (List (Int × (Int × Unit)))) × (List (List (Int × (Int × Unit)))) × Int × Unit) ((Bool × Unit) ⊕ (Unit))) => some (ctlVal laws_eqAngleSS_l0_s r)
  simp only [laws_eqAngleSS_l0, kb_ite, kb_some, kb_none, kb_bind, kb_alt]
  kernel_rfl
theorem laws_eqAngleSS_rs : RoundsOK (mkCtx Go.K.Link.seat laws_eqAngleSS_c laws_eqAngleSS_tab) (sums laws_eqAngleSS_ls) (loopsOf 0 laws_eqAngleSS_code) laws_eqAngleSS_ls := ⟨⟨rfl, rfl, laws_eqAngleSS_l0_r⟩, trivial⟩
theorem laws_eqAngleSS_e : ∀ v, (evFn (mkCtx Go.K.Link.seat laws_eqAngleSS_c laws_eqAngleSS_tab) (sums laws_eqAngleSS_ls) 13 Go.Proofs.Try.f13 (encL laws_eqAngleSS_s.a v)).run = (laws_eqAngleSS_s.gen v).bind fun y => some (laws_eqAngleSS_s.out y) := by
  rintro ⟨a, ⟨b, _⟩⟩
  show _ = (laws_eqAngleSS a b).bind fun y : Bool => some (laws_eqAngleSS_s.out y)
  simp only [laws_eqAngleSS, kb_ite, kb_some, kb_none, kb_bind, kb_alt]
  kernel_rfl
theorem laws_eqAngleSS_is : FnIs Go.Proofs.Try.prog 13 (modeOf []) (phi [laws_eqAngleSS_s]) := spec_is (c := laws_eqAngleSS_c) seatOK laws_eqAngleSS_t Go.Proofs.Try.func13 rfl (code := laws_eqAngleSS_code) rfl rfl laws_eqAngleSS_rs laws_eqAngleSS_e
noncomputable def laws_FnExactPortraitThatFails_s : Spec := ⟨[.v (.sl 48 (.sl 42 (.pair (.int .i64) (.pair (.int .i64) (.unit))))) .fr], Bool, fun v => laws_FnExactPortraitThatFails v.1, fun r => ([.v (.bool) .fr r], [])⟩
noncomputable def laws_FnExactPortraitThatFails_ls : List LSum := []
noncomputable def laws_FnExactPortraitThatFails_tab : List Row := [⟨9, [], [laws_szAngleSS_s]⟩, ⟨10, [], [spec_PortraitThatFails_s]⟩, ⟨11, [], [laws_toAngleSS_s]⟩, ⟨12, [], [impl_PortraitThatFails_s]⟩, ⟨13, [], [laws_eqAngleSS_s]⟩]
theorem laws_FnExactPortraitThatFails_t : ∀ r, r ∈ laws_FnExactPortraitThatFails_tab → RowIs Go.Proofs.Try.prog r := tab_cons (laws_szAngleSS_is) (tab_cons (spec_PortraitThatFails_is) (tab_cons (laws_toAngleSS_is) (tab_cons (impl_PortraitThatFails_is) (tab_cons (laws_eqAngleSS_is) (tab_nil)))))
theorem laws_FnExactPortraitThatFails_rs : RoundsOK (mkCtx Go.K.Link.seat laws_FnExactPortraitThatFails_c laws_FnExactPortraitThatFails_tab) (sums laws_FnExactPortraitThatFails_ls) (loopsOf 0 laws_FnExactPortraitThatFails_code) laws_FnExactPortraitThatFails_ls := trivial
theorem laws_FnExactPortraitThatFails_e : ∀ v, (evFn (mkCtx Go.K.Link.seat laws_FnExactPortraitThatFails_c laws_FnExactPortraitThatFails_tab) (sums laws_FnExactPortraitThatFails_ls) 3 Go.Proofs.Try.f3 (encL laws_FnExactPortraitThatFails_s.a v)).run = (laws_FnExactPortraitThatFails_s.gen v).bind fun y => some (laws_FnExactPortraitThatFails_s.out y) := by
  rintro ⟨aSets, _⟩
  show _ = (laws_FnExactPortraitThatFails aSets).bind fun y : Bool => some (laws_FnExactPortraitThatFails_s.out y)
  simp only [laws_FnExactPortraitThatFails, kb_ite, kb_some, kb_none, kb_bind, kb_alt]
  kernel_rfl
theorem laws_FnExactPortraitThatFails_is : FnIs Go.Proofs.Try.prog 3 (modeOf []) (phi [laws_FnExactPortraitThatFails_s]) := spec_is (c := laws_FnExactPortraitThatFails_c) seatOK laws_FnExactPortraitThatFails_t Go.Proofs.Try.func3 rfl (code := laws_FnExactPortraitThatFails_code) rfl rfl laws_FnExactPortraitThatFails_rs laws_FnExactPortraitThatFails_e
noncomputable def laws_FnExactIsPortrait_code : Code := (Go.Proofs.Try.f4.body).getD .skip
def laws_FnExactIsPortrait_c : Cfg := ⟨4, [], [], [], []⟩
noncomputable def spec_IsPortrait_code : Code := (Go.Proofs.Try.f14.body).getD .skip
def spec_IsPortrait_c : Cfg := ⟨14, [], [], [], []⟩
noncomputable def spec_l07Is_code : Code := (Go.Proofs.Try.f39.body).getD .skip
def spec_l07Is_c : Cfg := ⟨39, [], [], [], []⟩
noncomputable def spec_l07Is_s : Spec := ⟨[.v (.sl 36 (.sl 32 (.pair (.int .i64) (.pair (.int .i64) (.unit))))) .fr], Bool, fun v => spec_l07Is v.1, fun r => ([.v (.bool) .fr r], [])⟩
noncomputable def spec_l07Is_ls : List LSum := []
noncomputable def spec_l07Is_tab : List Row := [⟨32, [], [spec_l07Lists_s]⟩, ⟨33, [], [spec_l07Fails_s]⟩]
theorem spec_l07Is_t : ∀ r, r ∈ spec_l07Is_tab → RowIs Go.Proofs.Try.prog r := tab_cons (spec_l07Lists_is) (tab_cons (spec_l07Fails_is) (tab_nil))
theorem spec_l07Is_rs : RoundsOK (mkCtx Go.K.Link.seat spec_l07Is_c spec_l07Is_tab) (sums spec_l07Is_ls) (loopsOf 0 spec_l07Is_code) spec_l07Is_ls := trivial
theorem spec_l07Is_e : ∀ v, (evFn (mkCtx Go.K.Link.seat spec_l07Is_c spec_l07Is_tab) (sums spec_l07Is_ls) 39 Go.Proofs.Try.f39 (encL spec_l07Is_s.a v)).run = (spec_l07Is_s.gen v).bind fun y => some (spec_l07Is_s.out y) := by
  rintro ⟨sets, _⟩
  show _ = (spec_l07Is sets).bind fun y : Bool => some (spec_l07Is_s.out y)
  simp only [spec_l07Is, kb_ite, kb_some, kb_none, kb_bind, kb_alt]
  kernel_rfl
theorem spec_l07Is_is : FnIs Go.Proofs.Try.prog 39 (modeOf []) (phi [spec_l07Is_s]) := spec_is (c := spec_l07Is_c) seatOK spec_l07Is_t Go.Proofs.Try.func39 rfl (code := spec_l07Is_code) rfl rfl spec_l07Is_rs spec_l07Is_e
noncomputable def spec_IsPortrait_s : Spec := ⟨[.v (.sl 36 (.sl 32 (.pair (.int .i64) (.pair (.int .i64) (.unit))))) .fr], Bool, fun v => spec_IsPortrait v.1, fun r => ([.v (.bool) .fr r], [])⟩
noncomputable def spec_IsPortrait_ls : List LSum := []
noncomputable def spec_IsPortrait_tab : List Row := [⟨39, [], [spec_l07Is_s]⟩]
theorem spec_IsPortrait_t : ∀ r, r ∈ spec_IsPortrait_tab → RowIs Go.Proofs.Try.prog r := tab_cons (spec_l07Is_is) (tab_nil)
theorem spec_IsPortrait_rs : RoundsOK (mkCtx Go.K.Link.seat spec_IsPortrait_c spec_IsPortrait_tab) (sums spec_IsPortrait_ls) (loopsOf 0 spec_IsPortrait_code) spec_IsPortrait_ls := trivial
theorem spec_IsPortrait_e : ∀ v, (evFn (mkCtx Go.K.Link.seat spec_IsPortrait_c spec_IsPortrait_tab) (sums spec_IsPortrait_ls) 14 Go.Proofs.Try.f14 (encL spec_IsPortrait_s.a v)).run = (spec_IsPortrait_s.gen v).bind fun y => some (spec_IsPortrait_s.out y) := by
  rintro ⟨sets, _⟩
  show _ = (spec_IsPortrait sets).bind fun y : Bool => some (spec_IsPortrait_s.out y)
  simp only [spec_IsPortrait, kb_ite, kb_some, kb_none, kb_bind, kb_alt]
  kernel_rfl
theorem spec_IsPortrait_is : FnIs Go.Proofs.Try.prog 14 (modeOf []) (phi [spec_IsPortrait_s]) := spec_is (c := spec_IsPortrait_c) seatOK spec_IsPortrait_t Go.Proofs.Try.func14 rfl (code := spec_IsPortrait_code) rfl rfl spec_IsPortrait_rs spec_IsPortrait_e
noncomputable def impl_IsPortrait_code : Code := (Go.Proofs.Try.f15.body).getD .skip
def impl_IsPortrait_c : Cfg := ⟨15, [], [], [], []⟩
noncomputable def impl_IsPortrait_s : Spec := ⟨[.v (.sl 36 (.sl 32 (.pair (.int .i64) (.pair (.int .i64) (.unit))))) .fr], Bool, fun v => impl_IsPortrait v.1, fun r => ([.v (.bool) .fr r], [])⟩
noncomputable def impl_IsPortrait_ls : List LSum := []
noncomputable def impl_IsPortrait_tab : List Row := [⟨12, [], [impl_PortraitThatFails_s]⟩]
theorem impl_IsPortrait_t : ∀ r, r ∈ impl_IsPortrait_tab → RowIs Go.Proofs.Try.prog r := tab_cons (impl_PortraitThatFails_is) (tab_nil)
theorem impl_IsPortrait_rs : RoundsOK (mkCtx Go.K.Link.seat impl_IsPortrait_c impl_IsPortrait_tab) (sums impl_IsPortrait_ls) (loopsOf 0 impl_IsPortrait_code) impl_IsPortrait_ls := trivial
theorem impl_IsPortrait_e : ∀ v, (evFn (mkCtx Go.K.Link.seat impl_IsPortrait_c impl_IsPortrait_tab) (sums impl_IsPortrait_ls) 15 Go.Proofs.Try.f15 (encL impl_IsPortrait_s.a v)).run = (impl_IsPortrait_s.gen v).bind fun y => some (impl_IsPortrait_s.out y) := by
  rintro ⟨sets, _⟩
  show _ = (impl_IsPortrait sets).bind fun y : Bool => some (impl_IsPortrait_s.out y)
  simp only [impl_IsPortrait, kb_ite, kb_some, kb_none, kb_bind, kb_alt]
  kernel_rfl
theorem impl_IsPortrait_is : FnIs Go.Proofs.Try.prog 15 (modeOf []) (phi [impl_IsPortrait_s]) := spec_is (c := impl_IsPortrait_c) seatOK impl_IsPortrait_t Go.Proofs.Try.func15 rfl (code := impl_IsPortrait_code) rfl rfl impl_IsPortrait_rs impl_IsPortrait_e
noncomputable def laws_FnExactIsPortrait_s : Spec := ⟨[.v (.sl 48 (.sl 42 (.pair (.int .i64) (.pair (.int .i64) (.unit))))) .fr], Bool, fun v => laws_FnExactIsPortrait v.1, fun r => ([.v (.bool) .fr r], [])⟩
noncomputable def laws_FnExactIsPortrait_ls : List LSum := []
noncomputable def laws_FnExactIsPortrait_tab : List Row := [⟨9, [], [laws_szAngleSS_s]⟩, ⟨11, [], [laws_toAngleSS_s]⟩, ⟨13, [], [laws_eqAngleSS_s]⟩, ⟨14, [], [spec_IsPortrait_s]⟩, ⟨15, [], [impl_IsPortrait_s]⟩]
theorem laws_FnExactIsPortrait_t : ∀ r, r ∈ laws_FnExactIsPortrait_tab → RowIs Go.Proofs.Try.prog r := tab_cons (laws_szAngleSS_is) (tab_cons (laws_toAngleSS_is) (tab_cons (laws_eqAngleSS_is) (tab_cons (spec_IsPortrait_is) (tab_cons (impl_IsPortrait_is) (tab_nil)))))
theorem laws_FnExactIsPortrait_rs : RoundsOK (mkCtx Go.K.Link.seat laws_FnExactIsPortrait_c laws_FnExactIsPortrait_tab) (sums laws_FnExactIsPortrait_ls) (loopsOf 0 laws_FnExactIsPortrait_code) laws_FnExactIsPortrait_ls := trivial
theorem laws_FnExactIsPortrait_e : ∀ v, (evFn (mkCtx Go.K.Link.seat laws_FnExactIsPortrait_c laws_FnExactIsPortrait_tab) (sums laws_FnExactIsPortrait_ls) 4 Go.Proofs.Try.f4 (encL laws_FnExactIsPortrait_s.a v)).run = (laws_FnExactIsPortrait_s.gen v).bind fun y => some (laws_FnExactIsPortrait_s.out y) := by
  rintro ⟨aSets, _⟩
  show _ = (laws_FnExactIsPortrait aSets).bind fun y : Bool => some (laws_FnExactIsPortrait_s.out y)
  simp only [laws_FnExactIsPortrait, kb_ite, kb_some, kb_none, kb_bind, kb_alt]
  kernel_rfl
theorem laws_FnExactIsPortrait_is : FnIs Go.Proofs.Try.prog 4 (modeOf []) (phi [laws_FnExactIsPortrait_s]) := spec_is (c := laws_FnExactIsPortrait_c) seatOK laws_FnExactIsPortrait_t Go.Proofs.Try.func4 rfl (code := laws_FnExactIsPortrait_code) rfl rfl laws_FnExactIsPortrait_rs laws_FnExactIsPortrait_e
noncomputable def laws_FnExactValenceOf_code : Code := (Go.Proofs.Try.f5.body).getD .skip
def laws_FnExactValenceOf_c : Cfg := ⟨5, [], [], [], []⟩
noncomputable def spec_ValenceOf_code : Code := (Go.Proofs.Try.f16.body).getD .skip
def spec_ValenceOf_c : Cfg := ⟨16, [], [], [], []⟩
noncomputable def spec_l07Code_code : Code := (Go.Proofs.Try.f40.body).getD .skip
def spec_l07Code_c : Cfg := ⟨40, [], [], [], []⟩
noncomputable def spec_l07Code_s : Spec := ⟨[.v (.sl 36 (.sl 32 (.pair (.int .i64) (.pair (.int .i64) (.unit))))) .fr], Int, fun v => spec_l07Code v.1, fun r => ([.v (.int .i64) .fr r], [])⟩
noncomputable def spec_l07Code_ls : List LSum := []
noncomputable def spec_l07Code_tab : List Row := [⟨32, [], [spec_l07Lists_s]⟩, ⟨33, [], [spec_l07Fails_s]⟩]
theorem spec_l07Code_t : ∀ r, r ∈ spec_l07Code_tab → RowIs Go.Proofs.Try.prog r := tab_cons (spec_l07Lists_is) (tab_cons (spec_l07Fails_is) (tab_nil))
theorem spec_l07Code_rs : RoundsOK (mkCtx Go.K.Link.seat spec_l07Code_c spec_l07Code_tab) (sums spec_l07Code_ls) (loopsOf 0 spec_l07Code_code) spec_l07Code_ls := trivial
theorem spec_l07Code_e : ∀ v, (evFn (mkCtx Go.K.Link.seat spec_l07Code_c spec_l07Code_tab) (sums spec_l07Code_ls) 40 Go.Proofs.Try.f40 (encL spec_l07Code_s.a v)).run = (spec_l07Code_s.gen v).bind fun y => some (spec_l07Code_s.out y) := by
  rintro ⟨sets, _⟩
  show _ = (spec_l07Code sets).bind fun y : Int => some (spec_l07Code_s.out y)
  simp only [spec_l07Code, kb_ite, kb_some, kb_none, kb_bind, kb_alt]
  kernel_rfl
theorem spec_l07Code_is : FnIs Go.Proofs.Try.prog 40 (modeOf []) (phi [spec_l07Code_s]) := spec_is (c := spec_l07Code_c) seatOK spec_l07Code_t Go.Proofs.Try.func40 rfl (code := spec_l07Code_code) rfl rfl spec_l07Code_rs spec_l07Code_e
noncomputable def spec_ValenceOf_s : Spec := ⟨[.v (.sl 36 (.sl 32 (.pair (.int .i64) (.pair (.int .i64) (.unit))))) .fr], Int × Int, fun v => spec_ValenceOf v.1, fun r => ([.v (.int .i64) .fr r.1, .v (.int .i64) .fr r.2], [])⟩
noncomputable def spec_ValenceOf_ls : List LSum := []
noncomputable def spec_ValenceOf_tab : List Row := [⟨40, [], [spec_l07Code_s]⟩]
theorem spec_ValenceOf_t : ∀ r, r ∈ spec_ValenceOf_tab → RowIs Go.Proofs.Try.prog r := tab_cons (spec_l07Code_is) (tab_nil)
theorem spec_ValenceOf_rs : RoundsOK (mkCtx Go.K.Link.seat spec_ValenceOf_c spec_ValenceOf_tab) (sums spec_ValenceOf_ls) (loopsOf 0 spec_ValenceOf_code) spec_ValenceOf_ls := trivial
theorem spec_ValenceOf_e : ∀ v, (evFn (mkCtx Go.K.Link.seat spec_ValenceOf_c spec_ValenceOf_tab) (sums spec_ValenceOf_ls) 16 Go.Proofs.Try.f16 (encL spec_ValenceOf_s.a v)).run = (spec_ValenceOf_s.gen v).bind fun y => some (spec_ValenceOf_s.out y) := by
  rintro ⟨sets, _⟩
  show _ = (spec_ValenceOf sets).bind fun y : Int × Int => some (spec_ValenceOf_s.out y)
  simp only [spec_ValenceOf, kb_ite, kb_some, kb_none, kb_bind, kb_alt]
  kernel_rfl
theorem spec_ValenceOf_is : FnIs Go.Proofs.Try.prog 16 (modeOf []) (phi [spec_ValenceOf_s]) := spec_is (c := spec_ValenceOf_c) seatOK spec_ValenceOf_t Go.Proofs.Try.func16 rfl (code := spec_ValenceOf_code) rfl rfl spec_ValenceOf_rs spec_ValenceOf_e
noncomputable def impl_ValenceOf_code : Code := (Go.Proofs.Try.f17.body).getD .skip
def impl_ValenceOf_c : Cfg := ⟨17, [], [], [], []⟩
noncomputable def impl_portraitCode_code : Code := (Go.Proofs.Try.f41.body).getD .skip
def impl_portraitCode_c : Cfg := ⟨41, [], [], [], []⟩
noncomputable def impl_portraitCode_s : Spec := ⟨[.v (.sl 36 (.sl 32 (.pair (.int .i64) (.pair (.int .i64) (.unit))))) .fr], Int, fun v => impl_portraitCode v.1, fun r => ([.v (.int .i64) .fr r], [])⟩
noncomputable def impl_portraitCode_ls : List LSum := []
noncomputable def impl_portraitCode_tab : List Row := [⟨12, [], [impl_PortraitThatFails_s]⟩]
theorem impl_portraitCode_t : ∀ r, r ∈ impl_portraitCode_tab → RowIs Go.Proofs.Try.prog r := tab_cons (impl_PortraitThatFails_is) (tab_nil)
theorem impl_portraitCode_rs : RoundsOK (mkCtx Go.K.Link.seat impl_portraitCode_c impl_portraitCode_tab) (sums impl_portraitCode_ls) (loopsOf 0 impl_portraitCode_code) impl_portraitCode_ls := trivial
theorem impl_portraitCode_e : ∀ v, (evFn (mkCtx Go.K.Link.seat impl_portraitCode_c impl_portraitCode_tab) (sums impl_portraitCode_ls) 41 Go.Proofs.Try.f41 (encL impl_portraitCode_s.a v)).run = (impl_portraitCode_s.gen v).bind fun y => some (impl_portraitCode_s.out y) := by
  rintro ⟨sets, _⟩
  show _ = (impl_portraitCode sets).bind fun y : Int => some (impl_portraitCode_s.out y)
  simp only [impl_portraitCode, kb_ite, kb_some, kb_none, kb_bind, kb_alt]
  kernel_rfl
theorem impl_portraitCode_is : FnIs Go.Proofs.Try.prog 41 (modeOf []) (phi [impl_portraitCode_s]) := spec_is (c := impl_portraitCode_c) seatOK impl_portraitCode_t Go.Proofs.Try.func41 rfl (code := impl_portraitCode_code) rfl rfl impl_portraitCode_rs impl_portraitCode_e
noncomputable def impl_length_impl_Angle_code : Code := (Go.Proofs.Try.f42.body).getD .skip
def impl_length_impl_Angle_c : Cfg := ⟨42, [], [], [], []⟩
noncomputable def impl_length_impl_Angle_s : Spec := ⟨[.v (.sl 32 (.pair (.int .i64) (.pair (.int .i64) (.unit)))) .fr], Int, fun v => impl_length_impl_Angle v.1, fun r => ([.v (.int .i64) .fr r], [])⟩
noncomputable def impl_length_impl_Angle_ls : List LSum := []
noncomputable def impl_length_impl_Angle_tab : List Row := []
theorem impl_length_impl_Angle_t : ∀ r, r ∈ impl_length_impl_Angle_tab → RowIs Go.Proofs.Try.prog r := tab_nil
theorem impl_length_impl_Angle_rs : RoundsOK (mkCtx Go.K.Link.seat impl_length_impl_Angle_c impl_length_impl_Angle_tab) (sums impl_length_impl_Angle_ls) (loopsOf 0 impl_length_impl_Angle_code) impl_length_impl_Angle_ls := trivial
theorem impl_length_impl_Angle_e : ∀ v, (evFn (mkCtx Go.K.Link.seat impl_length_impl_Angle_c impl_length_impl_Angle_tab) (sums impl_length_impl_Angle_ls) 42 Go.Proofs.Try.f42 (encL impl_length_impl_Angle_s.a v)).run = (impl_length_impl_Angle_s.gen v).bind fun y => some (impl_length_impl_Angle_s.out y) := by
  rintro ⟨list, _⟩
  show _ = (impl_length_impl_Angle list).bind fun y : Int => some (impl_length_impl_Angle_s.out y)
  simp only [impl_length_impl_Angle, kb_ite, kb_some, kb_none, kb_bind, kb_alt]
  kernel_rfl
theorem impl_length_impl_Angle_is : FnIs Go.Proofs.Try.prog 42 (modeOf []) (phi [impl_length_impl_Angle_s]) := spec_is (c := impl_length_impl_Angle_c) seatOK impl_length_impl_Angle_t Go.Proofs.Try.func42 rfl (code := impl_length_impl_Angle_code) rfl rfl impl_length_impl_Angle_rs impl_length_impl_Angle_e
noncomputable def impl_ValenceOf_s : Spec := ⟨[.v (.sl 36 (.sl 32 (.pair (.int .i64) (.pair (.int .i64) (.unit))))) .fr], Int × Int, fun v => impl_ValenceOf v.1, fun r => ([.v (.int .i64) .fr r.1, .v (.int .i64) .fr r.2], [])⟩
noncomputable def impl_ValenceOf_ls : List LSum := []
noncomputable def impl_ValenceOf_tab : List Row := [⟨41, [], [impl_portraitCode_s]⟩, ⟨42, [], [impl_length_impl_Angle_s]⟩]
theorem impl_ValenceOf_t : ∀ r, r ∈ impl_ValenceOf_tab → RowIs Go.Proofs.Try.prog r := tab_cons (impl_portraitCode_is) (tab_cons (impl_length_impl_Angle_is) (tab_nil))
theorem impl_ValenceOf_rs : RoundsOK (mkCtx Go.K.Link.seat impl_ValenceOf_c impl_ValenceOf_tab) (sums impl_ValenceOf_ls) (loopsOf 0 impl_ValenceOf_code) impl_ValenceOf_ls := trivial
theorem impl_ValenceOf_e : ∀ v, (evFn (mkCtx Go.K.Link.seat impl_ValenceOf_c impl_ValenceOf_tab) (sums impl_ValenceOf_ls) 17 Go.Proofs.Try.f17 (encL impl_ValenceOf_s.a v)).run = (impl_ValenceOf_s.gen v).bind fun y => some (impl_ValenceOf_s.out y) := by
  rintro ⟨sets, _⟩
  show _ = (impl_ValenceOf sets).bind fun y : Int × Int => some (impl_ValenceOf_s.out y)
  simp only [impl_ValenceOf, kb_ite, kb_some, kb_none, kb_bind, kb_alt]
  kernel_rfl
theorem impl_ValenceOf_is : FnIs Go.Proofs.Try.prog 17 (modeOf []) (phi [impl_ValenceOf_s]) := spec_is (c := impl_ValenceOf_c) seatOK impl_ValenceOf_t Go.Proofs.Try.func17 rfl (code := impl_ValenceOf_code) rfl rfl impl_ValenceOf_rs impl_ValenceOf_e
noncomputable def laws_FnExactValenceOf_s : Spec := ⟨[.v (.sl 48 (.sl 42 (.pair (.int .i64) (.pair (.int .i64) (.unit))))) .fr], Bool, fun v => laws_FnExactValenceOf v.1, fun r => ([.v (.bool) .fr r], [])⟩
noncomputable def laws_FnExactValenceOf_ls : List LSum := []
noncomputable def laws_FnExactValenceOf_tab : List Row := [⟨9, [], [laws_szAngleSS_s]⟩, ⟨11, [], [laws_toAngleSS_s]⟩, ⟨13, [], [laws_eqAngleSS_s]⟩, ⟨16, [], [spec_ValenceOf_s]⟩, ⟨17, [], [impl_ValenceOf_s]⟩]
theorem laws_FnExactValenceOf_t : ∀ r, r ∈ laws_FnExactValenceOf_tab → RowIs Go.Proofs.Try.prog r := tab_cons (laws_szAngleSS_is) (tab_cons (laws_toAngleSS_is) (tab_cons (laws_eqAngleSS_is) (tab_cons (spec_ValenceOf_is) (tab_cons (impl_ValenceOf_is) (tab_nil)))))
theorem laws_FnExactValenceOf_rs : RoundsOK (mkCtx Go.K.Link.seat laws_FnExactValenceOf_c laws_FnExactValenceOf_tab) (sums laws_FnExactValenceOf_ls) (loopsOf 0 laws_FnExactValenceOf_code) laws_FnExactValenceOf_ls := trivial
theorem laws_FnExactValenceOf_e : ∀ v, (evFn (mkCtx Go.K.Link.seat laws_FnExactValenceOf_c laws_FnExactValenceOf_tab) (sums laws_FnExactValenceOf_ls) 5 Go.Proofs.Try.f5 (encL laws_FnExactValenceOf_s.a v)).run = (laws_FnExactValenceOf_s.gen v).bind fun y => some (laws_FnExactValenceOf_s.out y) := by
  rintro ⟨aSets, _⟩
  show _ = (laws_FnExactValenceOf aSets).bind fun y : Bool => some (laws_FnExactValenceOf_s.out y)
  simp only [laws_FnExactValenceOf, kb_ite, kb_some, kb_none, kb_bind, kb_alt]
  kernel_rfl
theorem laws_FnExactValenceOf_is : FnIs Go.Proofs.Try.prog 5 (modeOf []) (phi [laws_FnExactValenceOf_s]) := spec_is (c := laws_FnExactValenceOf_c) seatOK laws_FnExactValenceOf_t Go.Proofs.Try.func5 rfl (code := laws_FnExactValenceOf_code) rfl rfl laws_FnExactValenceOf_rs laws_FnExactValenceOf_e
noncomputable def laws_FnExactRotationNumber_code : Code := (Go.Proofs.Try.f6.body).getD .skip
def laws_FnExactRotationNumber_c : Cfg := ⟨6, [], [], [], []⟩
noncomputable def spec_RotationNumber_code : Code := (Go.Proofs.Try.f18.body).getD .skip
def spec_RotationNumber_c : Cfg := ⟨18, [], [[0, 2, 5, 6], [0, 2, 5], [2, 3]], [], []⟩
noncomputable def spec_RotationNumber_l0_s : LSum := ⟨0, ⟨[(0, .val (.sl 36 (.sl 32 (.pair (.int .i64) (.pair (.int .i64) (.unit))))) .fr), (1, .val (.ptr (.pair (.int .i64) (.pair (.int .i64) (.unit)))) (.own .fr)), (2, .val (.ptr (.pair (.int .i64) (.pair (.int .i64) (.unit)))) (.own .fr)), (0, .val (.int .i64) .fr)], 29⟩, (.exit 0, ⟨[(0, .val (.sl 36 (.sl 32 (.pair (.int .i64) (.pair (.int .i64) (.unit))))) .fr), (1, .val (.ptr (.pair (.int .i64) (.pair (.int .i64) (.unit)))) (.own .fr)), (2, .val (.ptr (.pair (.int .i64) (.pair (.int .i64) (.unit)))) (.own .fr))], 30⟩), [], spec_RotationNumber_l0⟩
noncomputable def spec_RotationNumber_s : Spec := ⟨[.v (.sl 36 (.sl 32 (.pair (.int .i64) (.pair (.int .i64) (.unit))))) .fr], (Int × (Int × Unit)) × Int, fun v => spec_RotationNumber v.1, fun r => ([.v (.pair (.int .i64) (.pair (.int .i64) (.unit))) .fr r.1, .v (.int .i64) .fr r.2], [])⟩
noncomputable def spec_RotationNumber_ls : List LSum := [spec_RotationNumber_l0_s]
noncomputable def spec_RotationNumber_tab : List Row := [⟨40, [], [spec_l07Code_s]⟩, ⟨43, [], [spec_l01Double_s]⟩, ⟨44, [], [spec_l01Of_s]⟩, ⟨45, [], [spec_l07Place_s]⟩]
theorem spec_RotationNumber_t : ∀ r, r ∈ spec_RotationNumber_tab → RowIs Go.Proofs.Try.prog r := tab_cons (spec_l07Code_is) (tab_cons (spec_l01Double_is) (tab_cons (spec_l01Of_is) (tab_cons (spec_l07Place_is) (tab_nil))))
theorem spec_RotationNumber_l0_r : RoundIs (mkCtx Go.K.Link.seat spec_RotationNumber_c spec_RotationNumber_tab) (sums spec_RotationNumber_ls) 0 (bodyAt (loopsOf 0 spec_RotationNumber_code) 0) spec_RotationNumber_l0_s := by
  rintro ⟨sets, ⟨t2, ⟨x, ⟨k, _⟩⟩⟩⟩
  show _ = (spec_RotationNumber_l0 (sets, (t2, (x, (k, ()))))).bind fun r : (Ctl ((List (List (Int × (Int × Unit)))) × ((Int × (Int × Unit))) × ((Int × (Int × Unit))) × Int × Unit) (((List (List (Int × (Int × Unit)))) × ((Int × (Int × Unit))) × ((Int × (Int × Unit))) × Unit))) => some (ctlVal spec_RotationNumber_l0_s r)
  simp only [spec_RotationNumber_l0, kb_ite, kb_some, kb_none, kb_bind, kb_alt]
  kernel_rfl
theorem spec_RotationNumber_rs : RoundsOK (mkCtx Go.K.Link.seat spec_RotationNumber_c spec_RotationNumber_tab) (sums spec_RotationNumber_ls) (loopsOf 0 spec_RotationNumber_code) spec_RotationNumber_ls := ⟨⟨rfl, rfl, spec_RotationNumber_l0_r⟩, trivial⟩
theorem spec_RotationNumber_e : ∀ v, (evFn (mkCtx Go.K.Link.seat spec_RotationNumber_c spec_RotationNumber_tab) (sums spec_RotationNumber_ls) 18 Go.Proofs.Try.f18 (encL spec_RotationNumber_s.a v)).run = (spec_RotationNumber_s.gen v).bind fun y => some (spec_RotationNumber_s.out y) := by
  rintro ⟨sets, _⟩
  show _ = (spec_RotationNumber sets).bind fun y : (Int × (Int × Unit)) × Int => some (spec_RotationNumber_s.out y)
  simp only [spec_RotationNumber, kb_ite, kb_some, kb_none, kb_bind, kb_alt]
  kernel_rfl
theorem spec_RotationNumber_is : FnIs Go.Proofs.Try.prog 18 (modeOf []) (phi [spec_RotationNumber_s]) := spec_is (c := spec_RotationNumber_c) seatOK spec_RotationNumber_t Go.Proofs.Try.func18 rfl (code := spec_RotationNumber_code) rfl rfl spec_RotationNumber_rs spec_RotationNumber_e
noncomputable def impl_RotationNumber_code : Code := (Go.Proofs.Try.f19.body).getD .skip
def impl_RotationNumber_c : Cfg := ⟨19, [], [[0, 2, 5, 18, 19], [0, 2, 5], [2, 3]], [], []⟩
noncomputable def impl_RotationNumber_l0_s : LSum := ⟨0, ⟨[(0, .val (.sl 36 (.sl 32 (.pair (.int .i64) (.pair (.int .i64) (.unit))))) .fr), (1, .val (.ptr (.pair (.int .i64) (.pair (.int .i64) (.unit)))) (.own .fr)), (2, .val (.ptr (.pair (.int .i64) (.pair (.int .i64) (.unit)))) (.own .fr)), (12, .val (.int .i64) .fr), (0, .val (.int .i64) .fr)], 14⟩, (.exit 0, ⟨[(0, .val (.sl 36 (.sl 32 (.pair (.int .i64) (.pair (.int .i64) (.unit))))) .fr), (1, .val (.ptr (.pair (.int .i64) (.pair (.int .i64) (.unit)))) (.own .fr)), (2, .val (.ptr (.pair (.int .i64) (.pair (.int .i64) (.unit)))) (.own .fr))], 28⟩), [], impl_RotationNumber_l0⟩
noncomputable def impl_RotationNumber_s : Spec := ⟨[.v (.sl 36 (.sl 32 (.pair (.int .i64) (.pair (.int .i64) (.unit))))) .fr], (Int × (Int × Unit)) × Int, fun v => impl_RotationNumber v.1, fun r => ([.v (.pair (.int .i64) (.pair (.int .i64) (.unit))) .fr r.1, .v (.int .i64) .fr r.2], [])⟩
noncomputable def impl_RotationNumber_ls : List LSum := [impl_RotationNumber_l0_s]
noncomputable def impl_RotationNumber_tab : List Row := [⟨41, [], [impl_portraitCode_s]⟩, ⟨42, [], [impl_length_impl_Angle_s]⟩, ⟨46, [], [impl_Angle_double_s]⟩, ⟨47, [], [impl_angle_s]⟩, ⟨48, [], [slices_Index__impl_Angle_impl_Angle_s]⟩]
theorem impl_RotationNumber_t : ∀ r, r ∈ impl_RotationNumber_tab → RowIs Go.Proofs.Try.prog r := tab_cons (impl_portraitCode_is) (tab_cons (impl_length_impl_Angle_is) (tab_cons (impl_Angle_double_is) (tab_cons (impl_angle_is) (tab_cons (slices_Index__impl_Angle_impl_Angle_is) (tab_nil)))))
theorem impl_RotationNumber_l0_r : RoundIs (mkCtx Go.K.Link.seat impl_RotationNumber_c impl_RotationNumber_tab) (sums impl_RotationNumber_ls) 0 (bodyAt (loopsOf 0 impl_RotationNumber_code) 0) impl_RotationNumber_l0_s := by
  rintro ⟨sets, ⟨t2, ⟨a, ⟨t18, ⟨t19, _⟩⟩⟩⟩⟩
  show _ = (impl_RotationNumber_l0 (sets, (t2, (a, (t18, (t19, ())))))).bind fun r : (Ctl ((List (List (Int × (Int × Unit)))) × ((Int × (Int × Unit))) × ((Int × (Int × Unit))) × Int × Int × Unit) (((List (List (Int × (Int × Unit)))) × ((Int × (Int × Unit))) × ((Int × (Int × Unit))) × Unit))) => some (ctlVal impl_RotationNumber_l0_s r)
  simp only [impl_RotationNumber_l0, kb_ite, kb_some, kb_none, kb_bind, kb_alt]
  kernel_rfl
theorem impl_RotationNumber_rs : RoundsOK (mkCtx Go.K.Link.seat impl_RotationNumber_c impl_RotationNumber_tab) (sums impl_RotationNumber_ls) (loopsOf 0 impl_RotationNumber_code) impl_RotationNumber_ls := ⟨⟨rfl, rfl, impl_RotationNumber_l0_r⟩, trivial⟩
theorem impl_RotationNumber_e : ∀ v, (evFn (mkCtx Go.K.Link.seat impl_RotationNumber_c impl_RotationNumber_tab) (sums impl_RotationNumber_ls) 19 Go.Proofs.Try.f19 (encL impl_RotationNumber_s.a v)).run = (impl_RotationNumber_s.gen v).bind fun y => some (impl_RotationNumber_s.out y) := by
  rintro ⟨sets, _⟩
  show _ = (impl_RotationNumber sets).bind fun y : (Int × (Int × Unit)) × Int => some (impl_RotationNumber_s.out y)
  simp only [impl_RotationNumber, kb_ite, kb_some, kb_none, kb_bind, kb_alt]
  kernel_rfl
theorem impl_RotationNumber_is : FnIs Go.Proofs.Try.prog 19 (modeOf []) (phi [impl_RotationNumber_s]) := spec_is (c := impl_RotationNumber_c) seatOK impl_RotationNumber_t Go.Proofs.Try.func19 rfl (code := impl_RotationNumber_code) rfl rfl impl_RotationNumber_rs impl_RotationNumber_e
noncomputable def laws_FnExactRotationNumber_s : Spec := ⟨[.v (.sl 48 (.sl 42 (.pair (.int .i64) (.pair (.int .i64) (.unit))))) .fr], Bool, fun v => laws_FnExactRotationNumber v.1, fun r => ([.v (.bool) .fr r], [])⟩
noncomputable def laws_FnExactRotationNumber_ls : List LSum := []
noncomputable def laws_FnExactRotationNumber_tab : List Row := [⟨9, [], [laws_szAngleSS_s]⟩, ⟨11, [], [laws_toAngleSS_s]⟩, ⟨13, [], [laws_eqAngleSS_s]⟩, ⟨18, [], [spec_RotationNumber_s]⟩, ⟨19, [], [impl_RotationNumber_s]⟩, ⟨20, [], [laws_eqAngle_s]⟩]
theorem laws_FnExactRotationNumber_t : ∀ r, r ∈ laws_FnExactRotationNumber_tab → RowIs Go.Proofs.Try.prog r := tab_cons (laws_szAngleSS_is) (tab_cons (laws_toAngleSS_is) (tab_cons (laws_eqAngleSS_is) (tab_cons (spec_RotationNumber_is) (tab_cons (impl_RotationNumber_is) (tab_cons (laws_eqAngle_is) (tab_nil))))))
theorem laws_FnExactRotationNumber_rs : RoundsOK (mkCtx Go.K.Link.seat laws_FnExactRotationNumber_c laws_FnExactRotationNumber_tab) (sums laws_FnExactRotationNumber_ls) (loopsOf 0 laws_FnExactRotationNumber_code) laws_FnExactRotationNumber_ls := trivial
theorem laws_FnExactRotationNumber_e : ∀ v, (evFn (mkCtx Go.K.Link.seat laws_FnExactRotationNumber_c laws_FnExactRotationNumber_tab) (sums laws_FnExactRotationNumber_ls) 6 Go.Proofs.Try.f6 (encL laws_FnExactRotationNumber_s.a v)).run = (laws_FnExactRotationNumber_s.gen v).bind fun y => some (laws_FnExactRotationNumber_s.out y) := by
  rintro ⟨aSets, _⟩
  show _ = (laws_FnExactRotationNumber aSets).bind fun y : Bool => some (laws_FnExactRotationNumber_s.out y)
  simp only [laws_FnExactRotationNumber, kb_ite, kb_some, kb_none, kb_bind, kb_alt]
  kernel_rfl
theorem laws_FnExactRotationNumber_is : FnIs Go.Proofs.Try.prog 6 (modeOf []) (phi [laws_FnExactRotationNumber_s]) := spec_is (c := laws_FnExactRotationNumber_c) seatOK laws_FnExactRotationNumber_t Go.Proofs.Try.func6 rfl (code := laws_FnExactRotationNumber_code) rfl rfl laws_FnExactRotationNumber_rs laws_FnExactRotationNumber_e
end Go.K.Link
namespace Go.Proofs.Ytfdbhigklhinaaa
open Go.K Go.K.Link Go.RowKit
theorem Try.own : ownKnob Try.prog.godebug = none := by kernel_rfl
theorem Try.laidOut : laidOutB Try.prog = true := by kernel_rfl
end Go.Proofs.Ytfdbhigklhinaaa

