/- The program's EndClasses returns what the reference's returns, for all arguments: the statement FnExactEndClassesSaid; no condition. -/
import Derived.Test.YtcipifnjcfboeaaP1
import Derived.Test.YtcipifnjcfboeaaK3
import Derived.Test.YtcipifnjcfboeaaRows
import Derived.Shelf.Lay
import Derived.Ground.SlsfProg
set_option linter.all false
set_option maxRecDepth 100000
set_option linter.all false
namespace Go.Proofs
open Go.Shelf
def Try.sortL55_ren : Go.Shelf.Ren := ⟨fun | 6 => 55 | 15 => 61 | 14 => 60 | 28 => 70 | 29 => 71 | 20 => 62 | 21 => 63 | 22 => 64 | 23 => 65 | 24 => 66 | 25 => 67 | 26 => 68 | 27 => 69 | 46 => 72 | 47 => 73 | 48 => 74 | 49 => 75 | 50 => 76 | 57 => 77 | n => n, fun | 22 => 44 | 24 => 37 | 25 => 68 | 3 => 3 | 39 => 80 | 0 => 0 | 53 => 90 | 55 => 92 | 4 => 4 | 46 => 83 | 45 => 82 | 50 => 87 | 5 => 5 | 9 => 9 | 66 => 93 | 70 => 97 | 76 => 99 | 77 => 100 | n => n, fun | n => n⟩
theorem Try.sortL55 : Go.Proofs.SlLaysF0.n6 Try.prog Try.sortL55_ren := {
  mixed := by kernel_rfl
  f6 := ⟨ "slices.SortFunc[[]loop.example/g01234/impl.Angle,loop.example/g01234/impl.Angle]", by decide, Try.func55.trans (congrArg some (by kernel_rfl))⟩
  f14 := ⟨ "slices.pdqsortCmpFunc[loop.example/g01234/impl.Angle]", by decide, Try.func60.trans (congrArg some (by kernel_rfl))⟩
  f15 := Try.func61.trans (congrArg some (by kernel_rfl))
  f20 := ⟨ "slices.insertionSortCmpFunc[loop.example/g01234/impl.Angle]", by decide, Try.func62.trans (congrArg some (by kernel_rfl))⟩
  f21 := ⟨ "slices.heapSortCmpFunc[loop.example/g01234/impl.Angle]", by decide, Try.func63.trans (congrArg some (by kernel_rfl))⟩
  f22 := ⟨ "slices.breakPatternsCmpFunc[loop.example/g01234/impl.Angle]", by decide, Try.func64.trans (congrArg some (by kernel_rfl))⟩
  f23 := ⟨ "slices.choosePivotCmpFunc[loop.example/g01234/impl.Angle]", by decide, Try.func65.trans (congrArg some (by kernel_rfl))⟩
  f24 := ⟨ "slices.reverseRangeCmpFunc[loop.example/g01234/impl.Angle]", by decide, Try.func66.trans (congrArg some (by kernel_rfl))⟩
  f25 := ⟨ "slices.partialInsertionSortCmpFunc[loop.example/g01234/impl.Angle]", by decide, Try.func67.trans (congrArg some (by kernel_rfl))⟩
  f26 := ⟨ "slices.partitionEqualCmpFunc[loop.example/g01234/impl.Angle]", by decide, Try.func68.trans (congrArg some (by kernel_rfl))⟩
  f27 := ⟨ "slices.partitionCmpFunc[loop.example/g01234/impl.Angle]", by decide, Try.func69.trans (congrArg some (by kernel_rfl))⟩
  f28 := Try.func70.trans (congrArg some (by kernel_rfl))
  f29 := Try.func71.trans (congrArg some (by kernel_rfl))
  f46 := ⟨ "slices.siftDownCmpFunc[loop.example/g01234/impl.Angle]", by decide, Try.func72.trans (congrArg some (by kernel_rfl))⟩
  f47 := Try.func73.trans (congrArg some (by kernel_rfl))
  f48 := Try.func74.trans (congrArg some (by kernel_rfl))
  f49 := ⟨ "slices.medianAdjacentCmpFunc[loop.example/g01234/impl.Angle]", by decide, Try.func75.trans (congrArg some (by kernel_rfl))⟩
  f50 := ⟨ "slices.medianCmpFunc[loop.example/g01234/impl.Angle]", by decide, Try.func76.trans (congrArg some (by kernel_rfl))⟩
  f57 := ⟨ "slices.order2CmpFunc[loop.example/g01234/impl.Angle]", by decide, Try.func77.trans (congrArg some (by kernel_rfl))⟩
  t0 := Try.underlying0
  a0 := Try.isAgg0
  z0 := Try.sizeOf0
  v0 := Try.zeroValue0
  t3 := Try.underlying3
  a3 := Try.isAgg3
  z3 := Try.sizeOf3
  v3 := Try.zeroValue3
  t4 := Try.underlying4
  a4 := Try.isAgg4
  z4 := Try.sizeOf4
  v4 := Try.zeroValue4
  t5 := Try.underlying5
  a5 := Try.isAgg5
  z5 := Try.sizeOf5
  v5 := Try.zeroValue5
  t9 := Try.underlying9
  a9 := Try.isAgg9
  z9 := Try.sizeOf9
  v9 := Try.zeroValue9
  t22 := Try.underlying44
  a22 := Try.isAgg44
  z22 := Try.sizeOf44
  v22 := Try.zeroValue44
  t25 := Try.underlying68
  a25 := Try.isAgg68
  z25 := Try.sizeOf68
  v25 := Try.zeroValue68
  t39 := Try.underlying80
  a39 := Try.isAgg80
  z39 := Try.sizeOf80
  v39 := Try.zeroValue80
  t45 := Try.underlying82
  a45 := Try.isAgg82
  z45 := Try.sizeOf82
  v45 := Try.zeroValue82
  t46 := Try.underlying83
  a46 := Try.isAgg83
  z46 := Try.sizeOf83
  v46 := Try.zeroValue83
  t50 := Try.underlying87
  a50 := Try.isAgg87
  z50 := Try.sizeOf87
  v50 := Try.zeroValue87
  t53 := Try.underlying90
  a53 := Try.isAgg90
  z53 := Try.sizeOf90
  v53 := Try.zeroValue90
  t55 := Try.underlying92
  a55 := Try.isAgg92
  z55 := Try.sizeOf92
  v55 := Try.zeroValue92
  t66 := Try.underlying93
  a66 := Try.isAgg93
  z66 := Try.sizeOf93
  v66 := Try.zeroValue93
  t70 := Try.underlying97
  a70 := Try.isAgg97
  z70 := Try.sizeOf97
  v70 := Try.zeroValue97
  t76 := Try.underlying99
  a76 := Try.isAgg99
  z76 := Try.sizeOf99
  v76 := Try.zeroValue99
  t77 := Try.underlying100
  a77 := Try.isAgg100
  z77 := Try.sizeOf100
  v77 := Try.zeroValue100 }
end Go.Proofs
namespace Go.K.Link
open Go.K.Pure
def tyList : List (Nat × Ty) := [(2, .int .i64), (3, .int .i64), (4, .bool), (5, .int .u8), (6, .int .u8), (7, .pair (.int .i64) (.pair (.int .i64) (.pair (.bool) (.pair (.int .u8) (.unit))))), (8, .pair (.int .i64) (.pair (.int .i64) (.pair (.bool) (.pair (.int .u8) (.unit))))), (9, .str), (10, .str), (11, .str), (12, .int .u64), (21, .int .i32), (22, .sl 43 (.pair (.pair (.int .i64) (.pair (.int .i64) (.unit))) (.pair (.pair (.int .i64) (.pair (.int .i64) (.unit))) (.unit)))), (24, .sl 44 (.sl 37 (.pair (.int .i64) (.pair (.int .i64) (.unit))))), (27, .sl 39 (.pair (.pair (.int .i64) (.pair (.int .i64) (.unit))) (.pair (.pair (.int .i64) (.pair (.int .i64) (.unit))) (.unit)))), (36, .pair (.int .i64) (.pair (.int .i64) (.unit))), (37, .pair (.int .i64) (.pair (.int .i64) (.unit))), (38, .pair (.pair (.int .i64) (.pair (.int .i64) (.unit))) (.pair (.pair (.int .i64) (.pair (.int .i64) (.unit))) (.unit))), (39, .pair (.pair (.int .i64) (.pair (.int .i64) (.unit))) (.pair (.pair (.int .i64) (.pair (.int .i64) (.unit))) (.unit))), (41, .pair (.int .i64) (.pair (.int .i64) (.unit))), (42, .pair (.pair (.int .i64) (.pair (.int .i64) (.unit))) (.pair (.pair (.int .i64) (.pair (.int .i64) (.unit))) (.unit))), (43, .pair (.pair (.int .i64) (.pair (.int .i64) (.unit))) (.pair (.pair (.int .i64) (.pair (.int .i64) (.unit))) (.unit))), (44, .sl 37 (.pair (.int .i64) (.pair (.int .i64) (.unit)))), (46, .sl 3 (.int .i64)), (80, .int .u64), (82, .int .i64), (90, .int .u32), (92, .int .u64), (93, .int .u64), (97, .ptr (.int .i64)), (99, .ptr (.int .u64)), (109, .int .u8), (110, .int .u8), (112, .ptr (.int .u8)), (113, .int .i32), (114, .int .i32)]
def byList : List (Nat × Nat) := [(22, 32), (24, 24), (27, 32), (44, 16), (46, 8)]
def ftyList : List Nat := [1, 23, 26, 28, 29, 30, 31, 32, 33, 34, 35, 40, 45, 47, 48, 49, 50, 51, 52, 53, 54, 55, 56, 57, 58, 59, 60, 61, 62, 63, 64, 65, 66, 67, 68, 69, 70, 71, 72, 73, 74, 75, 76, 77, 78, 79, 81, 84, 85, 86, 88, 89, 91, 94, 95, 96, 98, 101, 102, 108, 111, 117]
def etList : List (Nat × Nat) := [(22, 43), (24, 44), (27, 39), (44, 37), (46, 3)]
def fieldList : List (Nat × List Nat) := [(7, [2, 3, 4, 6]), (8, [2, 3, 4, 6]), (13, [9, 12]), (14, [9, 12]), (18, [17]), (19, [17]), (36, [2, 2]), (37, [2, 2]), (38, [37, 37]), (39, [37, 37]), (41, [2, 2]), (42, [41, 41]), (43, [41, 41]), (103, [17, 17, 17, 9]), (104, [17, 17, 17, 9]), (106, [105]), (107, [105]), (115, [12, 12, 90, 109, 5, 5, 110, 111, 112, 113, 114]), (116, [12, 12, 90, 109, 5, 5, 110, 111, 112, 113, 114])]
def seat : Seat := seatOf tyList byList ftyList fieldList etList
theorem seatOK : SeatOK Go.Proofs.Try.prog seat := seat_ok (by kernel_rfl) (by kernel_rfl) (by kernel_rfl) (by kernel_rfl)
noncomputable def laws_FnExactEndClasses_code : Code := (Go.Proofs.Try.f3.body).getD .skip
def laws_FnExactEndClasses_c : Cfg := ⟨3, [], [], [], []⟩
noncomputable def laws_szLeafS_code : Code := (Go.Proofs.Try.f4.body).getD .skip
def laws_szLeafS_c : Cfg := ⟨4, [], [], [], []⟩
noncomputable def laws_szLeafS_s : Spec := ⟨[.v (.sl 43 (.pair (.pair (.int .i64) (.pair (.int .i64) (.unit))) (.pair (.pair (.int .i64) (.pair (.int .i64) (.unit))) (.unit)))) .fr, .v (.int .i64) .fr], Int, fun v => laws_szLeafS v.1 v.2.1, fun r => ([.v (.int .i64) .fr r], [])⟩
noncomputable def laws_szLeafS_ls : List LSum := []
noncomputable def laws_szLeafS_tab : List Row := []
theorem laws_szLeafS_t : ∀ r, r ∈ laws_szLeafS_tab → RowIs Go.Proofs.Try.prog r := tab_nil
theorem laws_szLeafS_rs : RoundsOK (mkCtx Go.K.Link.seat laws_szLeafS_c laws_szLeafS_tab) (sums laws_szLeafS_ls) (loopsOf 0 laws_szLeafS_code) laws_szLeafS_ls := trivial
theorem laws_szLeafS_e : ∀ v, (evFn (mkCtx Go.K.Link.seat laws_szLeafS_c laws_szLeafS_tab) (sums laws_szLeafS_ls) 4 Go.Proofs.Try.f4 (encL laws_szLeafS_s.a v)).run = (laws_szLeafS_s.gen v).bind fun y => some (laws_szLeafS_s.out y) := by
  rintro ⟨a, ⟨left, _⟩⟩
  show _ = (laws_szLeafS a left).bind fun y : Int => some (laws_szLeafS_s.out y)
  simp only [laws_szLeafS, kb_ite, kb_some, kb_none, kb_bind, kb_alt]
  kernel_rfl
theorem laws_szLeafS_is : FnIs Go.Proofs.Try.prog 4 (modeOf []) (phi [laws_szLeafS_s]) := spec_is (c := laws_szLeafS_c) seatOK laws_szLeafS_t Go.Proofs.Try.func4 rfl (code := laws_szLeafS_code) rfl rfl laws_szLeafS_rs laws_szLeafS_e
noncomputable def laws_toLeafS_code : Code := (Go.Proofs.Try.f6.body).getD .skip
def laws_toLeafS_c : Cfg := ⟨6, [], [[0, 3, 4, 7], [3, 7], [2, 3, 7, 22]], [], []⟩
noncomputable def laws_toLeaf_code : Code := (Go.Proofs.Try.f15.body).getD .skip
def laws_toLeaf_c : Cfg := ⟨15, [], [], [], []⟩
noncomputable def laws_toAngle_code : Code := (Go.Proofs.Try.f28.body).getD .skip
def laws_toAngle_c : Cfg := ⟨28, [], [], [], []⟩
noncomputable def laws_toAngle_s : Spec := ⟨[.v (.pair (.int .i64) (.pair (.int .i64) (.unit))) .fr], (Int × (Int × Unit)), fun v => laws_toAngle v.1, fun r => ([.v (.pair (.int .i64) (.pair (.int .i64) (.unit))) .fr r], [])⟩
noncomputable def laws_toAngle_ls : List LSum := []
noncomputable def laws_toAngle_tab : List Row := []
theorem laws_toAngle_t : ∀ r, r ∈ laws_toAngle_tab → RowIs Go.Proofs.Try.prog r := tab_nil
theorem laws_toAngle_rs : RoundsOK (mkCtx Go.K.Link.seat laws_toAngle_c laws_toAngle_tab) (sums laws_toAngle_ls) (loopsOf 0 laws_toAngle_code) laws_toAngle_ls := trivial
theorem laws_toAngle_e : ∀ v, (evFn (mkCtx Go.K.Link.seat laws_toAngle_c laws_toAngle_tab) (sums laws_toAngle_ls) 28 Go.Proofs.Try.f28 (encL laws_toAngle_s.a v)).run = (laws_toAngle_s.gen v).bind fun y => some (laws_toAngle_s.out y) := by
  rintro ⟨a, _⟩
  show _ = (laws_toAngle a).bind fun y : (Int × (Int × Unit)) => some (laws_toAngle_s.out y)
  simp only [laws_toAngle, kb_ite, kb_some, kb_none, kb_bind, kb_alt]
  kernel_rfl
theorem laws_toAngle_is : FnIs Go.Proofs.Try.prog 28 (modeOf []) (phi [laws_toAngle_s]) := spec_is (c := laws_toAngle_c) seatOK laws_toAngle_t Go.Proofs.Try.func28 rfl (code := laws_toAngle_code) rfl rfl laws_toAngle_rs laws_toAngle_e
noncomputable def laws_toLeaf_s : Spec := ⟨[.v (.pair (.pair (.int .i64) (.pair (.int .i64) (.unit))) (.pair (.pair (.int .i64) (.pair (.int .i64) (.unit))) (.unit))) .fr], ((Int × (Int × Unit)) × ((Int × (Int × Unit)) × Unit)), fun v => laws_toLeaf v.1, fun r => ([.v (.pair (.pair (.int .i64) (.pair (.int .i64) (.unit))) (.pair (.pair (.int .i64) (.pair (.int .i64) (.unit))) (.unit))) .fr r], [])⟩
noncomputable def laws_toLeaf_ls : List LSum := []
noncomputable def laws_toLeaf_tab : List Row := [⟨28, [], [laws_toAngle_s]⟩]
theorem laws_toLeaf_t : ∀ r, r ∈ laws_toLeaf_tab → RowIs Go.Proofs.Try.prog r := tab_cons (laws_toAngle_is) (tab_nil)
theorem laws_toLeaf_rs : RoundsOK (mkCtx Go.K.Link.seat laws_toLeaf_c laws_toLeaf_tab) (sums laws_toLeaf_ls) (loopsOf 0 laws_toLeaf_code) laws_toLeaf_ls := trivial
theorem laws_toLeaf_e : ∀ v, (evFn (mkCtx Go.K.Link.seat laws_toLeaf_c laws_toLeaf_tab) (sums laws_toLeaf_ls) 15 Go.Proofs.Try.f15 (encL laws_toLeaf_s.a v)).run = (laws_toLeaf_s.gen v).bind fun y => some (laws_toLeaf_s.out y) := by
  rintro ⟨a, _⟩
  show _ = (laws_toLeaf a).bind fun y : ((Int × (Int × Unit)) × ((Int × (Int × Unit)) × Unit)) => some (laws_toLeaf_s.out y)
  simp only [laws_toLeaf, kb_ite, kb_some, kb_none, kb_bind, kb_alt]
  kernel_rfl
theorem laws_toLeaf_is : FnIs Go.Proofs.Try.prog 15 (modeOf []) (phi [laws_toLeaf_s]) := spec_is (c := laws_toLeaf_c) seatOK laws_toLeaf_t Go.Proofs.Try.func15 rfl (code := laws_toLeaf_code) rfl rfl laws_toLeaf_rs laws_toLeaf_e
noncomputable def laws_toLeafS_l0_s : LSum := ⟨0, ⟨[(0, .val (.sl 43 (.pair (.pair (.int .i64) (.pair (.int .i64) (.unit))) (.pair (.pair (.int .i64) (.pair (.int .i64) (.unit))) (.unit)))) .fr), (2, .val (.sl 39 (.pair (.pair (.int .i64) (.pair (.int .i64) (.unit))) (.pair (.pair (.int .i64) (.pair (.int .i64) (.unit))) (.unit)))) (.own .fr)), (0, .val (.int .i64) .fr)], 18⟩, (.exit 0, ⟨[(3, .val (.sl 39 (.pair (.pair (.int .i64) (.pair (.int .i64) (.unit))) (.pair (.pair (.int .i64) (.pair (.int .i64) (.unit))) (.unit)))) (.own .fr))], 19⟩), [], laws_toLeafS_l0⟩
noncomputable def laws_toLeafS_s : Spec := ⟨[.v (.sl 43 (.pair (.pair (.int .i64) (.pair (.int .i64) (.unit))) (.pair (.pair (.int .i64) (.pair (.int .i64) (.unit))) (.unit)))) .fr], (List ((Int × (Int × Unit)) × ((Int × (Int × Unit)) × Unit))), fun v => laws_toLeafS v.1, fun r => ([.v (.sl 39 (.pair (.pair (.int .i64) (.pair (.int .i64) (.unit))) (.pair (.pair (.int .i64) (.pair (.int .i64) (.unit))) (.unit)))) (.own .fr) r], [])⟩
noncomputable def laws_toLeafS_ls : List LSum := [laws_toLeafS_l0_s]
noncomputable def laws_toLeafS_tab : List Row := [⟨15, [], [laws_toLeaf_s]⟩]
theorem laws_toLeafS_t : ∀ r, r ∈ laws_toLeafS_tab → RowIs Go.Proofs.Try.prog r := tab_cons (laws_toLeaf_is) (tab_nil)
theorem laws_toLeafS_l0_r : RoundIs (mkCtx Go.K.Link.seat laws_toLeafS_c laws_toLeafS_tab) (sums laws_toLeafS_ls) 0 (bodyAt (loopsOf 0 laws_toLeafS_code) 0) laws_toLeafS_l0_s := by
  rintro ⟨a, ⟨out, ⟨i, _⟩⟩⟩
  show _ = (laws_toLeafS_l0 (a, (out, (i, ())))).bind fun r : (Ctl ((List ((Int × (Int × Unit)) × ((Int × (Int × Unit)) × Unit))) × (List ((Int × (Int × Unit)) × ((Int × (Int × Unit)) × Unit))) × Int × Unit) (((List ((Int × (Int × Unit)) × ((Int × (Int × Unit)) × Unit))) × Unit))) => some (ctlVal laws_toLeafS_l0_s r)
  simp only [laws_toLeafS_l0, kb_ite, kb_some, kb_none, kb_bind, kb_alt]
  kernel_rfl
theorem laws_toLeafS_rs : RoundsOK (mkCtx Go.K.Link.seat laws_toLeafS_c laws_toLeafS_tab) (sums laws_toLeafS_ls) (loopsOf 0 laws_toLeafS_code) laws_toLeafS_ls := ⟨⟨rfl, rfl, laws_toLeafS_l0_r⟩, trivial⟩
theorem laws_toLeafS_e : ∀ v, (evFn (mkCtx Go.K.Link.seat laws_toLeafS_c laws_toLeafS_tab) (sums laws_toLeafS_ls) 6 Go.Proofs.Try.f6 (encL laws_toLeafS_s.a v)).run = (laws_toLeafS_s.gen v).bind fun y => some (laws_toLeafS_s.out y) := by
  rintro ⟨a, _⟩
  show _ = (laws_toLeafS a).bind fun y : (List ((Int × (Int × Unit)) × ((Int × (Int × Unit)) × Unit))) => some (laws_toLeafS_s.out y)
  simp only [laws_toLeafS, kb_ite, kb_some, kb_none, kb_bind, kb_alt]
  kernel_rfl
theorem laws_toLeafS_is : FnIs Go.Proofs.Try.prog 6 (modeOf []) (phi [laws_toLeafS_s]) := spec_is (c := laws_toLeafS_c) seatOK laws_toLeafS_t Go.Proofs.Try.func6 rfl (code := laws_toLeafS_code) rfl rfl laws_toLeafS_rs laws_toLeafS_e
noncomputable def spec_EndClasses_code : Code := (Go.Proofs.Try.f5.body).getD .skip
def spec_EndClasses_c : Cfg := ⟨5, [], [], [(2, (.own .fr)), (2, (.own .fr))], []⟩
noncomputable def spec_l03Lamination_code : Code := (Go.Proofs.Try.f13.body).getD .skip
def spec_l03Lamination_c : Cfg := ⟨13, [], [[0, 3], [], [2], [], [], [], [0, 3, 4], [0, 3], [2]], [], []⟩
noncomputable def spec_l03Is_code : Code := (Go.Proofs.Try.f23.body).getD .skip
def spec_l03Is_c : Cfg := ⟨23, [], [], [], []⟩
noncomputable def spec_l01Is_code : Code := (Go.Proofs.Try.f36.body).getD .skip
def spec_l01Is_c : Cfg := ⟨36, [], [], [], []⟩
noncomputable def spec_l01In_code : Code := (Go.Proofs.Try.f48.body).getD .skip
def spec_l01In_c : Cfg := ⟨48, [], [], [], []⟩
noncomputable def spec_l01In_s : Spec := ⟨[.v (.int .i64) .fr, .v (.int .i64) .fr, .v (.int .i64) .fr], Bool, fun v => spec_l01In v.1 v.2.1 v.2.2.1, fun r => ([.v (.bool) .fr r], [])⟩
noncomputable def spec_l01In_ls : List LSum := []
noncomputable def spec_l01In_tab : List Row := []
theorem spec_l01In_t : ∀ r, r ∈ spec_l01In_tab → RowIs Go.Proofs.Try.prog r := tab_nil
theorem spec_l01In_rs : RoundsOK (mkCtx Go.K.Link.seat spec_l01In_c spec_l01In_tab) (sums spec_l01In_ls) (loopsOf 0 spec_l01In_code) spec_l01In_ls := trivial
theorem spec_l01In_e : ∀ v, (evFn (mkCtx Go.K.Link.seat spec_l01In_c spec_l01In_tab) (sums spec_l01In_ls) 48 Go.Proofs.Try.f48 (encL spec_l01In_s.a v)).run = (spec_l01In_s.gen v).bind fun y => some (spec_l01In_s.out y) := by
  rintro ⟨n, ⟨low, ⟨high, _⟩⟩⟩
  show _ = (spec_l01In n low high).bind fun y : Bool => some (spec_l01In_s.out y)
  simp only [spec_l01In, kb_ite, kb_some, kb_none, kb_bind, kb_alt]
  kernel_rfl
theorem spec_l01In_is : FnIs Go.Proofs.Try.prog 48 (modeOf []) (phi [spec_l01In_s]) := spec_is (c := spec_l01In_c) seatOK spec_l01In_t Go.Proofs.Try.func48 rfl (code := spec_l01In_code) rfl rfl spec_l01In_rs spec_l01In_e
noncomputable def spec_l01Divisor_code : Code := (Go.Proofs.Try.f49.body).getD .skip
def spec_l01Divisor_c : Cfg := ⟨49, [], [[0, 1], [0], [4]], [], []⟩
noncomputable def spec_l01Divisor_l0_s : LSum := ⟨0, ⟨[(0, .val (.int .i64) .fr), (0, .val (.int .i64) .fr)], 12⟩, (.exit 0, ⟨[(0, .val (.int .i64) .fr)], 13⟩), [], spec_l01Divisor_l0⟩
noncomputable def spec_l01Divisor_s : Spec := ⟨[.v (.int .i64) .fr, .v (.int .i64) .fr], Int, fun v => spec_l01Divisor v.1 v.2.1, fun r => ([.v (.int .i64) .fr r], [])⟩
noncomputable def spec_l01Divisor_ls : List LSum := [spec_l01Divisor_l0_s]
noncomputable def spec_l01Divisor_tab : List Row := []
theorem spec_l01Divisor_t : ∀ r, r ∈ spec_l01Divisor_tab → RowIs Go.Proofs.Try.prog r := tab_nil
theorem spec_l01Divisor_l0_r : RoundIs (mkCtx Go.K.Link.seat spec_l01Divisor_c spec_l01Divisor_tab) (sums spec_l01Divisor_ls) 0 (bodyAt (loopsOf 0 spec_l01Divisor_code) 0) spec_l01Divisor_l0_s := by
  rintro ⟨a, ⟨b, _⟩⟩
  show _ = (spec_l01Divisor_l0 (a, (b, ()))).bind fun r : (Ctl (Int × Int × Unit) ((Int × Unit))) => some (ctlVal spec_l01Divisor_l0_s r)
  simp only [spec_l01Divisor_l0, kb_ite, kb_some, kb_none, kb_bind, kb_alt]
  kernel_rfl
theorem spec_l01Divisor_rs : RoundsOK (mkCtx Go.K.Link.seat spec_l01Divisor_c spec_l01Divisor_tab) (sums spec_l01Divisor_ls) (loopsOf 0 spec_l01Divisor_code) spec_l01Divisor_ls := ⟨⟨rfl, rfl, spec_l01Divisor_l0_r⟩, trivial⟩
theorem spec_l01Divisor_e : ∀ v, (evFn (mkCtx Go.K.Link.seat spec_l01Divisor_c spec_l01Divisor_tab) (sums spec_l01Divisor_ls) 49 Go.Proofs.Try.f49 (encL spec_l01Divisor_s.a v)).run = (spec_l01Divisor_s.gen v).bind fun y => some (spec_l01Divisor_s.out y) := by
  rintro ⟨a, ⟨b, _⟩⟩
  show _ = (spec_l01Divisor a b).bind fun y : Int => some (spec_l01Divisor_s.out y)
  simp only [spec_l01Divisor, kb_ite, kb_some, kb_none, kb_bind, kb_alt]
  kernel_rfl
theorem spec_l01Divisor_is : FnIs Go.Proofs.Try.prog 49 (modeOf []) (phi [spec_l01Divisor_s]) := spec_is (c := spec_l01Divisor_c) seatOK spec_l01Divisor_t Go.Proofs.Try.func49 rfl (code := spec_l01Divisor_code) rfl rfl spec_l01Divisor_rs spec_l01Divisor_e
noncomputable def spec_l01Is_s : Spec := ⟨[.v (.pair (.int .i64) (.pair (.int .i64) (.unit))) .fr], Bool, fun v => spec_l01Is v.1, fun r => ([.v (.bool) .fr r], [])⟩
noncomputable def spec_l01Is_ls : List LSum := []
noncomputable def spec_l01Is_tab : List Row := [⟨48, [], [spec_l01In_s]⟩, ⟨49, [], [spec_l01Divisor_s]⟩]
theorem spec_l01Is_t : ∀ r, r ∈ spec_l01Is_tab → RowIs Go.Proofs.Try.prog r := tab_cons (spec_l01In_is) (tab_cons (spec_l01Divisor_is) (tab_nil))
theorem spec_l01Is_rs : RoundsOK (mkCtx Go.K.Link.seat spec_l01Is_c spec_l01Is_tab) (sums spec_l01Is_ls) (loopsOf 0 spec_l01Is_code) spec_l01Is_ls := trivial
theorem spec_l01Is_e : ∀ v, (evFn (mkCtx Go.K.Link.seat spec_l01Is_c spec_l01Is_tab) (sums spec_l01Is_ls) 36 Go.Proofs.Try.f36 (encL spec_l01Is_s.a v)).run = (spec_l01Is_s.gen v).bind fun y => some (spec_l01Is_s.out y) := by
  rintro ⟨a, _⟩
  show _ = (spec_l01Is a).bind fun y : Bool => some (spec_l01Is_s.out y)
  simp only [spec_l01Is, kb_ite, kb_some, kb_none, kb_bind, kb_alt]
  kernel_rfl
theorem spec_l01Is_is : FnIs Go.Proofs.Try.prog 36 (modeOf []) (phi [spec_l01Is_s]) := spec_is (c := spec_l01Is_c) seatOK spec_l01Is_t Go.Proofs.Try.func36 rfl (code := spec_l01Is_code) rfl rfl spec_l01Is_rs spec_l01Is_e
noncomputable def spec_l01Less_code : Code := (Go.Proofs.Try.f37.body).getD .skip
def spec_l01Less_c : Cfg := ⟨37, [], [], [], []⟩
noncomputable def spec_l01Less_s : Spec := ⟨[.v (.pair (.int .i64) (.pair (.int .i64) (.unit))) .fr, .v (.pair (.int .i64) (.pair (.int .i64) (.unit))) .fr], Bool, fun v => spec_l01Less v.1 v.2.1, fun r => ([.v (.bool) .fr r], [])⟩
noncomputable def spec_l01Less_ls : List LSum := []
noncomputable def spec_l01Less_tab : List Row := []
theorem spec_l01Less_t : ∀ r, r ∈ spec_l01Less_tab → RowIs Go.Proofs.Try.prog r := tab_nil
theorem spec_l01Less_rs : RoundsOK (mkCtx Go.K.Link.seat spec_l01Less_c spec_l01Less_tab) (sums spec_l01Less_ls) (loopsOf 0 spec_l01Less_code) spec_l01Less_ls := trivial
theorem spec_l01Less_e : ∀ v, (evFn (mkCtx Go.K.Link.seat spec_l01Less_c spec_l01Less_tab) (sums spec_l01Less_ls) 37 Go.Proofs.Try.f37 (encL spec_l01Less_s.a v)).run = (spec_l01Less_s.gen v).bind fun y => some (spec_l01Less_s.out y) := by
  rintro ⟨a, ⟨b, _⟩⟩
  show _ = (spec_l01Less a b).bind fun y : Bool => some (spec_l01Less_s.out y)
  simp only [spec_l01Less, kb_ite, kb_some, kb_none, kb_bind, kb_alt]
  kernel_rfl
theorem spec_l01Less_is : FnIs Go.Proofs.Try.prog 37 (modeOf []) (phi [spec_l01Less_s]) := spec_is (c := spec_l01Less_c) seatOK spec_l01Less_t Go.Proofs.Try.func37 rfl (code := spec_l01Less_code) rfl rfl spec_l01Less_rs spec_l01Less_e
noncomputable def spec_l03Is_s : Spec := ⟨[.v (.pair (.pair (.int .i64) (.pair (.int .i64) (.unit))) (.pair (.pair (.int .i64) (.pair (.int .i64) (.unit))) (.unit))) .fr], Bool, fun v => spec_l03Is v.1, fun r => ([.v (.bool) .fr r], [])⟩
noncomputable def spec_l03Is_ls : List LSum := []
noncomputable def spec_l03Is_tab : List Row := [⟨36, [], [spec_l01Is_s]⟩, ⟨37, [], [spec_l01Less_s]⟩]
theorem spec_l03Is_t : ∀ r, r ∈ spec_l03Is_tab → RowIs Go.Proofs.Try.prog r := tab_cons (spec_l01Is_is) (tab_cons (spec_l01Less_is) (tab_nil))
theorem spec_l03Is_rs : RoundsOK (mkCtx Go.K.Link.seat spec_l03Is_c spec_l03Is_tab) (sums spec_l03Is_ls) (loopsOf 0 spec_l03Is_code) spec_l03Is_ls := trivial
theorem spec_l03Is_e : ∀ v, (evFn (mkCtx Go.K.Link.seat spec_l03Is_c spec_l03Is_tab) (sums spec_l03Is_ls) 23 Go.Proofs.Try.f23 (encL spec_l03Is_s.a v)).run = (spec_l03Is_s.gen v).bind fun y => some (spec_l03Is_s.out y) := by
  rintro ⟨l, _⟩
  show _ = (spec_l03Is l).bind fun y : Bool => some (spec_l03Is_s.out y)
  simp only [spec_l03Is, kb_ite, kb_some, kb_none, kb_bind, kb_alt]
  kernel_rfl
theorem spec_l03Is_is : FnIs Go.Proofs.Try.prog 23 (modeOf []) (phi [spec_l03Is_s]) := spec_is (c := spec_l03Is_c) seatOK spec_l03Is_t Go.Proofs.Try.func23 rfl (code := spec_l03Is_code) rfl rfl spec_l03Is_rs spec_l03Is_e
noncomputable def spec_l03Less_code : Code := (Go.Proofs.Try.f24.body).getD .skip
def spec_l03Less_c : Cfg := ⟨24, [], [], [], []⟩
noncomputable def spec_l03Less_s : Spec := ⟨[.v (.pair (.pair (.int .i64) (.pair (.int .i64) (.unit))) (.pair (.pair (.int .i64) (.pair (.int .i64) (.unit))) (.unit))) .fr, .v (.pair (.pair (.int .i64) (.pair (.int .i64) (.unit))) (.pair (.pair (.int .i64) (.pair (.int .i64) (.unit))) (.unit))) .fr], Bool, fun v => spec_l03Less v.1 v.2.1, fun r => ([.v (.bool) .fr r], [])⟩
noncomputable def spec_l03Less_ls : List LSum := []
noncomputable def spec_l03Less_tab : List Row := [⟨37, [], [spec_l01Less_s]⟩]
theorem spec_l03Less_t : ∀ r, r ∈ spec_l03Less_tab → RowIs Go.Proofs.Try.prog r := tab_cons (spec_l01Less_is) (tab_nil)
theorem spec_l03Less_rs : RoundsOK (mkCtx Go.K.Link.seat spec_l03Less_c spec_l03Less_tab) (sums spec_l03Less_ls) (loopsOf 0 spec_l03Less_code) spec_l03Less_ls := trivial
theorem spec_l03Less_e : ∀ v, (evFn (mkCtx Go.K.Link.seat spec_l03Less_c spec_l03Less_tab) (sums spec_l03Less_ls) 24 Go.Proofs.Try.f24 (encL spec_l03Less_s.a v)).run = (spec_l03Less_s.gen v).bind fun y => some (spec_l03Less_s.out y) := by
  rintro ⟨l, ⟨m, _⟩⟩
  show _ = (spec_l03Less l m).bind fun y : Bool => some (spec_l03Less_s.out y)
  simp only [spec_l03Less, kb_ite, kb_some, kb_none, kb_bind, kb_alt]
  kernel_rfl
theorem spec_l03Less_is : FnIs Go.Proofs.Try.prog 24 (modeOf []) (phi [spec_l03Less_s]) := spec_is (c := spec_l03Less_c) seatOK spec_l03Less_t Go.Proofs.Try.func24 rfl (code := spec_l03Less_code) rfl rfl spec_l03Less_rs spec_l03Less_e
noncomputable def spec_l03Cross_code : Code := (Go.Proofs.Try.f25.body).getD .skip
def spec_l03Cross_c : Cfg := ⟨25, [], [], [], []⟩
noncomputable def spec_l01Within_code : Code := (Go.Proofs.Try.f38.body).getD .skip
def spec_l01Within_c : Cfg := ⟨38, [], [], [], []⟩
noncomputable def spec_l01Within_s : Spec := ⟨[.v (.pair (.int .i64) (.pair (.int .i64) (.unit))) .fr, .v (.pair (.int .i64) (.pair (.int .i64) (.unit))) .fr, .v (.pair (.int .i64) (.pair (.int .i64) (.unit))) .fr], Bool, fun v => spec_l01Within v.1 v.2.1 v.2.2.1, fun r => ([.v (.bool) .fr r], [])⟩
noncomputable def spec_l01Within_ls : List LSum := []
noncomputable def spec_l01Within_tab : List Row := [⟨37, [], [spec_l01Less_s]⟩]
theorem spec_l01Within_t : ∀ r, r ∈ spec_l01Within_tab → RowIs Go.Proofs.Try.prog r := tab_cons (spec_l01Less_is) (tab_nil)
theorem spec_l01Within_rs : RoundsOK (mkCtx Go.K.Link.seat spec_l01Within_c spec_l01Within_tab) (sums spec_l01Within_ls) (loopsOf 0 spec_l01Within_code) spec_l01Within_ls := trivial
theorem spec_l01Within_e : ∀ v, (evFn (mkCtx Go.K.Link.seat spec_l01Within_c spec_l01Within_tab) (sums spec_l01Within_ls) 38 Go.Proofs.Try.f38 (encL spec_l01Within_s.a v)).run = (spec_l01Within_s.gen v).bind fun y => some (spec_l01Within_s.out y) := by
  rintro ⟨x, ⟨a, ⟨b, _⟩⟩⟩
  show _ = (spec_l01Within x a b).bind fun y : Bool => some (spec_l01Within_s.out y)
  simp only [spec_l01Within, kb_ite, kb_some, kb_none, kb_bind, kb_alt]
  kernel_rfl
theorem spec_l01Within_is : FnIs Go.Proofs.Try.prog 38 (modeOf []) (phi [spec_l01Within_s]) := spec_is (c := spec_l01Within_c) seatOK spec_l01Within_t Go.Proofs.Try.func38 rfl (code := spec_l01Within_code) rfl rfl spec_l01Within_rs spec_l01Within_e
noncomputable def spec_l03Cross_s : Spec := ⟨[.v (.pair (.pair (.int .i64) (.pair (.int .i64) (.unit))) (.pair (.pair (.int .i64) (.pair (.int .i64) (.unit))) (.unit))) .fr, .v (.pair (.pair (.int .i64) (.pair (.int .i64) (.unit))) (.pair (.pair (.int .i64) (.pair (.int .i64) (.unit))) (.unit))) .fr], Bool, fun v => spec_l03Cross v.1 v.2.1, fun r => ([.v (.bool) .fr r], [])⟩
noncomputable def spec_l03Cross_ls : List LSum := []
noncomputable def spec_l03Cross_tab : List Row := [⟨38, [], [spec_l01Within_s]⟩]
theorem spec_l03Cross_t : ∀ r, r ∈ spec_l03Cross_tab → RowIs Go.Proofs.Try.prog r := tab_cons (spec_l01Within_is) (tab_nil)
theorem spec_l03Cross_rs : RoundsOK (mkCtx Go.K.Link.seat spec_l03Cross_c spec_l03Cross_tab) (sums spec_l03Cross_ls) (loopsOf 0 spec_l03Cross_code) spec_l03Cross_ls := trivial
theorem spec_l03Cross_e : ∀ v, (evFn (mkCtx Go.K.Link.seat spec_l03Cross_c spec_l03Cross_tab) (sums spec_l03Cross_ls) 25 Go.Proofs.Try.f25 (encL spec_l03Cross_s.a v)).run = (spec_l03Cross_s.gen v).bind fun y => some (spec_l03Cross_s.out y) := by
  rintro ⟨l, ⟨m, _⟩⟩
  show _ = (spec_l03Cross l m).bind fun y : Bool => some (spec_l03Cross_s.out y)
  simp only [spec_l03Cross, kb_ite, kb_some, kb_none, kb_bind, kb_alt]
  kernel_rfl
theorem spec_l03Cross_is : FnIs Go.Proofs.Try.prog 25 (modeOf []) (phi [spec_l03Cross_s]) := spec_is (c := spec_l03Cross_c) seatOK spec_l03Cross_t Go.Proofs.Try.func25 rfl (code := spec_l03Cross_code) rfl rfl spec_l03Cross_rs spec_l03Cross_e
noncomputable def spec_l03Lamination_l1_s : LSum := ⟨2, ⟨[(0, .val (.sl 39 (.pair (.pair (.int .i64) (.pair (.int .i64) (.unit))) (.pair (.pair (.int .i64) (.pair (.int .i64) (.unit))) (.unit)))) .fr), (2, .val (.int .i64) .fr), (0, .val (.int .i64) .fr)], 46⟩, (.ret, ⟨[(2, .val (.bool) .fr)], 48⟩), [(.exit 2, ⟨[(0, .val (.sl 39 (.pair (.pair (.int .i64) (.pair (.int .i64) (.unit))) (.pair (.pair (.int .i64) (.pair (.int .i64) (.unit))) (.unit)))) .fr), (2, .val (.int .i64) .fr)], 47⟩)], spec_l03Lamination_l1⟩
noncomputable def spec_l03Lamination_l0_s : LSum := ⟨0, ⟨[(0, .val (.sl 39 (.pair (.pair (.int .i64) (.pair (.int .i64) (.unit))) (.pair (.pair (.int .i64) (.pair (.int .i64) (.unit))) (.unit)))) .fr), (2, .val (.int .i64) .fr)], 47⟩, (.ret, ⟨[(2, .val (.bool) .fr)], 48⟩), [(.exit 0, ⟨[], 51⟩)], spec_l03Lamination_l0⟩
noncomputable def spec_l03Lamination_s : Spec := ⟨[.v (.sl 39 (.pair (.pair (.int .i64) (.pair (.int .i64) (.unit))) (.pair (.pair (.int .i64) (.pair (.int .i64) (.unit))) (.unit)))) .fr], Bool, fun v => spec_l03Lamination v.1, fun r => ([.v (.bool) .fr r], [])⟩
noncomputable def spec_l03Lamination_ls : List LSum := [spec_l03Lamination_l0_s, spec_l03Lamination_l1_s]
noncomputable def spec_l03Lamination_tab : List Row := [⟨23, [], [spec_l03Is_s]⟩, ⟨24, [], [spec_l03Less_s]⟩, ⟨25, [], [spec_l03Cross_s]⟩]
theorem spec_l03Lamination_t : ∀ r, r ∈ spec_l03Lamination_tab → RowIs Go.Proofs.Try.prog r := tab_cons (spec_l03Is_is) (tab_cons (spec_l03Less_is) (tab_cons (spec_l03Cross_is) (tab_nil)))
theorem spec_l03Lamination_l0_r : RoundIs (mkCtx Go.K.Link.seat spec_l03Lamination_c spec_l03Lamination_tab) (sums spec_l03Lamination_ls) 0 (bodyAt (loopsOf 0 spec_l03Lamination_code) 0) spec_l03Lamination_l0_s := by
  rintro ⟨list, ⟨i, _⟩⟩
  show _ = (spec_l03Lamination_l0 (list, (i, ()))).bind fun r : (Ctl ((List ((Int × (Int × Unit)) × ((Int × (Int × Unit)) × Unit))) × Int × Unit) ((Bool × Unit) ⊕ (Unit))) => some (ctlVal spec_l03Lamination_l0_s r)
  simp only [spec_l03Lamination_l0, kb_ite, kb_some, kb_none, kb_bind, kb_alt]
  kernel_rfl
theorem spec_l03Lamination_l1_r : RoundIs (mkCtx Go.K.Link.seat spec_l03Lamination_c spec_l03Lamination_tab) (sums spec_l03Lamination_ls) 2 (bodyAt (loopsOf 0 spec_l03Lamination_code) 1) spec_l03Lamination_l1_s := by
  rintro ⟨list, ⟨i, ⟨k, _⟩⟩⟩
  show _ = (spec_l03Lamination_l1 (list, (i, (k, ())))).bind fun r : (Ctl ((List ((Int × (Int × Unit)) × ((Int × (Int × Unit)) × Unit))) × Int × Int × Unit) ((Bool × Unit) ⊕ ((List ((Int × (Int × Unit)) × ((Int × (Int × Unit)) × Unit))) × Int × Unit))) => some (ctlVal spec_l03Lamination_l1_s r)
  simp only [spec_l03Lamination_l1, kb_ite, kb_some, kb_none, kb_bind, kb_alt]
  kernel_rfl
theorem spec_l03Lamination_rs : RoundsOK (mkCtx Go.K.Link.seat spec_l03Lamination_c spec_l03Lamination_tab) (sums spec_l03Lamination_ls) (loopsOf 0 spec_l03Lamination_code) spec_l03Lamination_ls := ⟨⟨rfl, rfl, spec_l03Lamination_l0_r⟩, ⟨⟨rfl, rfl, spec_l03Lamination_l1_r⟩, trivial⟩⟩
theorem spec_l03Lamination_e : ∀ v, (evFn (mkCtx Go.K.Link.seat spec_l03Lamination_c spec_l03Lamination_tab) (sums spec_l03Lamination_ls) 13 Go.Proofs.Try.f13 (encL spec_l03Lamination_s.a v)).run = (spec_l03Lamination_s.gen v).bind fun y => some (spec_l03Lamination_s.out y) := by
  rintro ⟨list, _⟩
  show _ = (spec_l03Lamination list).bind fun y : Bool => some (spec_l03Lamination_s.out y)
  simp only [spec_l03Lamination, kb_ite, kb_some, kb_none, kb_bind, kb_alt]
  kernel_rfl
theorem spec_l03Lamination_is : FnIs Go.Proofs.Try.prog 13 (modeOf []) (phi [spec_l03Lamination_s]) := spec_is (c := spec_l03Lamination_c) seatOK spec_l03Lamination_t Go.Proofs.Try.func13 rfl (code := spec_l03Lamination_code) rfl rfl spec_l03Lamination_rs spec_l03Lamination_e
noncomputable def spec_l05Classes_code : Code := (Go.Proofs.Try.f14.body).getD .skip
def spec_l05Classes_c : Cfg := ⟨14, [], [[0, 3, 4, 5, 14, 15, 109, 113], [4, 15, 113], [2, 4, 15, 113, 114], [], [], [], [0, 3, 4, 5, 6, 7, 14, 15, 109, 113], [0, 3, 4, 5, 6, 14, 15, 109, 113], [2, 4, 15, 113, 114], [], [], [], [0, 3, 4, 5, 6, 7, 8, 14, 15, 109, 113], [0, 3, 4, 5, 6, 7, 14, 15, 109, 113], [2, 4, 15, 113, 114], [], [], [], [0, 3, 4, 5, 9, 10, 14, 15, 57, 109, 113], [0, 3, 4, 5, 9, 14, 15, 57, 109, 113], [2, 4, 15, 113, 114], [], [], [], [0, 3, 4, 5, 9, 10, 11, 14, 15, 57, 109, 113], [0, 3, 4, 5, 9, 10, 14, 15, 57, 109, 113], [2, 4, 15, 113, 114], [], [], [], [0, 3, 4, 5, 9, 10, 11, 12, 14, 15, 57, 109, 113], [0, 3, 4, 5, 9, 10, 11, 14, 15, 57, 109, 113], [2, 4, 15, 113, 114]], [(2, (.own .fr)), (15, (.own .fr)), (112, (.own .fr)), (113, (.own .fr))], []⟩
noncomputable def spec_l03Ends_code : Code := (Go.Proofs.Try.f26.body).getD .skip
def spec_l03Ends_c : Cfg := ⟨26, [], [[0, 3, 4, 5, 24], [3, 5, 24], [2, 3, 5, 24, 25]], [], []⟩
noncomputable def spec_l01Insert_code : Code := (Go.Proofs.Try.f27.body).getD .skip
def spec_l01Insert_c : Cfg := ⟨27, [.own], [[0, 3, 5, 33, 46], [0, 3, 5, 33, 46], [0, 4, 33, 46]], [], []⟩
noncomputable def spec_l01Insert_l0_s : LSum := ⟨0, ⟨[(0, .val (.sl 37 (.pair (.int .i64) (.pair (.int .i64) (.unit)))) (.own .fr)), (2, .val (.ptr (.pair (.int .i64) (.pair (.int .i64) (.unit)))) (.own .fr)), (1, .val (.int .i64) .fr)], 41⟩, (.exit 0, ⟨[(0, .val (.sl 37 (.pair (.int .i64) (.pair (.int .i64) (.unit)))) (.own .fr)), (2, .val (.ptr (.pair (.int .i64) (.pair (.int .i64) (.unit)))) (.own .fr)), (1, .val (.int .i64) .fr)], 41⟩), [], spec_l01Insert_l0⟩
noncomputable def spec_l01Insert_s : Spec := ⟨[.v (.sl 37 (.pair (.int .i64) (.pair (.int .i64) (.unit)))) (.own .fr), .v (.pair (.int .i64) (.pair (.int .i64) (.unit))) .fr], (List (Int × (Int × Unit))), fun v => spec_l01Insert v.1 v.2.1, fun r => ([.v (.sl 37 (.pair (.int .i64) (.pair (.int .i64) (.unit)))) (.own .fr) r], [])⟩
noncomputable def spec_l01Insert_ls : List LSum := [spec_l01Insert_l0_s]
noncomputable def spec_l01Insert_tab : List Row := [⟨37, [], [spec_l01Less_s]⟩]
theorem spec_l01Insert_t : ∀ r, r ∈ spec_l01Insert_tab → RowIs Go.Proofs.Try.prog r := tab_cons (spec_l01Less_is) (tab_nil)
theorem spec_l01Insert_l0_r : RoundIs (mkCtx Go.K.Link.seat spec_l01Insert_c spec_l01Insert_tab) (sums spec_l01Insert_ls) 0 (bodyAt (loopsOf 0 spec_l01Insert_code) 0) spec_l01Insert_l0_s := by
  rintro ⟨list, ⟨a, ⟨at', _⟩⟩⟩
  show _ = (spec_l01Insert_l0 (list, (a, (at', ())))).bind fun r : (Ctl ((List (Int × (Int × Unit))) × ((Int × (Int × Unit))) × Int × Unit) (((List (Int × (Int × Unit))) × ((Int × (Int × Unit))) × Int × Unit))) => some (ctlVal spec_l01Insert_l0_s r)
  simp only [spec_l01Insert_l0, kb_ite, kb_some, kb_none, kb_bind, kb_alt]
  kernel_rfl
theorem spec_l01Insert_rs : RoundsOK (mkCtx Go.K.Link.seat spec_l01Insert_c spec_l01Insert_tab) (sums spec_l01Insert_ls) (loopsOf 0 spec_l01Insert_code) spec_l01Insert_ls := ⟨⟨rfl, rfl, spec_l01Insert_l0_r⟩, trivial⟩
theorem spec_l01Insert_e : ∀ v, (evFn (mkCtx Go.K.Link.seat spec_l01Insert_c spec_l01Insert_tab) (sums spec_l01Insert_ls) 27 Go.Proofs.Try.f27 (encL spec_l01Insert_s.a v)).run = (spec_l01Insert_s.gen v).bind fun y => some (spec_l01Insert_s.out y) := by
  rintro ⟨list, ⟨a, _⟩⟩
  show _ = (spec_l01Insert list a).bind fun y : (List (Int × (Int × Unit))) => some (spec_l01Insert_s.out y)
  simp only [spec_l01Insert, kb_ite, kb_some, kb_none, kb_bind, kb_alt]
  kernel_rfl
theorem spec_l01Insert_is : FnIs Go.Proofs.Try.prog 27 (modeOf [.own]) (phi [spec_l01Insert_s]) := spec_is (c := spec_l01Insert_c) seatOK spec_l01Insert_t Go.Proofs.Try.func27 rfl (code := spec_l01Insert_code) rfl rfl spec_l01Insert_rs spec_l01Insert_e
noncomputable def spec_l03Ends_l0_s : LSum := ⟨0, ⟨[(0, .val (.sl 39 (.pair (.pair (.int .i64) (.pair (.int .i64) (.unit))) (.pair (.pair (.int .i64) (.pair (.int .i64) (.unit))) (.unit)))) .fr), (2, .val (.sl 37 (.pair (.int .i64) (.pair (.int .i64) (.unit)))) (.own .fr)), (0, .val (.int .i64) .fr)], 21⟩, (.exit 0, ⟨[(3, .val (.sl 37 (.pair (.int .i64) (.pair (.int .i64) (.unit)))) (.own .fr))], 22⟩), [], spec_l03Ends_l0⟩
noncomputable def spec_l03Ends_s : Spec := ⟨[.v (.sl 39 (.pair (.pair (.int .i64) (.pair (.int .i64) (.unit))) (.pair (.pair (.int .i64) (.pair (.int .i64) (.unit))) (.unit)))) .fr], (List (Int × (Int × Unit))), fun v => spec_l03Ends v.1, fun r => ([.v (.sl 37 (.pair (.int .i64) (.pair (.int .i64) (.unit)))) (.own .fr) r], [])⟩
noncomputable def spec_l03Ends_ls : List LSum := [spec_l03Ends_l0_s]
noncomputable def spec_l03Ends_tab : List Row := [⟨27, [.own], [spec_l01Insert_s]⟩]
theorem spec_l03Ends_t : ∀ r, r ∈ spec_l03Ends_tab → RowIs Go.Proofs.Try.prog r := tab_cons (spec_l01Insert_is) (tab_nil)
theorem spec_l03Ends_l0_r : RoundIs (mkCtx Go.K.Link.seat spec_l03Ends_c spec_l03Ends_tab) (sums spec_l03Ends_ls) 0 (bodyAt (loopsOf 0 spec_l03Ends_code) 0) spec_l03Ends_l0_s := by
  rintro ⟨list, ⟨out, ⟨i, _⟩⟩⟩
  show _ = (spec_l03Ends_l0 (list, (out, (i, ())))).bind fun r : (Ctl ((List ((Int × (Int × Unit)) × ((Int × (Int × Unit)) × Unit))) × (List (Int × (Int × Unit))) × Int × Unit) (((List (Int × (Int × Unit))) × Unit))) => some (ctlVal spec_l03Ends_l0_s r)
  simp only [spec_l03Ends_l0, kb_ite, kb_some, kb_none, kb_bind, kb_alt]
  kernel_rfl
theorem spec_l03Ends_rs : RoundsOK (mkCtx Go.K.Link.seat spec_l03Ends_c spec_l03Ends_tab) (sums spec_l03Ends_ls) (loopsOf 0 spec_l03Ends_code) spec_l03Ends_ls := ⟨⟨rfl, rfl, spec_l03Ends_l0_r⟩, trivial⟩
theorem spec_l03Ends_e : ∀ v, (evFn (mkCtx Go.K.Link.seat spec_l03Ends_c spec_l03Ends_tab) (sums spec_l03Ends_ls) 26 Go.Proofs.Try.f26 (encL spec_l03Ends_s.a v)).run = (spec_l03Ends_s.gen v).bind fun y => some (spec_l03Ends_s.out y) := by
  rintro ⟨list, _⟩
  show _ = (spec_l03Ends list).bind fun y : (List (Int × (Int × Unit))) => some (spec_l03Ends_s.out y)
  simp only [spec_l03Ends, kb_ite, kb_some, kb_none, kb_bind, kb_alt]
  kernel_rfl
theorem spec_l03Ends_is : FnIs Go.Proofs.Try.prog 26 (modeOf []) (phi [spec_l03Ends_s]) := spec_is (c := spec_l03Ends_c) seatOK spec_l03Ends_t Go.Proofs.Try.func26 rfl (code := spec_l03Ends_code) rfl rfl spec_l03Ends_rs spec_l03Ends_e
noncomputable def spec_l05Classes_l2_s : LSum := ⟨4, ⟨[(0, .val (.sl 39 (.pair (.pair (.int .i64) (.pair (.int .i64) (.unit))) (.pair (.pair (.int .i64) (.pair (.int .i64) (.unit))) (.unit)))) .fr), (2, .val (.sl 37 (.pair (.int .i64) (.pair (.int .i64) (.unit)))) (.own .fr)), (0, .val (.sl 44 (.sl 37 (.pair (.int .i64) (.pair (.int .i64) (.unit))))) (.own (.own .fr))), (0, .val (.int .i64) .fr), (0, .val (.bool) .fr), (0, .val (.int .i64) .fr), (0, .val (.int .i64) .fr)], 106⟩, (.exit 4, ⟨[(0, .val (.sl 39 (.pair (.pair (.int .i64) (.pair (.int .i64) (.unit))) (.pair (.pair (.int .i64) (.pair (.int .i64) (.unit))) (.unit)))) .fr), (2, .val (.sl 37 (.pair (.int .i64) (.pair (.int .i64) (.unit)))) (.own .fr)), (0, .val (.sl 44 (.sl 37 (.pair (.int .i64) (.pair (.int .i64) (.unit))))) (.own (.own .fr))), (0, .val (.int .i64) .fr), (0, .val (.bool) .fr), (0, .val (.int .i64) .fr)], 107⟩), [], spec_l05Classes_l2⟩
noncomputable def spec_l05Classes_l1_s : LSum := ⟨2, ⟨[(0, .val (.sl 39 (.pair (.pair (.int .i64) (.pair (.int .i64) (.unit))) (.pair (.pair (.int .i64) (.pair (.int .i64) (.unit))) (.unit)))) .fr), (2, .val (.sl 37 (.pair (.int .i64) (.pair (.int .i64) (.unit)))) (.own .fr)), (0, .val (.sl 44 (.sl 37 (.pair (.int .i64) (.pair (.int .i64) (.unit))))) (.own (.own .fr))), (0, .val (.int .i64) .fr), (0, .val (.bool) .fr), (0, .val (.int .i64) .fr)], 107⟩, (.exit 2, ⟨[(0, .val (.sl 39 (.pair (.pair (.int .i64) (.pair (.int .i64) (.unit))) (.pair (.pair (.int .i64) (.pair (.int .i64) (.unit))) (.unit)))) .fr), (2, .val (.sl 37 (.pair (.int .i64) (.pair (.int .i64) (.unit)))) (.own .fr)), (0, .val (.sl 44 (.sl 37 (.pair (.int .i64) (.pair (.int .i64) (.unit))))) (.own (.own .fr))), (0, .val (.int .i64) .fr), (0, .val (.bool) .fr)], 108⟩), [], spec_l05Classes_l1⟩
noncomputable def spec_l05Classes_l5_s : LSum := ⟨10, ⟨[(0, .val (.sl 39 (.pair (.pair (.int .i64) (.pair (.int .i64) (.unit))) (.pair (.pair (.int .i64) (.pair (.int .i64) (.unit))) (.unit)))) .fr), (2, .val (.sl 37 (.pair (.int .i64) (.pair (.int .i64) (.unit)))) (.own .fr)), (0, .val (.sl 44 (.sl 37 (.pair (.int .i64) (.pair (.int .i64) (.unit))))) (.own (.own .fr))), (0, .val (.int .i64) .fr), (3, .val (.sl 37 (.pair (.int .i64) (.pair (.int .i64) (.unit)))) (.own .fr)), (0, .val (.int .i64) .fr), (0, .val (.int .i64) .fr), (0, .val (.int .i64) .fr)], 102⟩, (.exit 10, ⟨[(0, .val (.sl 39 (.pair (.pair (.int .i64) (.pair (.int .i64) (.unit))) (.pair (.pair (.int .i64) (.pair (.int .i64) (.unit))) (.unit)))) .fr), (2, .val (.sl 37 (.pair (.int .i64) (.pair (.int .i64) (.unit)))) (.own .fr)), (0, .val (.sl 44 (.sl 37 (.pair (.int .i64) (.pair (.int .i64) (.unit))))) (.own (.own .fr))), (0, .val (.int .i64) .fr), (3, .val (.sl 37 (.pair (.int .i64) (.pair (.int .i64) (.unit)))) (.own .fr)), (0, .val (.int .i64) .fr), (0, .val (.int .i64) .fr)], 103⟩), [], spec_l05Classes_l5⟩
noncomputable def spec_l05Classes_l4_s : LSum := ⟨8, ⟨[(0, .val (.sl 39 (.pair (.pair (.int .i64) (.pair (.int .i64) (.unit))) (.pair (.pair (.int .i64) (.pair (.int .i64) (.unit))) (.unit)))) .fr), (2, .val (.sl 37 (.pair (.int .i64) (.pair (.int .i64) (.unit)))) (.own .fr)), (0, .val (.sl 44 (.sl 37 (.pair (.int .i64) (.pair (.int .i64) (.unit))))) (.own (.own .fr))), (0, .val (.int .i64) .fr), (3, .val (.sl 37 (.pair (.int .i64) (.pair (.int .i64) (.unit)))) (.own .fr)), (0, .val (.int .i64) .fr), (0, .val (.int .i64) .fr)], 103⟩, (.exit 8, ⟨[(0, .val (.sl 39 (.pair (.pair (.int .i64) (.pair (.int .i64) (.unit))) (.pair (.pair (.int .i64) (.pair (.int .i64) (.unit))) (.unit)))) .fr), (2, .val (.sl 37 (.pair (.int .i64) (.pair (.int .i64) (.unit)))) (.own .fr)), (0, .val (.sl 44 (.sl 37 (.pair (.int .i64) (.pair (.int .i64) (.unit))))) (.own (.own .fr))), (0, .val (.int .i64) .fr), (3, .val (.sl 37 (.pair (.int .i64) (.pair (.int .i64) (.unit)))) (.own .fr)), (0, .val (.int .i64) .fr)], 104⟩), [], spec_l05Classes_l4⟩
noncomputable def spec_l05Classes_l3_s : LSum := ⟨6, ⟨[(0, .val (.sl 39 (.pair (.pair (.int .i64) (.pair (.int .i64) (.unit))) (.pair (.pair (.int .i64) (.pair (.int .i64) (.unit))) (.unit)))) .fr), (2, .val (.sl 37 (.pair (.int .i64) (.pair (.int .i64) (.unit)))) (.own .fr)), (0, .val (.sl 44 (.sl 37 (.pair (.int .i64) (.pair (.int .i64) (.unit))))) (.own (.own .fr))), (0, .val (.int .i64) .fr), (3, .val (.sl 37 (.pair (.int .i64) (.pair (.int .i64) (.unit)))) (.own .fr)), (0, .val (.int .i64) .fr)], 104⟩, (.exit 6, ⟨[(0, .val (.sl 39 (.pair (.pair (.int .i64) (.pair (.int .i64) (.unit))) (.pair (.pair (.int .i64) (.pair (.int .i64) (.unit))) (.unit)))) .fr), (2, .val (.sl 37 (.pair (.int .i64) (.pair (.int .i64) (.unit)))) (.own .fr)), (0, .val (.sl 44 (.sl 37 (.pair (.int .i64) (.pair (.int .i64) (.unit))))) (.own (.own .fr))), (0, .val (.int .i64) .fr), (3, .val (.sl 37 (.pair (.int .i64) (.pair (.int .i64) (.unit)))) (.own .fr))], 105⟩), [], spec_l05Classes_l3⟩
noncomputable def spec_l05Classes_l0_s : LSum := ⟨0, ⟨[(0, .val (.sl 39 (.pair (.pair (.int .i64) (.pair (.int .i64) (.unit))) (.pair (.pair (.int .i64) (.pair (.int .i64) (.unit))) (.unit)))) .fr), (2, .val (.sl 37 (.pair (.int .i64) (.pair (.int .i64) (.unit)))) (.own .fr)), (0, .val (.sl 44 (.sl 37 (.pair (.int .i64) (.pair (.int .i64) (.unit))))) (.own (.own .fr))), (0, .val (.int .i64) .fr)], 109⟩, (.exit 0, ⟨[(4, .val (.sl 44 (.sl 37 (.pair (.int .i64) (.pair (.int .i64) (.unit))))) (.own (.own .fr)))], 110⟩), [], spec_l05Classes_l0⟩
noncomputable def spec_l05Classes_s : Spec := ⟨[.v (.sl 39 (.pair (.pair (.int .i64) (.pair (.int .i64) (.unit))) (.pair (.pair (.int .i64) (.pair (.int .i64) (.unit))) (.unit)))) .fr], (List (List (Int × (Int × Unit)))), fun v => spec_l05Classes v.1, fun r => ([.v (.sl 44 (.sl 37 (.pair (.int .i64) (.pair (.int .i64) (.unit))))) (.own (.own .fr)) r], [])⟩
noncomputable def spec_l05Classes_ls : List LSum := [spec_l05Classes_l0_s, spec_l05Classes_l1_s, spec_l05Classes_l2_s, spec_l05Classes_l3_s, spec_l05Classes_l4_s, spec_l05Classes_l5_s]
noncomputable def spec_l05Classes_tab : List Row := [⟨26, [], [spec_l03Ends_s]⟩, ⟨27, [.own], [spec_l01Insert_s]⟩]
theorem spec_l05Classes_t : ∀ r, r ∈ spec_l05Classes_tab → RowIs Go.Proofs.Try.prog r := tab_cons (spec_l03Ends_is) (tab_cons (spec_l01Insert_is) (tab_nil))
theorem spec_l05Classes_l0_r : RoundIs (mkCtx Go.K.Link.seat spec_l05Classes_c spec_l05Classes_tab) (sums spec_l05Classes_ls) 0 (bodyAt (loopsOf 0 spec_l05Classes_code) 0) spec_l05Classes_l0_s := by
  rintro ⟨list, ⟨ends, ⟨out, ⟨i, _⟩⟩⟩⟩
  show _ = (spec_l05Classes_l0 (list, (ends, (out, (i, ()))))).bind fun r : (Ctl ((List ((Int × (Int × Unit)) × ((Int × (Int × Unit)) × Unit))) × (List (Int × (Int × Unit))) × (List (List (Int × (Int × Unit)))) × Int × Unit) (((List (List (Int × (Int × Unit)))) × Unit))) => some (ctlVal spec_l05Classes_l0_s r)
  simp only [spec_l05Classes_l0, kb_ite, kb_some, kb_none, kb_bind, kb_alt]
  kernel_rfl
theorem spec_l05Classes_l1_r : RoundIs (mkCtx Go.K.Link.seat spec_l05Classes_c spec_l05Classes_tab) (sums spec_l05Classes_ls) 2 (bodyAt (loopsOf 0 spec_l05Classes_code) 1) spec_l05Classes_l1_s := by
  rintro ⟨list, ⟨ends, ⟨out, ⟨i, ⟨known, ⟨k, _⟩⟩⟩⟩⟩⟩
  show _ = (spec_l05Classes_l1 (list, (ends, (out, (i, (known, (k, ()))))))).bind fun r : (Ctl ((List ((Int × (Int × Unit)) × ((Int × (Int × Unit)) × Unit))) × (List (Int × (Int × Unit))) × (List (List (Int × (Int × Unit)))) × Int × Bool × Int × Unit) (((List ((Int × (Int × Unit)) × ((Int × (Int × Unit)) × Unit))) × (List (Int × (Int × Unit))) × (List (List (Int × (Int × Unit)))) × Int × Bool × Unit))) => some (ctlVal spec_l05Classes_l1_s r)
  simp only [spec_l05Classes_l1, kb_ite, kb_some, kb_none, kb_bind, kb_alt]
  kernel_rfl
theorem spec_l05Classes_l2_r : RoundIs (mkCtx Go.K.Link.seat spec_l05Classes_c spec_l05Classes_tab) (sums spec_l05Classes_ls) 4 (bodyAt (loopsOf 0 spec_l05Classes_code) 2) spec_l05Classes_l2_s := by
  rintro ⟨list, ⟨ends, ⟨out, ⟨i, ⟨known, ⟨k, ⟨j, _⟩⟩⟩⟩⟩⟩⟩
  show _ = (spec_l05Classes_l2 (list, (ends, (out, (i, (known, (k, (j, ())))))))).bind fun r : (Ctl ((List ((Int × (Int × Unit)) × ((Int × (Int × Unit)) × Unit))) × (List (Int × (Int × Unit))) × (List (List (Int × (Int × Unit)))) × Int × Bool × Int × Int × Unit) (((List ((Int × (Int × Unit)) × ((Int × (Int × Unit)) × Unit))) × (List (Int × (Int × Unit))) × (List (List (Int × (Int × Unit)))) × Int × Bool × Int × Unit))) => some (ctlVal spec_l05Classes_l2_s r)
  simp only [spec_l05Classes_l2, kb_ite, kb_some, kb_none, kb_bind, kb_alt]
  kernel_rfl
theorem spec_l05Classes_l3_r : RoundIs (mkCtx Go.K.Link.seat spec_l05Classes_c spec_l05Classes_tab) (sums spec_l05Classes_ls) 6 (bodyAt (loopsOf 0 spec_l05Classes_code) 3) spec_l05Classes_l3_s := by
  rintro ⟨list, ⟨ends, ⟨out, ⟨i, ⟨own, ⟨size, _⟩⟩⟩⟩⟩⟩
  show _ = (spec_l05Classes_l3 (list, (ends, (out, (i, (own, (size, ()))))))).bind fun r : (Ctl ((List ((Int × (Int × Unit)) × ((Int × (Int × Unit)) × Unit))) × (List (Int × (Int × Unit))) × (List (List (Int × (Int × Unit)))) × Int × (List (Int × (Int × Unit))) × Int × Unit) (((List ((Int × (Int × Unit)) × ((Int × (Int × Unit)) × Unit))) × (List (Int × (Int × Unit))) × (List (List (Int × (Int × Unit)))) × Int × (List (Int × (Int × Unit))) × Unit))) => some (ctlVal spec_l05Classes_l3_s r)
  simp only [spec_l05Classes_l3, kb_ite, kb_some, kb_none, kb_bind, kb_alt]
  kernel_rfl
theorem spec_l05Classes_l4_r : RoundIs (mkCtx Go.K.Link.seat spec_l05Classes_c spec_l05Classes_tab) (sums spec_l05Classes_ls) 8 (bodyAt (loopsOf 0 spec_l05Classes_code) 4) spec_l05Classes_l4_s := by
  rintro ⟨list, ⟨ends, ⟨out, ⟨i, ⟨own, ⟨size, ⟨k, _⟩⟩⟩⟩⟩⟩⟩
  show _ = (spec_l05Classes_l4 (list, (ends, (out, (i, (own, (size, (k, ())))))))).bind fun r : (Ctl ((List ((Int × (Int × Unit)) × ((Int × (Int × Unit)) × Unit))) × (List (Int × (Int × Unit))) × (List (List (Int × (Int × Unit)))) × Int × (List (Int × (Int × Unit))) × Int × Int × Unit) (((List ((Int × (Int × Unit)) × ((Int × (Int × Unit)) × Unit))) × (List (Int × (Int × Unit))) × (List (List (Int × (Int × Unit)))) × Int × (List (Int × (Int × Unit))) × Int × Unit))) => some (ctlVal spec_l05Classes_l4_s r)
  simp only [spec_l05Classes_l4, kb_ite, kb_some, kb_none, kb_bind, kb_alt]
  kernel_rfl
theorem spec_l05Classes_l5_r : RoundIs (mkCtx Go.K.Link.seat spec_l05Classes_c spec_l05Classes_tab) (sums spec_l05Classes_ls) 10 (bodyAt (loopsOf 0 spec_l05Classes_code) 5) spec_l05Classes_l5_s := by
  rintro ⟨list, ⟨ends, ⟨out, ⟨i, ⟨own, ⟨size, ⟨k, ⟨j, _⟩⟩⟩⟩⟩⟩⟩⟩
  show _ = (spec_l05Classes_l5 (list, (ends, (out, (i, (own, (size, (k, (j, ()))))))))).bind fun r : (Ctl ((List ((Int × (Int × Unit)) × ((Int × (Int × Unit)) × Unit))) × (List (Int × (Int × Unit))) × (List (List (Int × (Int × Unit)))) × Int × (List (Int × (Int × Unit))) × Int × Int × Int × Unit) (((List ((Int × (Int × Unit)) × ((Int × (Int × Unit)) × Unit))) × (List (Int × (Int × Unit))) × (List (List (Int × (Int × Unit)))) × Int × (List (Int × (Int × Unit))) × Int × Int × Unit))) => some (ctlVal spec_l05Classes_l5_s r)
  simp only [spec_l05Classes_l5, kb_ite, kb_some, kb_none, kb_bind, kb_alt]
  kernel_rfl
theorem spec_l05Classes_rs : RoundsOK (mkCtx Go.K.Link.seat spec_l05Classes_c spec_l05Classes_tab) (sums spec_l05Classes_ls) (loopsOf 0 spec_l05Classes_code) spec_l05Classes_ls := ⟨⟨rfl, rfl, spec_l05Classes_l0_r⟩, ⟨⟨rfl, rfl, spec_l05Classes_l1_r⟩, ⟨⟨rfl, rfl, spec_l05Classes_l2_r⟩, ⟨⟨rfl, rfl, spec_l05Classes_l3_r⟩, ⟨⟨rfl, rfl, spec_l05Classes_l4_r⟩, ⟨⟨rfl, rfl, spec_l05Classes_l5_r⟩, trivial⟩⟩⟩⟩⟩⟩
theorem spec_l05Classes_e : ∀ v, (evFn (mkCtx Go.K.Link.seat spec_l05Classes_c spec_l05Classes_tab) (sums spec_l05Classes_ls) 14 Go.Proofs.Try.f14 (encL spec_l05Classes_s.a v)).run = (spec_l05Classes_s.gen v).bind fun y => some (spec_l05Classes_s.out y) := by
  rintro ⟨list, _⟩
  show _ = (spec_l05Classes list).bind fun y : (List (List (Int × (Int × Unit)))) => some (spec_l05Classes_s.out y)
  simp only [spec_l05Classes, kb_ite, kb_some, kb_none, kb_bind, kb_alt]
  kernel_rfl
theorem spec_l05Classes_is : FnIs Go.Proofs.Try.prog 14 (modeOf []) (phi [spec_l05Classes_s]) := spec_is (c := spec_l05Classes_c) seatOK spec_l05Classes_t Go.Proofs.Try.func14 rfl (code := spec_l05Classes_code) rfl rfl spec_l05Classes_rs spec_l05Classes_e
noncomputable def spec_EndClasses_s : Spec := ⟨[.v (.sl 39 (.pair (.pair (.int .i64) (.pair (.int .i64) (.unit))) (.pair (.pair (.int .i64) (.pair (.int .i64) (.unit))) (.unit)))) .fr], (List (List (Int × (Int × Unit)))) × Int, fun v => spec_EndClasses v.1, fun r => ([.v (.sl 44 (.sl 37 (.pair (.int .i64) (.pair (.int .i64) (.unit))))) (.own (.own .fr)) r.1, .v (.int .i64) .fr r.2], [])⟩
noncomputable def spec_EndClasses_ls : List LSum := []
noncomputable def spec_EndClasses_tab : List Row := [⟨13, [], [spec_l03Lamination_s]⟩, ⟨14, [], [spec_l05Classes_s]⟩]
theorem spec_EndClasses_t : ∀ r, r ∈ spec_EndClasses_tab → RowIs Go.Proofs.Try.prog r := tab_cons (spec_l03Lamination_is) (tab_cons (spec_l05Classes_is) (tab_nil))
theorem spec_EndClasses_rs : RoundsOK (mkCtx Go.K.Link.seat spec_EndClasses_c spec_EndClasses_tab) (sums spec_EndClasses_ls) (loopsOf 0 spec_EndClasses_code) spec_EndClasses_ls := trivial
theorem spec_EndClasses_e : ∀ v, (evFn (mkCtx Go.K.Link.seat spec_EndClasses_c spec_EndClasses_tab) (sums spec_EndClasses_ls) 5 Go.Proofs.Try.f5 (encL spec_EndClasses_s.a v)).run = (spec_EndClasses_s.gen v).bind fun y => some (spec_EndClasses_s.out y) := by
  rintro ⟨list, _⟩
  show _ = (spec_EndClasses list).bind fun y : (List (List (Int × (Int × Unit)))) × Int => some (spec_EndClasses_s.out y)
  simp only [spec_EndClasses, kb_ite, kb_some, kb_none, kb_bind, kb_alt]
  kernel_rfl
theorem spec_EndClasses_is : FnIs Go.Proofs.Try.prog 5 (modeOf []) (phi [spec_EndClasses_s]) := spec_is (c := spec_EndClasses_c) seatOK spec_EndClasses_t Go.Proofs.Try.func5 rfl (code := spec_EndClasses_code) rfl rfl spec_EndClasses_rs spec_EndClasses_e
noncomputable def impl_EndClasses_code : Code := (Go.Proofs.Try.f7.body).getD .skip
def impl_EndClasses_c : Cfg := ⟨7, [], [[0, 4, 5, 22, 25, 27, 28, 97, 105], [0, 4, 5, 22, 25, 97, 105], [2, 3, 13, 105, 107], [], [], [], [0, 4, 5, 22, 25, 36, 37, 38, 97, 105], [4, 5, 22, 25, 97, 105], [2, 3, 13, 105, 107], [], [], [], [0, 4, 5, 9, 10, 22, 25, 36, 37, 38, 56, 57, 58, 97, 105], [0, 4, 5, 22, 25, 36, 37, 38, 97, 105], [2, 3, 13, 105, 107], [], [], [], [4, 5, 13, 22, 25, 77, 78, 97, 105], [13, 105], [2, 3, 13, 105, 107], [], [], [], [4, 5, 13, 14, 15, 22, 25, 77, 78, 81, 82, 83, 97, 105], [4, 5, 13, 15, 22, 25, 77, 78, 97, 105], [2, 3, 13, 105, 107]], [(2, (.own .fr)), (2, (.own .fr)), (13, (.own .fr)), (104, (.own .fr)), (105, (.own .fr))], []⟩
noncomputable def impl_IsLamination_code : Code := (Go.Proofs.Try.f16.body).getD .skip
def impl_IsLamination_c : Cfg := ⟨16, [], [[0, 13, 14, 15], [], [2]], [], []⟩
noncomputable def impl_areAll_impl_Leaf_code : Code := (Go.Proofs.Try.f29.body).getD .skip
def impl_areAll_impl_Leaf_c : Cfg := ⟨29, [], [], [], []⟩
noncomputable def slices_ContainsFunc__impl_Leaf_impl_Leaf_code : Code := (Go.Proofs.Try.f32.body).getD .skip
def slices_ContainsFunc__impl_Leaf_impl_Leaf_c : Cfg := ⟨32, [], [], [], []⟩
noncomputable def slices_IndexFunc__impl_Leaf_impl_Leaf_code : Code := (Go.Proofs.Try.f43.body).getD .skip
def slices_IndexFunc__impl_Leaf_impl_Leaf_c : Cfg := ⟨43, [], [[0, 1, 7, 8], [], [4]], [], []⟩
noncomputable def impl_areAll_impl_Leaf_f1_code : Code := (Go.Proofs.Try.f39.body).getD .skip
def impl_areAll_impl_Leaf_f1_c : Cfg := ⟨39, [], [], [], []⟩
noncomputable def impl_IsLeaf_code : Code := (Go.Proofs.Try.f30.body).getD .skip
def impl_IsLeaf_c : Cfg := ⟨30, [], [], [], []⟩
noncomputable def impl_IsAngle_code : Code := (Go.Proofs.Try.f40.body).getD .skip
def impl_IsAngle_c : Cfg := ⟨40, [], [], [], []⟩
noncomputable def impl_within_code : Code := (Go.Proofs.Try.f50.body).getD .skip
def impl_within_c : Cfg := ⟨50, [], [], [], []⟩
noncomputable def impl_within_s : Spec := ⟨[.v (.int .i64) .fr, .v (.int .i64) .fr, .v (.int .i64) .fr], Bool, fun v => impl_within v.1 v.2.1 v.2.2.1, fun r => ([.v (.bool) .fr r], [])⟩
noncomputable def impl_within_ls : List LSum := []
noncomputable def impl_within_tab : List Row := []
theorem impl_within_t : ∀ r, r ∈ impl_within_tab → RowIs Go.Proofs.Try.prog r := tab_nil
theorem impl_within_rs : RoundsOK (mkCtx Go.K.Link.seat impl_within_c impl_within_tab) (sums impl_within_ls) (loopsOf 0 impl_within_code) impl_within_ls := trivial
theorem impl_within_e : ∀ v, (evFn (mkCtx Go.K.Link.seat impl_within_c impl_within_tab) (sums impl_within_ls) 50 Go.Proofs.Try.f50 (encL impl_within_s.a v)).run = (impl_within_s.gen v).bind fun y => some (impl_within_s.out y) := by
  rintro ⟨n, ⟨low, ⟨high, _⟩⟩⟩
  show _ = (impl_within n low high).bind fun y : Bool => some (impl_within_s.out y)
  simp only [impl_within, kb_ite, kb_some, kb_none, kb_bind, kb_alt]
  kernel_rfl
theorem impl_within_is : FnIs Go.Proofs.Try.prog 50 (modeOf []) (phi [impl_within_s]) := spec_is (c := impl_within_c) seatOK impl_within_t Go.Proofs.Try.func50 rfl (code := impl_within_code) rfl rfl impl_within_rs impl_within_e
noncomputable def impl_divisor_code : Code := (Go.Proofs.Try.f51.body).getD .skip
def impl_divisor_c : Cfg := ⟨51, [], [[0, 1], [0], [4]], [], []⟩
noncomputable def impl_divisor_l0_s : LSum := ⟨0, ⟨[(0, .val (.int .i64) .fr), (0, .val (.int .i64) .fr)], 10⟩, (.exit 0, ⟨[(0, .val (.int .i64) .fr)], 11⟩), [], impl_divisor_l0⟩
noncomputable def impl_divisor_s : Spec := ⟨[.v (.int .i64) .fr, .v (.int .i64) .fr], Int, fun v => impl_divisor v.1 v.2.1, fun r => ([.v (.int .i64) .fr r], [])⟩
noncomputable def impl_divisor_ls : List LSum := [impl_divisor_l0_s]
noncomputable def impl_divisor_tab : List Row := []
theorem impl_divisor_t : ∀ r, r ∈ impl_divisor_tab → RowIs Go.Proofs.Try.prog r := tab_nil
theorem impl_divisor_l0_r : RoundIs (mkCtx Go.K.Link.seat impl_divisor_c impl_divisor_tab) (sums impl_divisor_ls) 0 (bodyAt (loopsOf 0 impl_divisor_code) 0) impl_divisor_l0_s := by
  rintro ⟨a, ⟨b, _⟩⟩
  show _ = (impl_divisor_l0 (a, (b, ()))).bind fun r : (Ctl (Int × Int × Unit) ((Int × Unit))) => some (ctlVal impl_divisor_l0_s r)
  simp only [impl_divisor_l0, kb_ite, kb_some, kb_none, kb_bind, kb_alt]
  kernel_rfl
theorem impl_divisor_rs : RoundsOK (mkCtx Go.K.Link.seat impl_divisor_c impl_divisor_tab) (sums impl_divisor_ls) (loopsOf 0 impl_divisor_code) impl_divisor_ls := ⟨⟨rfl, rfl, impl_divisor_l0_r⟩, trivial⟩
theorem impl_divisor_e : ∀ v, (evFn (mkCtx Go.K.Link.seat impl_divisor_c impl_divisor_tab) (sums impl_divisor_ls) 51 Go.Proofs.Try.f51 (encL impl_divisor_s.a v)).run = (impl_divisor_s.gen v).bind fun y => some (impl_divisor_s.out y) := by
  rintro ⟨a, ⟨b, _⟩⟩
  show _ = (impl_divisor a b).bind fun y : Int => some (impl_divisor_s.out y)
  simp only [impl_divisor, kb_ite, kb_some, kb_none, kb_bind, kb_alt]
  kernel_rfl
theorem impl_divisor_is : FnIs Go.Proofs.Try.prog 51 (modeOf []) (phi [impl_divisor_s]) := spec_is (c := impl_divisor_c) seatOK impl_divisor_t Go.Proofs.Try.func51 rfl (code := impl_divisor_code) rfl rfl impl_divisor_rs impl_divisor_e
noncomputable def impl_IsAngle_s : Spec := ⟨[.v (.pair (.int .i64) (.pair (.int .i64) (.unit))) .fr], Bool, fun v => impl_IsAngle v.1, fun r => ([.v (.bool) .fr r], [])⟩
noncomputable def impl_IsAngle_ls : List LSum := []
noncomputable def impl_IsAngle_tab : List Row := [⟨50, [], [impl_within_s]⟩, ⟨51, [], [impl_divisor_s]⟩]
theorem impl_IsAngle_t : ∀ r, r ∈ impl_IsAngle_tab → RowIs Go.Proofs.Try.prog r := tab_cons (impl_within_is) (tab_cons (impl_divisor_is) (tab_nil))
theorem impl_IsAngle_rs : RoundsOK (mkCtx Go.K.Link.seat impl_IsAngle_c impl_IsAngle_tab) (sums impl_IsAngle_ls) (loopsOf 0 impl_IsAngle_code) impl_IsAngle_ls := trivial
theorem impl_IsAngle_e : ∀ v, (evFn (mkCtx Go.K.Link.seat impl_IsAngle_c impl_IsAngle_tab) (sums impl_IsAngle_ls) 40 Go.Proofs.Try.f40 (encL impl_IsAngle_s.a v)).run = (impl_IsAngle_s.gen v).bind fun y => some (impl_IsAngle_s.out y) := by
  rintro ⟨a, _⟩
  show _ = (impl_IsAngle a).bind fun y : Bool => some (impl_IsAngle_s.out y)
  simp only [impl_IsAngle, kb_ite, kb_some, kb_none, kb_bind, kb_alt]
  kernel_rfl
theorem impl_IsAngle_is : FnIs Go.Proofs.Try.prog 40 (modeOf []) (phi [impl_IsAngle_s]) := spec_is (c := impl_IsAngle_c) seatOK impl_IsAngle_t Go.Proofs.Try.func40 rfl (code := impl_IsAngle_code) rfl rfl impl_IsAngle_rs impl_IsAngle_e
noncomputable def impl_Angle_compare_code : Code := (Go.Proofs.Try.f41.body).getD .skip
def impl_Angle_compare_c : Cfg := ⟨41, [], [], [], []⟩
noncomputable def cmp_Compare_int64_code : Code := (Go.Proofs.Try.f52.body).getD .skip
def cmp_Compare_int64_c : Cfg := ⟨52, [], [], [], []⟩
noncomputable def cmp_isNaN_int64_code : Code := (Go.Proofs.Try.f57.body).getD .skip
def cmp_isNaN_int64_c : Cfg := ⟨57, [], [], [], []⟩
noncomputable def cmp_isNaN_int64_s : Spec := ⟨[.v (.int .i64) .fr], Bool, fun v => cmp_isNaN_int64 v.1, fun r => ([.v (.bool) .fr r], [])⟩
noncomputable def cmp_isNaN_int64_ls : List LSum := []
noncomputable def cmp_isNaN_int64_tab : List Row := []
theorem cmp_isNaN_int64_t : ∀ r, r ∈ cmp_isNaN_int64_tab → RowIs Go.Proofs.Try.prog r := tab_nil
theorem cmp_isNaN_int64_rs : RoundsOK (mkCtx Go.K.Link.seat cmp_isNaN_int64_c cmp_isNaN_int64_tab) (sums cmp_isNaN_int64_ls) (loopsOf 0 cmp_isNaN_int64_code) cmp_isNaN_int64_ls := trivial
theorem cmp_isNaN_int64_e : ∀ v, (evFn (mkCtx Go.K.Link.seat cmp_isNaN_int64_c cmp_isNaN_int64_tab) (sums cmp_isNaN_int64_ls) 57 Go.Proofs.Try.f57 (encL cmp_isNaN_int64_s.a v)).run = (cmp_isNaN_int64_s.gen v).bind fun y => some (cmp_isNaN_int64_s.out y) := by
  rintro ⟨x, _⟩
  show _ = (cmp_isNaN_int64 x).bind fun y : Bool => some (cmp_isNaN_int64_s.out y)
  simp only [cmp_isNaN_int64, kb_ite, kb_some, kb_none, kb_bind, kb_alt]
  kernel_rfl
theorem cmp_isNaN_int64_is : FnIs Go.Proofs.Try.prog 57 (modeOf []) (phi [cmp_isNaN_int64_s]) := spec_is (c := cmp_isNaN_int64_c) seatOK cmp_isNaN_int64_t Go.Proofs.Try.func57 rfl (code := cmp_isNaN_int64_code) rfl rfl cmp_isNaN_int64_rs cmp_isNaN_int64_e
noncomputable def cmp_Compare_int64_s : Spec := ⟨[.v (.int .i64) .fr, .v (.int .i64) .fr], Int, fun v => cmp_Compare_int64 v.1 v.2.1, fun r => ([.v (.int .i64) .fr r], [])⟩
noncomputable def cmp_Compare_int64_ls : List LSum := []
noncomputable def cmp_Compare_int64_tab : List Row := [⟨57, [], [cmp_isNaN_int64_s]⟩]
theorem cmp_Compare_int64_t : ∀ r, r ∈ cmp_Compare_int64_tab → RowIs Go.Proofs.Try.prog r := tab_cons (cmp_isNaN_int64_is) (tab_nil)
theorem cmp_Compare_int64_rs : RoundsOK (mkCtx Go.K.Link.seat cmp_Compare_int64_c cmp_Compare_int64_tab) (sums cmp_Compare_int64_ls) (loopsOf 0 cmp_Compare_int64_code) cmp_Compare_int64_ls := trivial
theorem cmp_Compare_int64_e : ∀ v, (evFn (mkCtx Go.K.Link.seat cmp_Compare_int64_c cmp_Compare_int64_tab) (sums cmp_Compare_int64_ls) 52 Go.Proofs.Try.f52 (encL cmp_Compare_int64_s.a v)).run = (cmp_Compare_int64_s.gen v).bind fun y => some (cmp_Compare_int64_s.out y) := by
  rintro ⟨x, ⟨y, _⟩⟩
  show _ = (cmp_Compare_int64 x y).bind fun y : Int => some (cmp_Compare_int64_s.out y)
  simp only [cmp_Compare_int64, kb_ite, kb_some, kb_none, kb_bind, kb_alt]
  kernel_rfl
theorem cmp_Compare_int64_is : FnIs Go.Proofs.Try.prog 52 (modeOf []) (phi [cmp_Compare_int64_s]) := spec_is (c := cmp_Compare_int64_c) seatOK cmp_Compare_int64_t Go.Proofs.Try.func52 rfl (code := cmp_Compare_int64_code) rfl rfl cmp_Compare_int64_rs cmp_Compare_int64_e
noncomputable def impl_Angle_compare_s : Spec := ⟨[.v (.pair (.int .i64) (.pair (.int .i64) (.unit))) .fr, .v (.pair (.int .i64) (.pair (.int .i64) (.unit))) .fr], Int, fun v => impl_Angle_compare v.1 v.2.1, fun r => ([.v (.int .i64) .fr r], [])⟩
noncomputable def impl_Angle_compare_ls : List LSum := []
noncomputable def impl_Angle_compare_tab : List Row := [⟨52, [], [cmp_Compare_int64_s]⟩]
theorem impl_Angle_compare_t : ∀ r, r ∈ impl_Angle_compare_tab → RowIs Go.Proofs.Try.prog r := tab_cons (cmp_Compare_int64_is) (tab_nil)
theorem impl_Angle_compare_rs : RoundsOK (mkCtx Go.K.Link.seat impl_Angle_compare_c impl_Angle_compare_tab) (sums impl_Angle_compare_ls) (loopsOf 0 impl_Angle_compare_code) impl_Angle_compare_ls := trivial
theorem impl_Angle_compare_e : ∀ v, (evFn (mkCtx Go.K.Link.seat impl_Angle_compare_c impl_Angle_compare_tab) (sums impl_Angle_compare_ls) 41 Go.Proofs.Try.f41 (encL impl_Angle_compare_s.a v)).run = (impl_Angle_compare_s.gen v).bind fun y => some (impl_Angle_compare_s.out y) := by
  rintro ⟨a, ⟨b, _⟩⟩
  show _ = (impl_Angle_compare a b).bind fun y : Int => some (impl_Angle_compare_s.out y)
  simp only [impl_Angle_compare, kb_ite, kb_some, kb_none, kb_bind, kb_alt]
  kernel_rfl
theorem impl_Angle_compare_is : FnIs Go.Proofs.Try.prog 41 (modeOf []) (phi [impl_Angle_compare_s]) := spec_is (c := impl_Angle_compare_c) seatOK impl_Angle_compare_t Go.Proofs.Try.func41 rfl (code := impl_Angle_compare_code) rfl rfl impl_Angle_compare_rs impl_Angle_compare_e
noncomputable def impl_IsLeaf_s : Spec := ⟨[.v (.pair (.pair (.int .i64) (.pair (.int .i64) (.unit))) (.pair (.pair (.int .i64) (.pair (.int .i64) (.unit))) (.unit))) .fr], Bool, fun v => impl_IsLeaf v.1, fun r => ([.v (.bool) .fr r], [])⟩
noncomputable def impl_IsLeaf_ls : List LSum := []
noncomputable def impl_IsLeaf_tab : List Row := [⟨40, [], [impl_IsAngle_s]⟩, ⟨41, [], [impl_Angle_compare_s]⟩]
theorem impl_IsLeaf_t : ∀ r, r ∈ impl_IsLeaf_tab → RowIs Go.Proofs.Try.prog r := tab_cons (impl_IsAngle_is) (tab_cons (impl_Angle_compare_is) (tab_nil))
theorem impl_IsLeaf_rs : RoundsOK (mkCtx Go.K.Link.seat impl_IsLeaf_c impl_IsLeaf_tab) (sums impl_IsLeaf_ls) (loopsOf 0 impl_IsLeaf_code) impl_IsLeaf_ls := trivial
theorem impl_IsLeaf_e : ∀ v, (evFn (mkCtx Go.K.Link.seat impl_IsLeaf_c impl_IsLeaf_tab) (sums impl_IsLeaf_ls) 30 Go.Proofs.Try.f30 (encL impl_IsLeaf_s.a v)).run = (impl_IsLeaf_s.gen v).bind fun y => some (impl_IsLeaf_s.out y) := by
  rintro ⟨l, _⟩
  show _ = (impl_IsLeaf l).bind fun y : Bool => some (impl_IsLeaf_s.out y)
  simp only [impl_IsLeaf, kb_ite, kb_some, kb_none, kb_bind, kb_alt]
  kernel_rfl
theorem impl_IsLeaf_is : FnIs Go.Proofs.Try.prog 30 (modeOf []) (phi [impl_IsLeaf_s]) := spec_is (c := impl_IsLeaf_c) seatOK impl_IsLeaf_t Go.Proofs.Try.func30 rfl (code := impl_IsLeaf_code) rfl rfl impl_IsLeaf_rs impl_IsLeaf_e
noncomputable def impl_areAll_impl_Leaf_f1_s : Spec := ⟨[.v (.pair (.pair (.int .i64) (.pair (.int .i64) (.unit))) (.pair (.pair (.int .i64) (.pair (.int .i64) (.unit))) (.unit))) .fr, .pfn 30 [] []], Bool, fun v => impl_areAll_impl_Leaf_f1 v.1, fun r => ([.v (.bool) .fr r], [])⟩
noncomputable def impl_areAll_impl_Leaf_f1_ls : List LSum := []
noncomputable def impl_areAll_impl_Leaf_f1_tab : List Row := [⟨30, [], [impl_IsLeaf_s]⟩]
theorem impl_areAll_impl_Leaf_f1_t : ∀ r, r ∈ impl_areAll_impl_Leaf_f1_tab → RowIs Go.Proofs.Try.prog r := tab_cons (impl_IsLeaf_is) (tab_nil)
theorem impl_areAll_impl_Leaf_f1_rs : RoundsOK (mkCtx Go.K.Link.seat impl_areAll_impl_Leaf_f1_c impl_areAll_impl_Leaf_f1_tab) (sums impl_areAll_impl_Leaf_f1_ls) (loopsOf 0 impl_areAll_impl_Leaf_f1_code) impl_areAll_impl_Leaf_f1_ls := trivial
theorem impl_areAll_impl_Leaf_f1_e : ∀ v, (evFn (mkCtx Go.K.Link.seat impl_areAll_impl_Leaf_f1_c impl_areAll_impl_Leaf_f1_tab) (sums impl_areAll_impl_Leaf_f1_ls) 39 Go.Proofs.Try.f39 (encL impl_areAll_impl_Leaf_f1_s.a v)).run = (impl_areAll_impl_Leaf_f1_s.gen v).bind fun y => some (impl_areAll_impl_Leaf_f1_s.out y) := by
  rintro ⟨x, ⟨⟨_, _⟩, _⟩⟩
  show _ = (impl_areAll_impl_Leaf_f1 x).bind fun y : Bool => some (impl_areAll_impl_Leaf_f1_s.out y)
  simp only [impl_areAll_impl_Leaf_f1, kb_ite, kb_some, kb_none, kb_bind, kb_alt]
  kernel_rfl
theorem impl_areAll_impl_Leaf_f1_is : FnIs Go.Proofs.Try.prog 39 (modeOf []) (phi [impl_areAll_impl_Leaf_f1_s]) := spec_is (c := impl_areAll_impl_Leaf_f1_c) seatOK impl_areAll_impl_Leaf_f1_t Go.Proofs.Try.func39 rfl (code := impl_areAll_impl_Leaf_f1_code) rfl rfl impl_areAll_impl_Leaf_f1_rs impl_areAll_impl_Leaf_f1_e
noncomputable def slices_IndexFunc__impl_Leaf_impl_Leaf_l0_s : LSum := ⟨0, ⟨[(0, .val (.sl 39 (.pair (.pair (.int .i64) (.pair (.int .i64) (.unit))) (.pair (.pair (.int .i64) (.pair (.int .i64) (.unit))) (.unit)))) .fr), (0, .fnl 39 [] [.arg (.pfn 30 [] [])]), (5, .val (.int .i64) .fr), (0, .val (.int .i64) .fr)], 10⟩, (.ret, ⟨[(4, .val (.int .i64) .fr)], 14⟩), [(.exit 0, ⟨[], 19⟩)], slices_IndexFunc__impl_Leaf_impl_Leaf_l0⟩
noncomputable def slices_IndexFunc__impl_Leaf_impl_Leaf_s : Spec := ⟨[.v (.sl 39 (.pair (.pair (.int .i64) (.pair (.int .i64) (.unit))) (.pair (.pair (.int .i64) (.pair (.int .i64) (.unit))) (.unit)))) .fr, .fn 39 [] [.pfn 30 [] []]], Int, fun v => slices_IndexFunc__impl_Leaf_impl_Leaf v.1, fun r => ([.v (.int .i64) .fr r], [])⟩
noncomputable def slices_IndexFunc__impl_Leaf_impl_Leaf_ls : List LSum := [slices_IndexFunc__impl_Leaf_impl_Leaf_l0_s]
noncomputable def slices_IndexFunc__impl_Leaf_impl_Leaf_tab : List Row := [⟨39, [], [impl_areAll_impl_Leaf_f1_s]⟩]
theorem slices_IndexFunc__impl_Leaf_impl_Leaf_t : ∀ r, r ∈ slices_IndexFunc__impl_Leaf_impl_Leaf_tab → RowIs Go.Proofs.Try.prog r := tab_cons (impl_areAll_impl_Leaf_f1_is) (tab_nil)
theorem slices_IndexFunc__impl_Leaf_impl_Leaf_l0_r : RoundIs (mkCtx Go.K.Link.seat slices_IndexFunc__impl_Leaf_impl_Leaf_c slices_IndexFunc__impl_Leaf_impl_Leaf_tab) (sums slices_IndexFunc__impl_Leaf_impl_Leaf_ls) 0 (bodyAt (loopsOf 0 slices_IndexFunc__impl_Leaf_impl_Leaf_code) 0) slices_IndexFunc__impl_Leaf_impl_Leaf_l0_s := by
  rintro ⟨s, ⟨_, ⟨⟨_, _⟩, _⟩, ⟨t7, ⟨t8, _⟩⟩⟩⟩
  show _ = (slices_IndexFunc__impl_Leaf_impl_Leaf_l0 (s, ((), (((), ()), ()), (t7, (t8, ()))))).bind fun r : (Ctl ((List ((Int × (Int × Unit)) × ((Int × (Int × Unit)) × Unit))) × Unit × ((Unit × Unit) × Unit) × Int × Int × Unit) ((Int × Unit) ⊕ (Unit))) => some (ctlVal slices_IndexFunc__impl_Leaf_impl_Leaf_l0_s r)
  simp only [slices_IndexFunc__impl_Leaf_impl_Leaf_l0, kb_ite, kb_some, kb_none, kb_bind, kb_alt]
  kernel_rfl
theorem slices_IndexFunc__impl_Leaf_impl_Leaf_rs : RoundsOK (mkCtx Go.K.Link.seat slices_IndexFunc__impl_Leaf_impl_Leaf_c slices_IndexFunc__impl_Leaf_impl_Leaf_tab) (sums slices_IndexFunc__impl_Leaf_impl_Leaf_ls) (loopsOf 0 slices_IndexFunc__impl_Leaf_impl_Leaf_code) slices_IndexFunc__impl_Leaf_impl_Leaf_ls := ⟨⟨rfl, rfl, slices_IndexFunc__impl_Leaf_impl_Leaf_l0_r⟩, trivial⟩
theorem slices_IndexFunc__impl_Leaf_impl_Leaf_e : ∀ v, (evFn (mkCtx Go.K.Link.seat slices_IndexFunc__impl_Leaf_impl_Leaf_c slices_IndexFunc__impl_Leaf_impl_Leaf_tab) (sums slices_IndexFunc__impl_Leaf_impl_Leaf_ls) 43 Go.Proofs.Try.f43 (encL slices_IndexFunc__impl_Leaf_impl_Leaf_s.a v)).run = (slices_IndexFunc__impl_Leaf_impl_Leaf_s.gen v).bind fun y => some (slices_IndexFunc__impl_Leaf_impl_Leaf_s.out y) := by
  rintro ⟨s, ⟨⟨_, ⟨⟨_, _⟩, _⟩⟩, _⟩⟩
  show _ = (slices_IndexFunc__impl_Leaf_impl_Leaf s).bind fun y : Int => some (slices_IndexFunc__impl_Leaf_impl_Leaf_s.out y)
  simp only [slices_IndexFunc__impl_Leaf_impl_Leaf, kb_ite, kb_some, kb_none, kb_bind, kb_alt]
  kernel_rfl
theorem slices_IndexFunc__impl_Leaf_impl_Leaf_is : FnIs Go.Proofs.Try.prog 43 (modeOf []) (phi [slices_IndexFunc__impl_Leaf_impl_Leaf_s]) := spec_is (c := slices_IndexFunc__impl_Leaf_impl_Leaf_c) seatOK slices_IndexFunc__impl_Leaf_impl_Leaf_t Go.Proofs.Try.func43 rfl (code := slices_IndexFunc__impl_Leaf_impl_Leaf_code) rfl rfl slices_IndexFunc__impl_Leaf_impl_Leaf_rs slices_IndexFunc__impl_Leaf_impl_Leaf_e
noncomputable def slices_ContainsFunc__impl_Leaf_impl_Leaf_s : Spec := ⟨[.v (.sl 39 (.pair (.pair (.int .i64) (.pair (.int .i64) (.unit))) (.pair (.pair (.int .i64) (.pair (.int .i64) (.unit))) (.unit)))) .fr, .fn 39 [] [.pfn 30 [] []]], Bool, fun v => slices_ContainsFunc__impl_Leaf_impl_Leaf v.1, fun r => ([.v (.bool) .fr r], [])⟩
noncomputable def slices_ContainsFunc__impl_Leaf_impl_Leaf_ls : List LSum := []
noncomputable def slices_ContainsFunc__impl_Leaf_impl_Leaf_tab : List Row := [⟨43, [], [slices_IndexFunc__impl_Leaf_impl_Leaf_s]⟩]
theorem slices_ContainsFunc__impl_Leaf_impl_Leaf_t : ∀ r, r ∈ slices_ContainsFunc__impl_Leaf_impl_Leaf_tab → RowIs Go.Proofs.Try.prog r := tab_cons (slices_IndexFunc__impl_Leaf_impl_Leaf_is) (tab_nil)
theorem slices_ContainsFunc__impl_Leaf_impl_Leaf_rs : RoundsOK (mkCtx Go.K.Link.seat slices_ContainsFunc__impl_Leaf_impl_Leaf_c slices_ContainsFunc__impl_Leaf_impl_Leaf_tab) (sums slices_ContainsFunc__impl_Leaf_impl_Leaf_ls) (loopsOf 0 slices_ContainsFunc__impl_Leaf_impl_Leaf_code) slices_ContainsFunc__impl_Leaf_impl_Leaf_ls := trivial
theorem slices_ContainsFunc__impl_Leaf_impl_Leaf_e : ∀ v, (evFn (mkCtx Go.K.Link.seat slices_ContainsFunc__impl_Leaf_impl_Leaf_c slices_ContainsFunc__impl_Leaf_impl_Leaf_tab) (sums slices_ContainsFunc__impl_Leaf_impl_Leaf_ls) 32 Go.Proofs.Try.f32 (encL slices_ContainsFunc__impl_Leaf_impl_Leaf_s.a v)).run = (slices_ContainsFunc__impl_Leaf_impl_Leaf_s.gen v).bind fun y => some (slices_ContainsFunc__impl_Leaf_impl_Leaf_s.out y) := by
  rintro ⟨s, ⟨⟨_, ⟨⟨_, _⟩, _⟩⟩, _⟩⟩
  show _ = (slices_ContainsFunc__impl_Leaf_impl_Leaf s).bind fun y : Bool => some (slices_ContainsFunc__impl_Leaf_impl_Leaf_s.out y)
  simp only [slices_ContainsFunc__impl_Leaf_impl_Leaf, kb_ite, kb_some, kb_none, kb_bind, kb_alt]
  kernel_rfl
theorem slices_ContainsFunc__impl_Leaf_impl_Leaf_is : FnIs Go.Proofs.Try.prog 32 (modeOf []) (phi [slices_ContainsFunc__impl_Leaf_impl_Leaf_s]) := spec_is (c := slices_ContainsFunc__impl_Leaf_impl_Leaf_c) seatOK slices_ContainsFunc__impl_Leaf_impl_Leaf_t Go.Proofs.Try.func32 rfl (code := slices_ContainsFunc__impl_Leaf_impl_Leaf_code) rfl rfl slices_ContainsFunc__impl_Leaf_impl_Leaf_rs slices_ContainsFunc__impl_Leaf_impl_Leaf_e
noncomputable def impl_areAll_impl_Leaf_s : Spec := ⟨[.v (.sl 39 (.pair (.pair (.int .i64) (.pair (.int .i64) (.unit))) (.pair (.pair (.int .i64) (.pair (.int .i64) (.unit))) (.unit)))) .fr, .fn 30 [] []], Bool, fun v => impl_areAll_impl_Leaf v.1, fun r => ([.v (.bool) .fr r], [])⟩
noncomputable def impl_areAll_impl_Leaf_ls : List LSum := []
noncomputable def impl_areAll_impl_Leaf_tab : List Row := [⟨32, [], [slices_ContainsFunc__impl_Leaf_impl_Leaf_s]⟩]
theorem impl_areAll_impl_Leaf_t : ∀ r, r ∈ impl_areAll_impl_Leaf_tab → RowIs Go.Proofs.Try.prog r := tab_cons (slices_ContainsFunc__impl_Leaf_impl_Leaf_is) (tab_nil)
theorem impl_areAll_impl_Leaf_rs : RoundsOK (mkCtx Go.K.Link.seat impl_areAll_impl_Leaf_c impl_areAll_impl_Leaf_tab) (sums impl_areAll_impl_Leaf_ls) (loopsOf 0 impl_areAll_impl_Leaf_code) impl_areAll_impl_Leaf_ls := trivial
theorem impl_areAll_impl_Leaf_e : ∀ v, (evFn (mkCtx Go.K.Link.seat impl_areAll_impl_Leaf_c impl_areAll_impl_Leaf_tab) (sums impl_areAll_impl_Leaf_ls) 29 Go.Proofs.Try.f29 (encL impl_areAll_impl_Leaf_s.a v)).run = (impl_areAll_impl_Leaf_s.gen v).bind fun y => some (impl_areAll_impl_Leaf_s.out y) := by
  rintro ⟨list, ⟨⟨_, _⟩, _⟩⟩
  show _ = (impl_areAll_impl_Leaf list).bind fun y : Bool => some (impl_areAll_impl_Leaf_s.out y)
  simp only [impl_areAll_impl_Leaf, kb_ite, kb_some, kb_none, kb_bind, kb_alt]
  kernel_rfl
theorem impl_areAll_impl_Leaf_is : FnIs Go.Proofs.Try.prog 29 (modeOf []) (phi [impl_areAll_impl_Leaf_s]) := spec_is (c := impl_areAll_impl_Leaf_c) seatOK impl_areAll_impl_Leaf_t Go.Proofs.Try.func29 rfl (code := impl_areAll_impl_Leaf_code) rfl rfl impl_areAll_impl_Leaf_rs impl_areAll_impl_Leaf_e
noncomputable def impl_Leaf_compare_code : Code := (Go.Proofs.Try.f31.body).getD .skip
def impl_Leaf_compare_c : Cfg := ⟨31, [], [], [], []⟩
noncomputable def cmp_Or_int_code : Code := (Go.Proofs.Try.f42.body).getD .skip
def cmp_Or_int_c : Cfg := ⟨42, [], [[0, 3, 6, 7, 8], [3], [2]], [], []⟩
noncomputable def cmp_Or_int_l0_s : LSum := ⟨0, ⟨[(0, .val (.sl 3 (.int .i64)) .fr), (2, .val (.int .i64) .fr), (2, .val (.sl 3 (.int .i64)) .fr), (0, .val (.int .i64) .fr), (0, .val (.int .i64) .fr)], 9⟩, (.ret, ⟨[(2, .val (.int .i64) .fr)], 15⟩), [(.exit 0, ⟨[(3, .val (.int .i64) .fr)], 14⟩)], cmp_Or_int_l0⟩
noncomputable def cmp_Or_int_s : Spec := ⟨[.v (.sl 3 (.int .i64)) .fr], Int, fun v => cmp_Or_int v.1, fun r => ([.v (.int .i64) .fr r], [])⟩
noncomputable def cmp_Or_int_ls : List LSum := [cmp_Or_int_l0_s]
noncomputable def cmp_Or_int_tab : List Row := []
theorem cmp_Or_int_t : ∀ r, r ∈ cmp_Or_int_tab → RowIs Go.Proofs.Try.prog r := tab_nil
theorem cmp_Or_int_l0_r : RoundIs (mkCtx Go.K.Link.seat cmp_Or_int_c cmp_Or_int_tab) (sums cmp_Or_int_ls) 0 (bodyAt (loopsOf 0 cmp_Or_int_code) 0) cmp_Or_int_l0_s := by
  rintro ⟨vals, ⟨zero, ⟨t6, ⟨t7, ⟨t8, _⟩⟩⟩⟩⟩
  show _ = (cmp_Or_int_l0 (vals, (zero, (t6, (t7, (t8, ())))))).bind fun r : (Ctl ((List Int) × Int × (List Int) × Int × Int × Unit) ((Int × Unit) ⊕ (Int × Unit))) => some (ctlVal cmp_Or_int_l0_s r)
  simp only [cmp_Or_int_l0, kb_ite, kb_some, kb_none, kb_bind, kb_alt]
  kernel_rfl
theorem cmp_Or_int_rs : RoundsOK (mkCtx Go.K.Link.seat cmp_Or_int_c cmp_Or_int_tab) (sums cmp_Or_int_ls) (loopsOf 0 cmp_Or_int_code) cmp_Or_int_ls := ⟨⟨rfl, rfl, cmp_Or_int_l0_r⟩, trivial⟩
theorem cmp_Or_int_e : ∀ v, (evFn (mkCtx Go.K.Link.seat cmp_Or_int_c cmp_Or_int_tab) (sums cmp_Or_int_ls) 42 Go.Proofs.Try.f42 (encL cmp_Or_int_s.a v)).run = (cmp_Or_int_s.gen v).bind fun y => some (cmp_Or_int_s.out y) := by
  rintro ⟨vals, _⟩
  show _ = (cmp_Or_int vals).bind fun y : Int => some (cmp_Or_int_s.out y)
  simp only [cmp_Or_int, kb_ite, kb_some, kb_none, kb_bind, kb_alt]
  kernel_rfl
theorem cmp_Or_int_is : FnIs Go.Proofs.Try.prog 42 (modeOf []) (phi [cmp_Or_int_s]) := spec_is (c := cmp_Or_int_c) seatOK cmp_Or_int_t Go.Proofs.Try.func42 rfl (code := cmp_Or_int_code) rfl rfl cmp_Or_int_rs cmp_Or_int_e
noncomputable def impl_Leaf_compare_s : Spec := ⟨[.v (.pair (.pair (.int .i64) (.pair (.int .i64) (.unit))) (.pair (.pair (.int .i64) (.pair (.int .i64) (.unit))) (.unit))) .fr, .v (.pair (.pair (.int .i64) (.pair (.int .i64) (.unit))) (.pair (.pair (.int .i64) (.pair (.int .i64) (.unit))) (.unit))) .fr], Int, fun v => impl_Leaf_compare v.1 v.2.1, fun r => ([.v (.int .i64) .fr r], [])⟩
noncomputable def impl_Leaf_compare_ls : List LSum := []
noncomputable def impl_Leaf_compare_tab : List Row := [⟨41, [], [impl_Angle_compare_s]⟩, ⟨42, [], [cmp_Or_int_s]⟩]
theorem impl_Leaf_compare_t : ∀ r, r ∈ impl_Leaf_compare_tab → RowIs Go.Proofs.Try.prog r := tab_cons (impl_Angle_compare_is) (tab_cons (cmp_Or_int_is) (tab_nil))
theorem impl_Leaf_compare_rs : RoundsOK (mkCtx Go.K.Link.seat impl_Leaf_compare_c impl_Leaf_compare_tab) (sums impl_Leaf_compare_ls) (loopsOf 0 impl_Leaf_compare_code) impl_Leaf_compare_ls := trivial
theorem impl_Leaf_compare_e : ∀ v, (evFn (mkCtx Go.K.Link.seat impl_Leaf_compare_c impl_Leaf_compare_tab) (sums impl_Leaf_compare_ls) 31 Go.Proofs.Try.f31 (encL impl_Leaf_compare_s.a v)).run = (impl_Leaf_compare_s.gen v).bind fun y => some (impl_Leaf_compare_s.out y) := by
  rintro ⟨l, ⟨m, _⟩⟩
  show _ = (impl_Leaf_compare l m).bind fun y : Int => some (impl_Leaf_compare_s.out y)
  simp only [impl_Leaf_compare, kb_ite, kb_some, kb_none, kb_bind, kb_alt]
  kernel_rfl
theorem impl_Leaf_compare_is : FnIs Go.Proofs.Try.prog 31 (modeOf []) (phi [impl_Leaf_compare_s]) := spec_is (c := impl_Leaf_compare_c) seatOK impl_Leaf_compare_t Go.Proofs.Try.func31 rfl (code := impl_Leaf_compare_code) rfl rfl impl_Leaf_compare_rs impl_Leaf_compare_e
noncomputable def slices_ContainsFunc__impl_Leaf_impl_Leaf_v2_code : Code := (Go.Proofs.Try.f32.body).getD .skip
def slices_ContainsFunc__impl_Leaf_impl_Leaf_v2_c : Cfg := ⟨32, [], [], [], []⟩
noncomputable def slices_IndexFunc__impl_Leaf_impl_Leaf_v2_code : Code := (Go.Proofs.Try.f43.body).getD .skip
def slices_IndexFunc__impl_Leaf_impl_Leaf_v2_c : Cfg := ⟨43, [], [[0, 1, 7, 8], [], [4]], [], []⟩
noncomputable def impl_Leaf_cross_code : Code := (Go.Proofs.Try.f33.body).getD .skip
def impl_Leaf_cross_c : Cfg := ⟨33, [], [], [], []⟩
noncomputable def impl_order_code : Code := (Go.Proofs.Try.f44.body).getD .skip
def impl_order_c : Cfg := ⟨44, [], [], [], []⟩
noncomputable def impl_Angle_minus_code : Code := (Go.Proofs.Try.f53.body).getD .skip
def impl_Angle_minus_c : Cfg := ⟨53, [], [], [], []⟩
noncomputable def impl_angle_code : Code := (Go.Proofs.Try.f58.body).getD .skip
def impl_angle_c : Cfg := ⟨58, [], [], [], []⟩
noncomputable def impl_angle_s : Spec := ⟨[.v (.int .i64) .fr, .v (.int .i64) .fr], (Int × (Int × Unit)), fun v => impl_angle v.1 v.2.1, fun r => ([.v (.pair (.int .i64) (.pair (.int .i64) (.unit))) .fr r], [])⟩
noncomputable def impl_angle_ls : List LSum := []
noncomputable def impl_angle_tab : List Row := [⟨51, [], [impl_divisor_s]⟩]
theorem impl_angle_t : ∀ r, r ∈ impl_angle_tab → RowIs Go.Proofs.Try.prog r := tab_cons (impl_divisor_is) (tab_nil)
theorem impl_angle_rs : RoundsOK (mkCtx Go.K.Link.seat impl_angle_c impl_angle_tab) (sums impl_angle_ls) (loopsOf 0 impl_angle_code) impl_angle_ls := trivial
theorem impl_angle_e : ∀ v, (evFn (mkCtx Go.K.Link.seat impl_angle_c impl_angle_tab) (sums impl_angle_ls) 58 Go.Proofs.Try.f58 (encL impl_angle_s.a v)).run = (impl_angle_s.gen v).bind fun y => some (impl_angle_s.out y) := by
  rintro ⟨num, ⟨den, _⟩⟩
  show _ = (impl_angle num den).bind fun y : (Int × (Int × Unit)) => some (impl_angle_s.out y)
  simp only [impl_angle, kb_ite, kb_some, kb_none, kb_bind, kb_alt]
  kernel_rfl
theorem impl_angle_is : FnIs Go.Proofs.Try.prog 58 (modeOf []) (phi [impl_angle_s]) := spec_is (c := impl_angle_c) seatOK impl_angle_t Go.Proofs.Try.func58 rfl (code := impl_angle_code) rfl rfl impl_angle_rs impl_angle_e
noncomputable def impl_Angle_minus_s : Spec := ⟨[.v (.pair (.int .i64) (.pair (.int .i64) (.unit))) .fr, .v (.pair (.int .i64) (.pair (.int .i64) (.unit))) .fr], (Int × (Int × Unit)), fun v => impl_Angle_minus v.1 v.2.1, fun r => ([.v (.pair (.int .i64) (.pair (.int .i64) (.unit))) .fr r], [])⟩
noncomputable def impl_Angle_minus_ls : List LSum := []
noncomputable def impl_Angle_minus_tab : List Row := [⟨58, [], [impl_angle_s]⟩]
theorem impl_Angle_minus_t : ∀ r, r ∈ impl_Angle_minus_tab → RowIs Go.Proofs.Try.prog r := tab_cons (impl_angle_is) (tab_nil)
theorem impl_Angle_minus_rs : RoundsOK (mkCtx Go.K.Link.seat impl_Angle_minus_c impl_Angle_minus_tab) (sums impl_Angle_minus_ls) (loopsOf 0 impl_Angle_minus_code) impl_Angle_minus_ls := trivial
theorem impl_Angle_minus_e : ∀ v, (evFn (mkCtx Go.K.Link.seat impl_Angle_minus_c impl_Angle_minus_tab) (sums impl_Angle_minus_ls) 53 Go.Proofs.Try.f53 (encL impl_Angle_minus_s.a v)).run = (impl_Angle_minus_s.gen v).bind fun y => some (impl_Angle_minus_s.out y) := by
  rintro ⟨a, ⟨b, _⟩⟩
  show _ = (impl_Angle_minus a b).bind fun y : (Int × (Int × Unit)) => some (impl_Angle_minus_s.out y)
  simp only [impl_Angle_minus, kb_ite, kb_some, kb_none, kb_bind, kb_alt]
  kernel_rfl
theorem impl_Angle_minus_is : FnIs Go.Proofs.Try.prog 53 (modeOf []) (phi [impl_Angle_minus_s]) := spec_is (c := impl_Angle_minus_c) seatOK impl_Angle_minus_t Go.Proofs.Try.func53 rfl (code := impl_Angle_minus_code) rfl rfl impl_Angle_minus_rs impl_Angle_minus_e
noncomputable def impl_order_s : Spec := ⟨[.v (.pair (.int .i64) (.pair (.int .i64) (.unit))) .fr, .v (.pair (.int .i64) (.pair (.int .i64) (.unit))) .fr, .v (.pair (.int .i64) (.pair (.int .i64) (.unit))) .fr], Int, fun v => impl_order v.1 v.2.1 v.2.2.1, fun r => ([.v (.int .i64) .fr r], [])⟩
noncomputable def impl_order_ls : List LSum := []
noncomputable def impl_order_tab : List Row := [⟨41, [], [impl_Angle_compare_s]⟩, ⟨53, [], [impl_Angle_minus_s]⟩]
theorem impl_order_t : ∀ r, r ∈ impl_order_tab → RowIs Go.Proofs.Try.prog r := tab_cons (impl_Angle_compare_is) (tab_cons (impl_Angle_minus_is) (tab_nil))
theorem impl_order_rs : RoundsOK (mkCtx Go.K.Link.seat impl_order_c impl_order_tab) (sums impl_order_ls) (loopsOf 0 impl_order_code) impl_order_ls := trivial
theorem impl_order_e : ∀ v, (evFn (mkCtx Go.K.Link.seat impl_order_c impl_order_tab) (sums impl_order_ls) 44 Go.Proofs.Try.f44 (encL impl_order_s.a v)).run = (impl_order_s.gen v).bind fun y => some (impl_order_s.out y) := by
  rintro ⟨a, ⟨b, ⟨c, _⟩⟩⟩
  show _ = (impl_order a b c).bind fun y : Int => some (impl_order_s.out y)
  simp only [impl_order, kb_ite, kb_some, kb_none, kb_bind, kb_alt]
  kernel_rfl
theorem impl_order_is : FnIs Go.Proofs.Try.prog 44 (modeOf []) (phi [impl_order_s]) := spec_is (c := impl_order_c) seatOK impl_order_t Go.Proofs.Try.func44 rfl (code := impl_order_code) rfl rfl impl_order_rs impl_order_e
noncomputable def impl_Leaf_cross_s : Spec := ⟨[.v (.pair (.pair (.int .i64) (.pair (.int .i64) (.unit))) (.pair (.pair (.int .i64) (.pair (.int .i64) (.unit))) (.unit))) .fr, .v (.pair (.pair (.int .i64) (.pair (.int .i64) (.unit))) (.pair (.pair (.int .i64) (.pair (.int .i64) (.unit))) (.unit))) .fr], Bool, fun v => impl_Leaf_cross v.1 v.2.1, fun r => ([.v (.bool) .fr r], [])⟩
noncomputable def impl_Leaf_cross_ls : List LSum := []
noncomputable def impl_Leaf_cross_tab : List Row := [⟨44, [], [impl_order_s]⟩]
theorem impl_Leaf_cross_t : ∀ r, r ∈ impl_Leaf_cross_tab → RowIs Go.Proofs.Try.prog r := tab_cons (impl_order_is) (tab_nil)
theorem impl_Leaf_cross_rs : RoundsOK (mkCtx Go.K.Link.seat impl_Leaf_cross_c impl_Leaf_cross_tab) (sums impl_Leaf_cross_ls) (loopsOf 0 impl_Leaf_cross_code) impl_Leaf_cross_ls := trivial
theorem impl_Leaf_cross_e : ∀ v, (evFn (mkCtx Go.K.Link.seat impl_Leaf_cross_c impl_Leaf_cross_tab) (sums impl_Leaf_cross_ls) 33 Go.Proofs.Try.f33 (encL impl_Leaf_cross_s.a v)).run = (impl_Leaf_cross_s.gen v).bind fun y => some (impl_Leaf_cross_s.out y) := by
  rintro ⟨l, ⟨m, _⟩⟩
  show _ = (impl_Leaf_cross l m).bind fun y : Bool => some (impl_Leaf_cross_s.out y)
  simp only [impl_Leaf_cross, kb_ite, kb_some, kb_none, kb_bind, kb_alt]
  kernel_rfl
theorem impl_Leaf_cross_is : FnIs Go.Proofs.Try.prog 33 (modeOf []) (phi [impl_Leaf_cross_s]) := spec_is (c := impl_Leaf_cross_c) seatOK impl_Leaf_cross_t Go.Proofs.Try.func33 rfl (code := impl_Leaf_cross_code) rfl rfl impl_Leaf_cross_rs impl_Leaf_cross_e
noncomputable def slices_IndexFunc__impl_Leaf_impl_Leaf_v2_l0_s : LSum := ⟨0, ⟨[(0, .val (.sl 39 (.pair (.pair (.int .i64) (.pair (.int .i64) (.unit))) (.pair (.pair (.int .i64) (.pair (.int .i64) (.unit))) (.unit)))) .fr), (0, .fnl 33 [.v (.pair (.pair (.int .i64) (.pair (.int .i64) (.unit))) (.pair (.pair (.int .i64) (.pair (.int .i64) (.unit))) (.unit))) .fr] []), (5, .val (.int .i64) .fr), (0, .val (.int .i64) .fr)], 10⟩, (.ret, ⟨[(4, .val (.int .i64) .fr)], 14⟩), [(.exit 0, ⟨[], 19⟩)], slices_IndexFunc__impl_Leaf_impl_Leaf_v2_l0⟩
noncomputable def slices_IndexFunc__impl_Leaf_impl_Leaf_v2_s : Spec := ⟨[.v (.sl 39 (.pair (.pair (.int .i64) (.pair (.int .i64) (.unit))) (.pair (.pair (.int .i64) (.pair (.int .i64) (.unit))) (.unit)))) .fr, .fn 33 [.v (.pair (.pair (.int .i64) (.pair (.int .i64) (.unit))) (.pair (.pair (.int .i64) (.pair (.int .i64) (.unit))) (.unit))) .fr] []], Int, fun v => slices_IndexFunc__impl_Leaf_impl_Leaf_v2 v.1 v.2.1.1.1, fun r => ([.v (.int .i64) .fr r], [])⟩
noncomputable def slices_IndexFunc__impl_Leaf_impl_Leaf_v2_ls : List LSum := [slices_IndexFunc__impl_Leaf_impl_Leaf_v2_l0_s]
noncomputable def slices_IndexFunc__impl_Leaf_impl_Leaf_v2_tab : List Row := [⟨33, [], [impl_Leaf_cross_s]⟩]
theorem slices_IndexFunc__impl_Leaf_impl_Leaf_v2_t : ∀ r, r ∈ slices_IndexFunc__impl_Leaf_impl_Leaf_v2_tab → RowIs Go.Proofs.Try.prog r := tab_cons (impl_Leaf_cross_is) (tab_nil)
theorem slices_IndexFunc__impl_Leaf_impl_Leaf_v2_l0_r : RoundIs (mkCtx Go.K.Link.seat slices_IndexFunc__impl_Leaf_impl_Leaf_v2_c slices_IndexFunc__impl_Leaf_impl_Leaf_v2_tab) (sums slices_IndexFunc__impl_Leaf_impl_Leaf_v2_ls) 0 (bodyAt (loopsOf 0 slices_IndexFunc__impl_Leaf_impl_Leaf_v2_code) 0) slices_IndexFunc__impl_Leaf_impl_Leaf_v2_l0_s := by
  rintro ⟨s, ⟨⟨f, _⟩, _, ⟨t7, ⟨t8, _⟩⟩⟩⟩
  show _ = (slices_IndexFunc__impl_Leaf_impl_Leaf_v2_l0 (s, ((f, ()), (), (t7, (t8, ()))))).bind fun r : (Ctl ((List ((Int × (Int × Unit)) × ((Int × (Int × Unit)) × Unit))) × (((Int × (Int × Unit)) × ((Int × (Int × Unit)) × Unit)) × Unit) × Unit × Int × Int × Unit) ((Int × Unit) ⊕ (Unit))) => some (ctlVal slices_IndexFunc__impl_Leaf_impl_Leaf_v2_l0_s r)
  simp only [slices_IndexFunc__impl_Leaf_impl_Leaf_v2_l0, kb_ite, kb_some, kb_none, kb_bind, kb_alt]
  kernel_rfl
theorem slices_IndexFunc__impl_Leaf_impl_Leaf_v2_rs : RoundsOK (mkCtx Go.K.Link.seat slices_IndexFunc__impl_Leaf_impl_Leaf_v2_c slices_IndexFunc__impl_Leaf_impl_Leaf_v2_tab) (sums slices_IndexFunc__impl_Leaf_impl_Leaf_v2_ls) (loopsOf 0 slices_IndexFunc__impl_Leaf_impl_Leaf_v2_code) slices_IndexFunc__impl_Leaf_impl_Leaf_v2_ls := ⟨⟨rfl, rfl, slices_IndexFunc__impl_Leaf_impl_Leaf_v2_l0_r⟩, trivial⟩
theorem slices_IndexFunc__impl_Leaf_impl_Leaf_v2_e : ∀ v, (evFn (mkCtx Go.K.Link.seat slices_IndexFunc__impl_Leaf_impl_Leaf_v2_c slices_IndexFunc__impl_Leaf_impl_Leaf_v2_tab) (sums slices_IndexFunc__impl_Leaf_impl_Leaf_v2_ls) 43 Go.Proofs.Try.f43 (encL slices_IndexFunc__impl_Leaf_impl_Leaf_v2_s.a v)).run = (slices_IndexFunc__impl_Leaf_impl_Leaf_v2_s.gen v).bind fun y => some (slices_IndexFunc__impl_Leaf_impl_Leaf_v2_s.out y) := by
  rintro ⟨s, ⟨⟨⟨f_0, _⟩, _⟩, _⟩⟩
  show _ = (slices_IndexFunc__impl_Leaf_impl_Leaf_v2 s f_0).bind fun y : Int => some (slices_IndexFunc__impl_Leaf_impl_Leaf_v2_s.out y)
  simp only [slices_IndexFunc__impl_Leaf_impl_Leaf_v2, kb_ite, kb_some, kb_none, kb_bind, kb_alt]
  kernel_rfl
theorem slices_IndexFunc__impl_Leaf_impl_Leaf_v2_is : FnIs Go.Proofs.Try.prog 43 (modeOf []) (phi [slices_IndexFunc__impl_Leaf_impl_Leaf_v2_s]) := spec_is (c := slices_IndexFunc__impl_Leaf_impl_Leaf_v2_c) seatOK slices_IndexFunc__impl_Leaf_impl_Leaf_v2_t Go.Proofs.Try.func43 rfl (code := slices_IndexFunc__impl_Leaf_impl_Leaf_v2_code) rfl rfl slices_IndexFunc__impl_Leaf_impl_Leaf_v2_rs slices_IndexFunc__impl_Leaf_impl_Leaf_v2_e
noncomputable def slices_ContainsFunc__impl_Leaf_impl_Leaf_v2_s : Spec := ⟨[.v (.sl 39 (.pair (.pair (.int .i64) (.pair (.int .i64) (.unit))) (.pair (.pair (.int .i64) (.pair (.int .i64) (.unit))) (.unit)))) .fr, .fn 33 [.v (.pair (.pair (.int .i64) (.pair (.int .i64) (.unit))) (.pair (.pair (.int .i64) (.pair (.int .i64) (.unit))) (.unit))) .fr] []], Bool, fun v => slices_ContainsFunc__impl_Leaf_impl_Leaf_v2 v.1 v.2.1.1.1, fun r => ([.v (.bool) .fr r], [])⟩
noncomputable def slices_ContainsFunc__impl_Leaf_impl_Leaf_v2_ls : List LSum := []
noncomputable def slices_ContainsFunc__impl_Leaf_impl_Leaf_v2_tab : List Row := [⟨43, [], [slices_IndexFunc__impl_Leaf_impl_Leaf_v2_s]⟩]
theorem slices_ContainsFunc__impl_Leaf_impl_Leaf_v2_t : ∀ r, r ∈ slices_ContainsFunc__impl_Leaf_impl_Leaf_v2_tab → RowIs Go.Proofs.Try.prog r := tab_cons (slices_IndexFunc__impl_Leaf_impl_Leaf_v2_is) (tab_nil)
theorem slices_ContainsFunc__impl_Leaf_impl_Leaf_v2_rs : RoundsOK (mkCtx Go.K.Link.seat slices_ContainsFunc__impl_Leaf_impl_Leaf_v2_c slices_ContainsFunc__impl_Leaf_impl_Leaf_v2_tab) (sums slices_ContainsFunc__impl_Leaf_impl_Leaf_v2_ls) (loopsOf 0 slices_ContainsFunc__impl_Leaf_impl_Leaf_v2_code) slices_ContainsFunc__impl_Leaf_impl_Leaf_v2_ls := trivial
theorem slices_ContainsFunc__impl_Leaf_impl_Leaf_v2_e : ∀ v, (evFn (mkCtx Go.K.Link.seat slices_ContainsFunc__impl_Leaf_impl_Leaf_v2_c slices_ContainsFunc__impl_Leaf_impl_Leaf_v2_tab) (sums slices_ContainsFunc__impl_Leaf_impl_Leaf_v2_ls) 32 Go.Proofs.Try.f32 (encL slices_ContainsFunc__impl_Leaf_impl_Leaf_v2_s.a v)).run = (slices_ContainsFunc__impl_Leaf_impl_Leaf_v2_s.gen v).bind fun y => some (slices_ContainsFunc__impl_Leaf_impl_Leaf_v2_s.out y) := by
  rintro ⟨s, ⟨⟨⟨f_0, _⟩, _⟩, _⟩⟩
  show _ = (slices_ContainsFunc__impl_Leaf_impl_Leaf_v2 s f_0).bind fun y : Bool => some (slices_ContainsFunc__impl_Leaf_impl_Leaf_v2_s.out y)
  simp only [slices_ContainsFunc__impl_Leaf_impl_Leaf_v2, kb_ite, kb_some, kb_none, kb_bind, kb_alt]
  kernel_rfl
theorem slices_ContainsFunc__impl_Leaf_impl_Leaf_v2_is : FnIs Go.Proofs.Try.prog 32 (modeOf []) (phi [slices_ContainsFunc__impl_Leaf_impl_Leaf_v2_s]) := spec_is (c := slices_ContainsFunc__impl_Leaf_impl_Leaf_v2_c) seatOK slices_ContainsFunc__impl_Leaf_impl_Leaf_v2_t Go.Proofs.Try.func32 rfl (code := slices_ContainsFunc__impl_Leaf_impl_Leaf_v2_code) rfl rfl slices_ContainsFunc__impl_Leaf_impl_Leaf_v2_rs slices_ContainsFunc__impl_Leaf_impl_Leaf_v2_e
noncomputable def impl_IsLamination_l0_s : LSum := ⟨0, ⟨[(0, .val (.sl 39 (.pair (.pair (.int .i64) (.pair (.int .i64) (.unit))) (.pair (.pair (.int .i64) (.pair (.int .i64) (.unit))) (.unit)))) .fr), (12, .val (.sl 39 (.pair (.pair (.int .i64) (.pair (.int .i64) (.unit))) (.pair (.pair (.int .i64) (.pair (.int .i64) (.unit))) (.unit)))) .fr), (0, .val (.int .i64) .fr), (0, .val (.int .i64) .fr)], 25⟩, (.ret, ⟨[(2, .val (.bool) .fr)], 38⟩), [(.exit 0, ⟨[], 41⟩)], impl_IsLamination_l0⟩
noncomputable def impl_IsLamination_s : Spec := ⟨[.v (.sl 39 (.pair (.pair (.int .i64) (.pair (.int .i64) (.unit))) (.pair (.pair (.int .i64) (.pair (.int .i64) (.unit))) (.unit)))) .fr], Bool, fun v => impl_IsLamination v.1, fun r => ([.v (.bool) .fr r], [])⟩
noncomputable def impl_IsLamination_ls : List LSum := [impl_IsLamination_l0_s]
noncomputable def impl_IsLamination_tab : List Row := [⟨29, [], [impl_areAll_impl_Leaf_s]⟩, ⟨31, [], [impl_Leaf_compare_s]⟩, ⟨32, [], [slices_ContainsFunc__impl_Leaf_impl_Leaf_v2_s]⟩]
theorem impl_IsLamination_t : ∀ r, r ∈ impl_IsLamination_tab → RowIs Go.Proofs.Try.prog r := tab_cons (impl_areAll_impl_Leaf_is) (tab_cons (impl_Leaf_compare_is) (tab_cons (slices_ContainsFunc__impl_Leaf_impl_Leaf_v2_is) (tab_nil)))
theorem impl_IsLamination_l0_r : RoundIs (mkCtx Go.K.Link.seat impl_IsLamination_c impl_IsLamination_tab) (sums impl_IsLamination_ls) 0 (bodyAt (loopsOf 0 impl_IsLamination_code) 0) impl_IsLamination_l0_s := by
  rintro ⟨list, ⟨t13, ⟨t14, ⟨t15, _⟩⟩⟩⟩
  show _ = (impl_IsLamination_l0 (list, (t13, (t14, (t15, ()))))).bind fun r : (Ctl ((List ((Int × (Int × Unit)) × ((Int × (Int × Unit)) × Unit))) × (List ((Int × (Int × Unit)) × ((Int × (Int × Unit)) × Unit))) × Int × Int × Unit) ((Bool × Unit) ⊕ (Unit))) => some (ctlVal impl_IsLamination_l0_s r)
  simp only [impl_IsLamination_l0, kb_ite, kb_some, kb_none, kb_bind, kb_alt]
  kernel_rfl
theorem impl_IsLamination_rs : RoundsOK (mkCtx Go.K.Link.seat impl_IsLamination_c impl_IsLamination_tab) (sums impl_IsLamination_ls) (loopsOf 0 impl_IsLamination_code) impl_IsLamination_ls := ⟨⟨rfl, rfl, impl_IsLamination_l0_r⟩, trivial⟩
theorem impl_IsLamination_e : ∀ v, (evFn (mkCtx Go.K.Link.seat impl_IsLamination_c impl_IsLamination_tab) (sums impl_IsLamination_ls) 16 Go.Proofs.Try.f16 (encL impl_IsLamination_s.a v)).run = (impl_IsLamination_s.gen v).bind fun y => some (impl_IsLamination_s.out y) := by
  rintro ⟨list, _⟩
  show _ = (impl_IsLamination list).bind fun y : Bool => some (impl_IsLamination_s.out y)
  simp only [impl_IsLamination, kb_ite, kb_some, kb_none, kb_bind, kb_alt]
  kernel_rfl
theorem impl_IsLamination_is : FnIs Go.Proofs.Try.prog 16 (modeOf []) (phi [impl_IsLamination_s]) := spec_is (c := impl_IsLamination_c) seatOK impl_IsLamination_t Go.Proofs.Try.func16 rfl (code := impl_IsLamination_code) rfl rfl impl_IsLamination_rs impl_IsLamination_e
noncomputable def impl_ends_code : Code := (Go.Proofs.Try.f17.body).getD .skip
def impl_ends_c : Cfg := ⟨17, [], [[0, 3, 6, 7, 8, 18], [3, 18], [2, 21]], [], []⟩
noncomputable def impl_ends_l0_s : LSum := ⟨0, ⟨[(0, .val (.sl 39 (.pair (.pair (.int .i64) (.pair (.int .i64) (.unit))) (.pair (.pair (.int .i64) (.pair (.int .i64) (.unit))) (.unit)))) .fr), (2, .val (.sl 37 (.pair (.int .i64) (.pair (.int .i64) (.unit)))) (.own .fr)), (2, .val (.sl 39 (.pair (.pair (.int .i64) (.pair (.int .i64) (.unit))) (.pair (.pair (.int .i64) (.pair (.int .i64) (.unit))) (.unit)))) .fr), (0, .val (.int .i64) .fr), (0, .val (.int .i64) .fr)], 13⟩, (.exit 0, ⟨[(3, .val (.sl 37 (.pair (.int .i64) (.pair (.int .i64) (.unit)))) (.own .fr))], 18⟩), [], impl_ends_l0⟩
noncomputable def impl_sorted_code : Code := (Go.Proofs.Try.f34.body).getD .skip
def impl_sorted_c : Cfg := ⟨34, [], [], [], []⟩
noncomputable def slices_Values__impl_Angle_impl_Angle_code : Code := (Go.Proofs.Try.f47.body).getD .skip
def slices_Values__impl_Angle_impl_Angle_c : Cfg := ⟨47, [], [], [], []⟩
noncomputable def slices_Values__impl_Angle_impl_Angle_s : Spec := ⟨[.v (.sl 37 (.pair (.int .i64) (.pair (.int .i64) (.unit)))) .fr], (List (Int × (Int × Unit))), fun v => slices_Values__impl_Angle_impl_Angle v.1, fun r => ([.fn 56 [] [.v (.ptr (.sl 37 (.pair (.int .i64) (.pair (.int .i64) (.unit))))) .fr r]], [])⟩
noncomputable def slices_Values__impl_Angle_impl_Angle_ls : List LSum := []
noncomputable def slices_Values__impl_Angle_impl_Angle_tab : List Row := []
theorem slices_Values__impl_Angle_impl_Angle_t : ∀ r, r ∈ slices_Values__impl_Angle_impl_Angle_tab → RowIs Go.Proofs.Try.prog r := tab_nil
theorem slices_Values__impl_Angle_impl_Angle_rs : RoundsOK (mkCtx Go.K.Link.seat slices_Values__impl_Angle_impl_Angle_c slices_Values__impl_Angle_impl_Angle_tab) (sums slices_Values__impl_Angle_impl_Angle_ls) (loopsOf 0 slices_Values__impl_Angle_impl_Angle_code) slices_Values__impl_Angle_impl_Angle_ls := trivial
theorem slices_Values__impl_Angle_impl_Angle_e : ∀ v, (evFn (mkCtx Go.K.Link.seat slices_Values__impl_Angle_impl_Angle_c slices_Values__impl_Angle_impl_Angle_tab) (sums slices_Values__impl_Angle_impl_Angle_ls) 47 Go.Proofs.Try.f47 (encL slices_Values__impl_Angle_impl_Angle_s.a v)).run = (slices_Values__impl_Angle_impl_Angle_s.gen v).bind fun y => some (slices_Values__impl_Angle_impl_Angle_s.out y) := by
  rintro ⟨s, _⟩
  show _ = (slices_Values__impl_Angle_impl_Angle s).bind fun y : (List (Int × (Int × Unit))) => some (slices_Values__impl_Angle_impl_Angle_s.out y)
  simp only [slices_Values__impl_Angle_impl_Angle, kb_ite, kb_some, kb_none, kb_bind, kb_alt]
  kernel_rfl
theorem slices_Values__impl_Angle_impl_Angle_is : FnIs Go.Proofs.Try.prog 47 (modeOf []) (phi [slices_Values__impl_Angle_impl_Angle_s]) := spec_is (c := slices_Values__impl_Angle_impl_Angle_c) seatOK slices_Values__impl_Angle_impl_Angle_t Go.Proofs.Try.func47 rfl (code := slices_Values__impl_Angle_impl_Angle_code) rfl rfl slices_Values__impl_Angle_impl_Angle_rs slices_Values__impl_Angle_impl_Angle_e
noncomputable def slices_SortedFunc_impl_Angle_code : Code := (Go.Proofs.Try.f46.body).getD .skip
def slices_SortedFunc_impl_Angle_c : Cfg := ⟨46, [], [], [], []⟩
noncomputable def slices_Collect_impl_Angle_s : Spec := ⟨[.fn 56 [] [.v (.ptr (.sl 37 (.pair (.int .i64) (.pair (.int .i64) (.unit))))) .fr]], List (Int × (Int × Unit)), fun v => slices_Collect_impl_Angle v.1.2.1, fun r => ([.v (.sl 37 (.pair (.int .i64) (.pair (.int .i64) (.unit)))) (.own .fr) r], [])⟩
theorem slices_Collect_impl_Angle_is : FnIs Go.Proofs.Try.prog 54 (modeOf []) (phi [slices_Collect_impl_Angle_s]) := collect_is ⟨Go.Proofs.Try.underlying44, by kernel_rfl, Go.Proofs.Try.isAgg44, Go.Proofs.Try.sizeOf44, Go.Proofs.Try.isAgg37, Go.Proofs.Try.sizeOf37, Go.Proofs.Try.zeroValue37⟩ (by decide) Go.Proofs.Try.underlying3 Go.Proofs.Try.underlying4 Go.Proofs.Try.func54 rfl rfl rfl rfl Go.Proofs.Try.func59 rfl rfl rfl rfl Go.Proofs.Try.func56 rfl rfl rfl rfl
noncomputable def slices_SortFunc__impl_Angle_impl_Angle_s : Spec := ⟨[.v (.sl 37 (.pair (.int .i64) (.pair (.int .i64) (.unit)))) (.own .fr), .fn 41 [] []], List (Int × (Int × Unit)), fun v => slices_SortFunc__impl_Angle_impl_Angle v.1, fun r => ([], [.v (.sl 37 (.pair (.int .i64) (.pair (.int .i64) (.unit)))) (.own .fr) r])⟩
theorem slices_SortFunc__impl_Angle_impl_Angle_is : FnIs Go.Proofs.Try.prog 55 (modeOf [.mut]) (phi [slices_SortFunc__impl_Angle_impl_Angle_s]) := sortFunc_is (cs := []) (cf := fun c x y => impl_Angle_compare x y ) Go.Proofs.Try.sortL55 ⟨_, Go.Proofs.Try.func55, rfl, rfl⟩ (T := 37) (e := (.pair (.int .i64) (.pair (.int .i64) (.unit)))) rfl rfl Go.Proofs.Try.isAgg37 Go.Proofs.Try.sizeOf37 impl_Angle_compare_is (fun c x y r h => by
  have e : (phi [impl_Angle_compare_s] (.v (.pair (.int .i64) (.pair (.int .i64) (.unit))) .fr x :: .v (.pair (.int .i64) (.pair (.int .i64) (.unit))) .fr y :: encL [] c)).run = (impl_Angle_compare x y ).bind fun r => some ([.v (.int .i64) .fr r], []) := by kernel_rfl
  rw [e]
  show (impl_Angle_compare x y ).bind _ = _
  rw [show impl_Angle_compare x y  = some r from h]
  rfl)
noncomputable def slices_SortedFunc_impl_Angle_s : Spec := ⟨[.fn 56 [] [.v (.ptr (.sl 37 (.pair (.int .i64) (.pair (.int .i64) (.unit))))) .fr], .fn 41 [] []], (List (Int × (Int × Unit))), fun v => slices_SortedFunc_impl_Angle v.1.2.1, fun r => ([.v (.sl 37 (.pair (.int .i64) (.pair (.int .i64) (.unit)))) (.own .fr) r], [])⟩
noncomputable def slices_SortedFunc_impl_Angle_ls : List LSum := []
noncomputable def slices_SortedFunc_impl_Angle_tab : List Row := [⟨54, [], [slices_Collect_impl_Angle_s]⟩, ⟨55, [.mut], [slices_SortFunc__impl_Angle_impl_Angle_s]⟩]
theorem slices_SortedFunc_impl_Angle_t : ∀ r, r ∈ slices_SortedFunc_impl_Angle_tab → RowIs Go.Proofs.Try.prog r := tab_cons (slices_Collect_impl_Angle_is) (tab_cons (slices_SortFunc__impl_Angle_impl_Angle_is) (tab_nil))
theorem slices_SortedFunc_impl_Angle_rs : RoundsOK (mkCtx Go.K.Link.seat slices_SortedFunc_impl_Angle_c slices_SortedFunc_impl_Angle_tab) (sums slices_SortedFunc_impl_Angle_ls) (loopsOf 0 slices_SortedFunc_impl_Angle_code) slices_SortedFunc_impl_Angle_ls := trivial
theorem slices_SortedFunc_impl_Angle_e : ∀ v, (evFn (mkCtx Go.K.Link.seat slices_SortedFunc_impl_Angle_c slices_SortedFunc_impl_Angle_tab) (sums slices_SortedFunc_impl_Angle_ls) 46 Go.Proofs.Try.f46 (encL slices_SortedFunc_impl_Angle_s.a v)).run = (slices_SortedFunc_impl_Angle_s.gen v).bind fun y => some (slices_SortedFunc_impl_Angle_s.out y) := by
  rintro ⟨⟨_, ⟨seq_0, _⟩⟩, ⟨⟨_, _⟩, _⟩⟩
  show _ = (slices_SortedFunc_impl_Angle seq_0).bind fun y : (List (Int × (Int × Unit))) => some (slices_SortedFunc_impl_Angle_s.out y)
  simp only [slices_SortedFunc_impl_Angle, kb_ite, kb_some, kb_none, kb_bind, kb_alt]
  kernel_rfl
theorem slices_SortedFunc_impl_Angle_is : FnIs Go.Proofs.Try.prog 46 (modeOf []) (phi [slices_SortedFunc_impl_Angle_s]) := spec_is (c := slices_SortedFunc_impl_Angle_c) seatOK slices_SortedFunc_impl_Angle_t Go.Proofs.Try.func46 rfl (code := slices_SortedFunc_impl_Angle_code) rfl rfl slices_SortedFunc_impl_Angle_rs slices_SortedFunc_impl_Angle_e
noncomputable def slices_Compact__impl_Angle_impl_Angle_code : Code := (Go.Proofs.Try.f45.body).getD .skip
def slices_Compact__impl_Angle_impl_Angle_c : Cfg := ⟨45, [.own], [[0, 3, 9, 57, 59, 60], [0, 9, 57, 59], [0, 2, 9, 57, 59, 60], [], [], [], [0, 3, 4, 5, 9, 26, 28, 60], [0, 3, 9, 60], [0, 2, 9, 57, 59, 60]], [], []⟩
noncomputable def slices_Compact__impl_Angle_impl_Angle_l1_s : LSum := ⟨2, ⟨[(0, .val (.sl 37 (.pair (.int .i64) (.pair (.int .i64) (.unit)))) (.own .fr)), (2, .val (.int .i64) .fr), (0, .win 0 []), (0, .val (.int .i64) .fr), (20, .sref 0 []), (1, .win 0 [])], 32⟩, (.exit 2, ⟨[(0, .val (.sl 37 (.pair (.int .i64) (.pair (.int .i64) (.unit)))) (.own .fr)), (2, .val (.int .i64) .fr)], 57⟩), [], slices_Compact__impl_Angle_impl_Angle_l1⟩
noncomputable def slices_Compact__impl_Angle_impl_Angle_l0_s : LSum := ⟨0, ⟨[(0, .val (.sl 37 (.pair (.int .i64) (.pair (.int .i64) (.unit)))) (.own .fr)), (2, .val (.int .i64) .fr)], 57⟩, (.ret, ⟨[(0, .val (.sl 37 (.pair (.int .i64) (.pair (.int .i64) (.unit)))) (.own .fr)), (1, .win 0 []), (54, .sref 0 []), (1, .win 0 [])], 1⟩), [(.exit 0, ⟨[(0, .val (.sl 37 (.pair (.int .i64) (.pair (.int .i64) (.unit)))) (.own .fr))], 60⟩)], slices_Compact__impl_Angle_impl_Angle_l0⟩
noncomputable def slices_Compact__impl_Angle_impl_Angle_s : Spec := ⟨[.v (.sl 37 (.pair (.int .i64) (.pair (.int .i64) (.unit)))) (.own .fr)], (List (Int × (Int × Unit))), fun v => slices_Compact__impl_Angle_impl_Angle v.1, fun r => ([.v (.sl 37 (.pair (.int .i64) (.pair (.int .i64) (.unit)))) (.own .fr) r], [])⟩
noncomputable def slices_Compact__impl_Angle_impl_Angle_ls : List LSum := [slices_Compact__impl_Angle_impl_Angle_l0_s, slices_Compact__impl_Angle_impl_Angle_l1_s]
noncomputable def slices_Compact__impl_Angle_impl_Angle_tab : List Row := []
theorem slices_Compact__impl_Angle_impl_Angle_t : ∀ r, r ∈ slices_Compact__impl_Angle_impl_Angle_tab → RowIs Go.Proofs.Try.prog r := tab_nil
theorem slices_Compact__impl_Angle_impl_Angle_l0_r : RoundIs (mkCtx Go.K.Link.seat slices_Compact__impl_Angle_impl_Angle_c slices_Compact__impl_Angle_impl_Angle_tab) (sums slices_Compact__impl_Angle_impl_Angle_ls) 0 (bodyAt (loopsOf 0 slices_Compact__impl_Angle_impl_Angle_code) 0) slices_Compact__impl_Angle_impl_Angle_l0_s := by
  rintro ⟨s, ⟨k, _⟩⟩
  show _ = (slices_Compact__impl_Angle_impl_Angle_l0 (s, (k, ()))).bind fun r : (Ctl ((List (Int × (Int × Unit))) × Int × Unit) (((List (Int × (Int × Unit))) × Nat × Nat × Nat × Nat × Unit) ⊕ ((List (Int × (Int × Unit))) × Unit))) => some (ctlVal slices_Compact__impl_Angle_impl_Angle_l0_s r)
  simp only [slices_Compact__impl_Angle_impl_Angle_l0, kb_ite, kb_some, kb_none, kb_bind, kb_alt]
  kernel_rfl
theorem slices_Compact__impl_Angle_impl_Angle_l1_r : RoundIs (mkCtx Go.K.Link.seat slices_Compact__impl_Angle_impl_Angle_c slices_Compact__impl_Angle_impl_Angle_tab) (sums slices_Compact__impl_Angle_impl_Angle_ls) 2 (bodyAt (loopsOf 0 slices_Compact__impl_Angle_impl_Angle_code) 1) slices_Compact__impl_Angle_impl_Angle_l1_s := by
  rintro ⟨s, ⟨k, ⟨s2_0, s2_1, ⟨k2, ⟨t28_0, t28_1, _⟩⟩⟩⟩⟩
  show _ = (slices_Compact__impl_Angle_impl_Angle_l1 (s, (k, (s2_0, s2_1, (k2, (t28_0, t28_1, ())))))).bind fun r : (Ctl ((List (Int × (Int × Unit))) × Int × Nat × Nat × Int × Nat × Nat × Unit) (((List (Int × (Int × Unit))) × Int × Unit))) => some (ctlVal slices_Compact__impl_Angle_impl_Angle_l1_s r)
  simp only [slices_Compact__impl_Angle_impl_Angle_l1, kb_ite, kb_some, kb_none, kb_bind, kb_alt]
  kernel_rfl
theorem slices_Compact__impl_Angle_impl_Angle_rs : RoundsOK (mkCtx Go.K.Link.seat slices_Compact__impl_Angle_impl_Angle_c slices_Compact__impl_Angle_impl_Angle_tab) (sums slices_Compact__impl_Angle_impl_Angle_ls) (loopsOf 0 slices_Compact__impl_Angle_impl_Angle_code) slices_Compact__impl_Angle_impl_Angle_ls := ⟨⟨rfl, rfl, slices_Compact__impl_Angle_impl_Angle_l0_r⟩, ⟨⟨rfl, rfl, slices_Compact__impl_Angle_impl_Angle_l1_r⟩, trivial⟩⟩
theorem slices_Compact__impl_Angle_impl_Angle_e : ∀ v, (evFn (mkCtx Go.K.Link.seat slices_Compact__impl_Angle_impl_Angle_c slices_Compact__impl_Angle_impl_Angle_tab) (sums slices_Compact__impl_Angle_impl_Angle_ls) 45 Go.Proofs.Try.f45 (encL slices_Compact__impl_Angle_impl_Angle_s.a v)).run = (slices_Compact__impl_Angle_impl_Angle_s.gen v).bind fun y => some (slices_Compact__impl_Angle_impl_Angle_s.out y) := by
  rintro ⟨s, _⟩
  show _ = (slices_Compact__impl_Angle_impl_Angle s).bind fun y : (List (Int × (Int × Unit))) => some (slices_Compact__impl_Angle_impl_Angle_s.out y)
  simp only [slices_Compact__impl_Angle_impl_Angle, kb_ite, kb_some, kb_none, kb_bind, kb_alt]
  kernel_rfl
theorem slices_Compact__impl_Angle_impl_Angle_is : FnIs Go.Proofs.Try.prog 45 (modeOf [.own]) (phi [slices_Compact__impl_Angle_impl_Angle_s]) := spec_is (c := slices_Compact__impl_Angle_impl_Angle_c) seatOK slices_Compact__impl_Angle_impl_Angle_t Go.Proofs.Try.func45 rfl (code := slices_Compact__impl_Angle_impl_Angle_code) rfl rfl slices_Compact__impl_Angle_impl_Angle_rs slices_Compact__impl_Angle_impl_Angle_e
noncomputable def impl_sorted_s : Spec := ⟨[.v (.sl 37 (.pair (.int .i64) (.pair (.int .i64) (.unit)))) .fr], (List (Int × (Int × Unit))), fun v => impl_sorted v.1, fun r => ([.v (.sl 37 (.pair (.int .i64) (.pair (.int .i64) (.unit)))) (.own .fr) r], [])⟩
noncomputable def impl_sorted_ls : List LSum := []
noncomputable def impl_sorted_tab : List Row := [⟨45, [.own], [slices_Compact__impl_Angle_impl_Angle_s]⟩, ⟨46, [], [slices_SortedFunc_impl_Angle_s]⟩, ⟨47, [], [slices_Values__impl_Angle_impl_Angle_s]⟩]
theorem impl_sorted_t : ∀ r, r ∈ impl_sorted_tab → RowIs Go.Proofs.Try.prog r := tab_cons (slices_Compact__impl_Angle_impl_Angle_is) (tab_cons (slices_SortedFunc_impl_Angle_is) (tab_cons (slices_Values__impl_Angle_impl_Angle_is) (tab_nil)))
theorem impl_sorted_rs : RoundsOK (mkCtx Go.K.Link.seat impl_sorted_c impl_sorted_tab) (sums impl_sorted_ls) (loopsOf 0 impl_sorted_code) impl_sorted_ls := trivial
theorem impl_sorted_e : ∀ v, (evFn (mkCtx Go.K.Link.seat impl_sorted_c impl_sorted_tab) (sums impl_sorted_ls) 34 Go.Proofs.Try.f34 (encL impl_sorted_s.a v)).run = (impl_sorted_s.gen v).bind fun y => some (impl_sorted_s.out y) := by
  rintro ⟨list, _⟩
  show _ = (impl_sorted list).bind fun y : (List (Int × (Int × Unit))) => some (impl_sorted_s.out y)
  simp only [impl_sorted, kb_ite, kb_some, kb_none, kb_bind, kb_alt]
  kernel_rfl
theorem impl_sorted_is : FnIs Go.Proofs.Try.prog 34 (modeOf []) (phi [impl_sorted_s]) := spec_is (c := impl_sorted_c) seatOK impl_sorted_t Go.Proofs.Try.func34 rfl (code := impl_sorted_code) rfl rfl impl_sorted_rs impl_sorted_e
noncomputable def impl_ends_s : Spec := ⟨[.v (.sl 39 (.pair (.pair (.int .i64) (.pair (.int .i64) (.unit))) (.pair (.pair (.int .i64) (.pair (.int .i64) (.unit))) (.unit)))) .fr], (List (Int × (Int × Unit))), fun v => impl_ends v.1, fun r => ([.v (.sl 37 (.pair (.int .i64) (.pair (.int .i64) (.unit)))) (.own .fr) r], [])⟩
noncomputable def impl_ends_ls : List LSum := [impl_ends_l0_s]
noncomputable def impl_ends_tab : List Row := [⟨34, [], [impl_sorted_s]⟩]
theorem impl_ends_t : ∀ r, r ∈ impl_ends_tab → RowIs Go.Proofs.Try.prog r := tab_cons (impl_sorted_is) (tab_nil)
theorem impl_ends_l0_r : RoundIs (mkCtx Go.K.Link.seat impl_ends_c impl_ends_tab) (sums impl_ends_ls) 0 (bodyAt (loopsOf 0 impl_ends_code) 0) impl_ends_l0_s := by
  rintro ⟨list, ⟨out, ⟨t6, ⟨t7, ⟨t8, _⟩⟩⟩⟩⟩
  show _ = (impl_ends_l0 (list, (out, (t6, (t7, (t8, ())))))).bind fun r : (Ctl ((List ((Int × (Int × Unit)) × ((Int × (Int × Unit)) × Unit))) × (List (Int × (Int × Unit))) × (List ((Int × (Int × Unit)) × ((Int × (Int × Unit)) × Unit))) × Int × Int × Unit) (((List (Int × (Int × Unit))) × Unit))) => some (ctlVal impl_ends_l0_s r)
  simp only [impl_ends_l0, kb_ite, kb_some, kb_none, kb_bind, kb_alt]
  kernel_rfl
theorem impl_ends_rs : RoundsOK (mkCtx Go.K.Link.seat impl_ends_c impl_ends_tab) (sums impl_ends_ls) (loopsOf 0 impl_ends_code) impl_ends_ls := ⟨⟨rfl, rfl, impl_ends_l0_r⟩, trivial⟩
theorem impl_ends_e : ∀ v, (evFn (mkCtx Go.K.Link.seat impl_ends_c impl_ends_tab) (sums impl_ends_ls) 17 Go.Proofs.Try.f17 (encL impl_ends_s.a v)).run = (impl_ends_s.gen v).bind fun y => some (impl_ends_s.out y) := by
  rintro ⟨list, _⟩
  show _ = (impl_ends list).bind fun y : (List (Int × (Int × Unit))) => some (impl_ends_s.out y)
  simp only [impl_ends, kb_ite, kb_some, kb_none, kb_bind, kb_alt]
  kernel_rfl
theorem impl_ends_is : FnIs Go.Proofs.Try.prog 17 (modeOf []) (phi [impl_ends_s]) := spec_is (c := impl_ends_c) seatOK impl_ends_t Go.Proofs.Try.func17 rfl (code := impl_ends_code) rfl rfl impl_ends_rs impl_ends_e
noncomputable def impl_EndClasses_l0_s : LSum := ⟨0, ⟨[(0, .val (.sl 39 (.pair (.pair (.int .i64) (.pair (.int .i64) (.unit))) (.pair (.pair (.int .i64) (.pair (.int .i64) (.unit))) (.unit)))) .fr), (3, .val (.sl 37 (.pair (.int .i64) (.pair (.int .i64) (.unit)))) (.own .fr)), (0, .val (.sl 3 (.int .i64)) (.own .fr)), (21, .val (.int .i64) .fr), (0, .val (.int .i64) .fr)], 79⟩, (.exit 0, ⟨[(0, .val (.sl 39 (.pair (.pair (.int .i64) (.pair (.int .i64) (.unit))) (.pair (.pair (.int .i64) (.pair (.int .i64) (.unit))) (.unit)))) .fr), (3, .val (.sl 37 (.pair (.int .i64) (.pair (.int .i64) (.unit)))) (.own .fr)), (0, .val (.sl 3 (.int .i64)) (.own .fr))], 102⟩), [], impl_EndClasses_l0⟩
noncomputable def slices_Index__impl_Angle_impl_Angle_code : Code := (Go.Proofs.Try.f18.body).getD .skip
def slices_Index__impl_Angle_impl_Angle_c : Cfg := ⟨18, [], [[0, 3, 7, 8], [], [4]], [], []⟩
noncomputable def slices_Index__impl_Angle_impl_Angle_l0_s : LSum := ⟨0, ⟨[(0, .val (.sl 37 (.pair (.int .i64) (.pair (.int .i64) (.unit)))) .fr), (2, .val (.ptr (.pair (.int .i64) (.pair (.int .i64) (.unit)))) (.own .fr)), (3, .val (.int .i64) .fr), (0, .val (.int .i64) .fr)], 10⟩, (.ret, ⟨[(4, .val (.int .i64) .fr)], 14⟩), [(.exit 0, ⟨[], 19⟩)], slices_Index__impl_Angle_impl_Angle_l0⟩
noncomputable def slices_Index__impl_Angle_impl_Angle_s : Spec := ⟨[.v (.sl 37 (.pair (.int .i64) (.pair (.int .i64) (.unit)))) .fr, .v (.pair (.int .i64) (.pair (.int .i64) (.unit))) .fr], Int, fun v => slices_Index__impl_Angle_impl_Angle v.1 v.2.1, fun r => ([.v (.int .i64) .fr r], [])⟩
noncomputable def slices_Index__impl_Angle_impl_Angle_ls : List LSum := [slices_Index__impl_Angle_impl_Angle_l0_s]
noncomputable def slices_Index__impl_Angle_impl_Angle_tab : List Row := []
theorem slices_Index__impl_Angle_impl_Angle_t : ∀ r, r ∈ slices_Index__impl_Angle_impl_Angle_tab → RowIs Go.Proofs.Try.prog r := tab_nil
theorem slices_Index__impl_Angle_impl_Angle_l0_r : RoundIs (mkCtx Go.K.Link.seat slices_Index__impl_Angle_impl_Angle_c slices_Index__impl_Angle_impl_Angle_tab) (sums slices_Index__impl_Angle_impl_Angle_ls) 0 (bodyAt (loopsOf 0 slices_Index__impl_Angle_impl_Angle_code) 0) slices_Index__impl_Angle_impl_Angle_l0_s := by
  rintro ⟨s, ⟨v, ⟨t7, ⟨t8, _⟩⟩⟩⟩
  show _ = (slices_Index__impl_Angle_impl_Angle_l0 (s, (v, (t7, (t8, ()))))).bind fun r : (Ctl ((List (Int × (Int × Unit))) × ((Int × (Int × Unit))) × Int × Int × Unit) ((Int × Unit) ⊕ (Unit))) => some (ctlVal slices_Index__impl_Angle_impl_Angle_l0_s r)
  simp only [slices_Index__impl_Angle_impl_Angle_l0, kb_ite, kb_some, kb_none, kb_bind, kb_alt]
  kernel_rfl
theorem slices_Index__impl_Angle_impl_Angle_rs : RoundsOK (mkCtx Go.K.Link.seat slices_Index__impl_Angle_impl_Angle_c slices_Index__impl_Angle_impl_Angle_tab) (sums slices_Index__impl_Angle_impl_Angle_ls) (loopsOf 0 slices_Index__impl_Angle_impl_Angle_code) slices_Index__impl_Angle_impl_Angle_ls := ⟨⟨rfl, rfl, slices_Index__impl_Angle_impl_Angle_l0_r⟩, trivial⟩
theorem slices_Index__impl_Angle_impl_Angle_e : ∀ v, (evFn (mkCtx Go.K.Link.seat slices_Index__impl_Angle_impl_Angle_c slices_Index__impl_Angle_impl_Angle_tab) (sums slices_Index__impl_Angle_impl_Angle_ls) 18 Go.Proofs.Try.f18 (encL slices_Index__impl_Angle_impl_Angle_s.a v)).run = (slices_Index__impl_Angle_impl_Angle_s.gen v).bind fun y => some (slices_Index__impl_Angle_impl_Angle_s.out y) := by
  rintro ⟨s, ⟨v, _⟩⟩
  show _ = (slices_Index__impl_Angle_impl_Angle s v).bind fun y : Int => some (slices_Index__impl_Angle_impl_Angle_s.out y)
  simp only [slices_Index__impl_Angle_impl_Angle, kb_ite, kb_some, kb_none, kb_bind, kb_alt]
  kernel_rfl
theorem slices_Index__impl_Angle_impl_Angle_is : FnIs Go.Proofs.Try.prog 18 (modeOf []) (phi [slices_Index__impl_Angle_impl_Angle_s]) := spec_is (c := slices_Index__impl_Angle_impl_Angle_c) seatOK slices_Index__impl_Angle_impl_Angle_t Go.Proofs.Try.func18 rfl (code := slices_Index__impl_Angle_impl_Angle_code) rfl rfl slices_Index__impl_Angle_impl_Angle_rs slices_Index__impl_Angle_impl_Angle_e
noncomputable def impl_EndClasses_l2_s : LSum := ⟨4, ⟨[(0, .val (.sl 39 (.pair (.pair (.int .i64) (.pair (.int .i64) (.unit))) (.pair (.pair (.int .i64) (.pair (.int .i64) (.unit))) (.unit)))) .fr), (3, .val (.sl 37 (.pair (.int .i64) (.pair (.int .i64) (.unit)))) (.own .fr)), (0, .val (.sl 3 (.int .i64)) (.own .fr)), (3, .val (.int .i64) .fr), (0, .val (.int .i64) .fr), (25, .val (.sl 39 (.pair (.pair (.int .i64) (.pair (.int .i64) (.unit))) (.pair (.pair (.int .i64) (.pair (.int .i64) (.unit))) (.unit)))) .fr), (0, .val (.int .i64) .fr), (0, .val (.int .i64) .fr), (17, .sref 5 []), (0, .val (.int .i64) .fr), (0, .val (.int .i64) .fr)], 49⟩, (.exit 4, ⟨[(0, .val (.sl 39 (.pair (.pair (.int .i64) (.pair (.int .i64) (.unit))) (.pair (.pair (.int .i64) (.pair (.int .i64) (.unit))) (.unit)))) .fr), (3, .val (.sl 37 (.pair (.int .i64) (.pair (.int .i64) (.unit)))) (.own .fr)), (0, .val (.sl 3 (.int .i64)) (.own .fr)), (30, .val (.sl 39 (.pair (.pair (.int .i64) (.pair (.int .i64) (.unit))) (.pair (.pair (.int .i64) (.pair (.int .i64) (.unit))) (.unit)))) .fr), (0, .val (.int .i64) .fr), (0, .val (.int .i64) .fr)], 69⟩), [], impl_EndClasses_l2⟩
noncomputable def impl_EndClasses_l1_s : LSum := ⟨2, ⟨[(0, .val (.sl 39 (.pair (.pair (.int .i64) (.pair (.int .i64) (.unit))) (.pair (.pair (.int .i64) (.pair (.int .i64) (.unit))) (.unit)))) .fr), (3, .val (.sl 37 (.pair (.int .i64) (.pair (.int .i64) (.unit)))) (.own .fr)), (0, .val (.sl 3 (.int .i64)) (.own .fr)), (30, .val (.sl 39 (.pair (.pair (.int .i64) (.pair (.int .i64) (.unit))) (.pair (.pair (.int .i64) (.pair (.int .i64) (.unit))) (.unit)))) .fr), (0, .val (.int .i64) .fr), (0, .val (.int .i64) .fr)], 69⟩, (.exit 2, ⟨[(4, .val (.sl 37 (.pair (.int .i64) (.pair (.int .i64) (.unit)))) (.own .fr)), (0, .val (.sl 3 (.int .i64)) (.own .fr))], 102⟩), [], impl_EndClasses_l1⟩
noncomputable def impl_EndClasses_l4_s : LSum := ⟨8, ⟨[(4, .val (.sl 37 (.pair (.int .i64) (.pair (.int .i64) (.unit)))) (.own .fr)), (0, .val (.sl 3 (.int .i64)) (.own .fr)), (7, .val (.sl 44 (.sl 37 (.pair (.int .i64) (.pair (.int .i64) (.unit))))) (.own (.own .fr))), (0, .val (.int .i64) .fr), (0, .val (.sl 37 (.pair (.int .i64) (.pair (.int .i64) (.unit)))) (.own .fr)), (61, .val (.int .i64) .fr), (0, .val (.int .i64) .fr), (2, .sref 5 []), (0, .val (.int .i64) .fr), (0, .val (.int .i64) .fr)], 24⟩, (.exit 8, ⟨[(4, .val (.sl 37 (.pair (.int .i64) (.pair (.int .i64) (.unit)))) (.own .fr)), (0, .val (.sl 3 (.int .i64)) (.own .fr)), (7, .val (.sl 44 (.sl 37 (.pair (.int .i64) (.pair (.int .i64) (.unit))))) (.own (.own .fr))), (1, .val (.sl 37 (.pair (.int .i64) (.pair (.int .i64) (.unit)))) (.own .fr)), (61, .val (.int .i64) .fr), (0, .val (.int .i64) .fr)], 29⟩), [], impl_EndClasses_l4⟩
noncomputable def impl_EndClasses_l3_s : LSum := ⟨6, ⟨[(4, .val (.sl 37 (.pair (.int .i64) (.pair (.int .i64) (.unit)))) (.own .fr)), (0, .val (.sl 3 (.int .i64)) (.own .fr)), (7, .val (.sl 44 (.sl 37 (.pair (.int .i64) (.pair (.int .i64) (.unit))))) (.own (.own .fr))), (63, .val (.int .i64) .fr), (0, .val (.int .i64) .fr)], 29⟩, (.exit 6, ⟨[(13, .val (.sl 44 (.sl 37 (.pair (.int .i64) (.pair (.int .i64) (.unit))))) (.own (.own .fr)))], 94⟩), [], impl_EndClasses_l3⟩
noncomputable def impl_EndClasses_s : Spec := ⟨[.v (.sl 39 (.pair (.pair (.int .i64) (.pair (.int .i64) (.unit))) (.pair (.pair (.int .i64) (.pair (.int .i64) (.unit))) (.unit)))) .fr], (List (List (Int × (Int × Unit)))) × Int, fun v => impl_EndClasses v.1, fun r => ([.v (.sl 44 (.sl 37 (.pair (.int .i64) (.pair (.int .i64) (.unit))))) (.own (.own .fr)) r.1, .v (.int .i64) .fr r.2], [])⟩
noncomputable def impl_EndClasses_ls : List LSum := [impl_EndClasses_l0_s, impl_EndClasses_l1_s, impl_EndClasses_l2_s, impl_EndClasses_l3_s, impl_EndClasses_l4_s]
noncomputable def impl_EndClasses_tab : List Row := [⟨16, [], [impl_IsLamination_s]⟩, ⟨17, [], [impl_ends_s]⟩, ⟨18, [], [slices_Index__impl_Angle_impl_Angle_s]⟩]
theorem impl_EndClasses_t : ∀ r, r ∈ impl_EndClasses_tab → RowIs Go.Proofs.Try.prog r := tab_cons (impl_IsLamination_is) (tab_cons (impl_ends_is) (tab_cons (slices_Index__impl_Angle_impl_Angle_is) (tab_nil)))
theorem impl_EndClasses_l0_r : RoundIs (mkCtx Go.K.Link.seat impl_EndClasses_c impl_EndClasses_tab) (sums impl_EndClasses_ls) 0 (bodyAt (loopsOf 0 impl_EndClasses_code) 0) impl_EndClasses_l0_s := by
  rintro ⟨list, ⟨all, ⟨name, ⟨t27, ⟨t28, _⟩⟩⟩⟩⟩
  show _ = (impl_EndClasses_l0 (list, (all, (name, (t27, (t28, ())))))).bind fun r : (Ctl ((List ((Int × (Int × Unit)) × ((Int × (Int × Unit)) × Unit))) × (List (Int × (Int × Unit))) × (List Int) × Int × Int × Unit) (((List ((Int × (Int × Unit)) × ((Int × (Int × Unit)) × Unit))) × (List (Int × (Int × Unit))) × (List Int) × Unit))) => some (ctlVal impl_EndClasses_l0_s r)
  simp only [impl_EndClasses_l0, kb_ite, kb_some, kb_none, kb_bind, kb_alt]
  kernel_rfl
theorem impl_EndClasses_l1_r : RoundIs (mkCtx Go.K.Link.seat impl_EndClasses_c impl_EndClasses_tab) (sums impl_EndClasses_ls) 2 (bodyAt (loopsOf 0 impl_EndClasses_code) 1) impl_EndClasses_l1_s := by
  rintro ⟨list, ⟨all, ⟨name, ⟨t36, ⟨t37, ⟨t38, _⟩⟩⟩⟩⟩⟩
  show _ = (impl_EndClasses_l1 (list, (all, (name, (t36, (t37, (t38, ()))))))).bind fun r : (Ctl ((List ((Int × (Int × Unit)) × ((Int × (Int × Unit)) × Unit))) × (List (Int × (Int × Unit))) × (List Int) × (List ((Int × (Int × Unit)) × ((Int × (Int × Unit)) × Unit))) × Int × Int × Unit) (((List (Int × (Int × Unit))) × (List Int) × Unit))) => some (ctlVal impl_EndClasses_l1_s r)
  simp only [impl_EndClasses_l1, kb_ite, kb_some, kb_none, kb_bind, kb_alt]
  kernel_rfl
theorem impl_EndClasses_l2_r : RoundIs (mkCtx Go.K.Link.seat impl_EndClasses_c impl_EndClasses_tab) (sums impl_EndClasses_ls) 4 (bodyAt (loopsOf 0 impl_EndClasses_code) 2) impl_EndClasses_l2_s := by
  rintro ⟨list, ⟨all, ⟨name, ⟨a, ⟨b, ⟨t36, ⟨t37, ⟨t38, ⟨t57, ⟨t58, _⟩⟩⟩⟩⟩⟩⟩⟩⟩⟩
  show _ = (impl_EndClasses_l2 (list, (all, (name, (a, (b, (t36, (t37, (t38, (t57, (t58, ()))))))))))).bind fun r : (Ctl ((List ((Int × (Int × Unit)) × ((Int × (Int × Unit)) × Unit))) × (List (Int × (Int × Unit))) × (List Int) × Int × Int × (List ((Int × (Int × Unit)) × ((Int × (Int × Unit)) × Unit))) × Int × Int × Int × Int × Unit) (((List ((Int × (Int × Unit)) × ((Int × (Int × Unit)) × Unit))) × (List (Int × (Int × Unit))) × (List Int) × (List ((Int × (Int × Unit)) × ((Int × (Int × Unit)) × Unit))) × Int × Int × Unit))) => some (ctlVal impl_EndClasses_l2_s r)
  simp only [impl_EndClasses_l2, kb_ite, kb_some, kb_none, kb_bind, kb_alt]
  kernel_rfl
theorem impl_EndClasses_l3_r : RoundIs (mkCtx Go.K.Link.seat impl_EndClasses_c impl_EndClasses_tab) (sums impl_EndClasses_ls) 6 (bodyAt (loopsOf 0 impl_EndClasses_code) 3) impl_EndClasses_l3_s := by
  rintro ⟨all, ⟨name, ⟨out, ⟨t77, ⟨t78, _⟩⟩⟩⟩⟩
  show _ = (impl_EndClasses_l3 (all, (name, (out, (t77, (t78, ())))))).bind fun r : (Ctl ((List (Int × (Int × Unit))) × (List Int) × (List (List (Int × (Int × Unit)))) × Int × Int × Unit) (((List (List (Int × (Int × Unit)))) × Unit))) => some (ctlVal impl_EndClasses_l3_s r)
  simp only [impl_EndClasses_l3, kb_ite, kb_some, kb_none, kb_bind, kb_alt]
  kernel_rfl
theorem impl_EndClasses_l4_r : RoundIs (mkCtx Go.K.Link.seat impl_EndClasses_c impl_EndClasses_tab) (sums impl_EndClasses_ls) 8 (bodyAt (loopsOf 0 impl_EndClasses_code) 4) impl_EndClasses_l4_s := by
  rintro ⟨all, ⟨name, ⟨out, ⟨first, ⟨class', ⟨t77, ⟨t78, ⟨t82, ⟨t83, _⟩⟩⟩⟩⟩⟩⟩⟩⟩
  show _ = (impl_EndClasses_l4 (all, (name, (out, (first, (class', (t77, (t78, (t82, (t83, ())))))))))).bind fun r : (Ctl ((List (Int × (Int × Unit))) × (List Int) × (List (List (Int × (Int × Unit)))) × Int × (List (Int × (Int × Unit))) × Int × Int × Int × Int × Unit) (((List (Int × (Int × Unit))) × (List Int) × (List (List (Int × (Int × Unit)))) × (List (Int × (Int × Unit))) × Int × Int × Unit))) => some (ctlVal impl_EndClasses_l4_s r)
  simp only [impl_EndClasses_l4, kb_ite, kb_some, kb_none, kb_bind, kb_alt]
  kernel_rfl
theorem impl_EndClasses_rs : RoundsOK (mkCtx Go.K.Link.seat impl_EndClasses_c impl_EndClasses_tab) (sums impl_EndClasses_ls) (loopsOf 0 impl_EndClasses_code) impl_EndClasses_ls := ⟨⟨rfl, rfl, impl_EndClasses_l0_r⟩, ⟨⟨rfl, rfl, impl_EndClasses_l1_r⟩, ⟨⟨rfl, rfl, impl_EndClasses_l2_r⟩, ⟨⟨rfl, rfl, impl_EndClasses_l3_r⟩, ⟨⟨rfl, rfl, impl_EndClasses_l4_r⟩, trivial⟩⟩⟩⟩⟩
theorem impl_EndClasses_e : ∀ v, (evFn (mkCtx Go.K.Link.seat impl_EndClasses_c impl_EndClasses_tab) (sums impl_EndClasses_ls) 7 Go.Proofs.Try.f7 (encL impl_EndClasses_s.a v)).run = (impl_EndClasses_s.gen v).bind fun y => some (impl_EndClasses_s.out y) := by
  rintro ⟨list, _⟩
  show _ = (impl_EndClasses list).bind fun y : (List (List (Int × (Int × Unit)))) × Int => some (impl_EndClasses_s.out y)
  simp only [impl_EndClasses, kb_ite, kb_some, kb_none, kb_bind, kb_alt]
  kernel_rfl
theorem impl_EndClasses_is : FnIs Go.Proofs.Try.prog 7 (modeOf []) (phi [impl_EndClasses_s]) := spec_is (c := impl_EndClasses_c) seatOK impl_EndClasses_t Go.Proofs.Try.func7 rfl (code := impl_EndClasses_code) rfl rfl impl_EndClasses_rs impl_EndClasses_e
noncomputable def laws_eqAngleSS_code : Code := (Go.Proofs.Try.f8.body).getD .skip
def laws_eqAngleSS_c : Cfg := ⟨8, [], [[0, 1, 5], [], [4]], [], []⟩
noncomputable def laws_eqAngleS_code : Code := (Go.Proofs.Try.f19.body).getD .skip
def laws_eqAngleS_c : Cfg := ⟨19, [], [[0, 1, 5], [], [4]], [], []⟩
noncomputable def laws_eqAngle_code : Code := (Go.Proofs.Try.f35.body).getD .skip
def laws_eqAngle_c : Cfg := ⟨35, [], [], [], []⟩
noncomputable def laws_eqAngle_s : Spec := ⟨[.v (.pair (.int .i64) (.pair (.int .i64) (.unit))) .fr, .v (.pair (.int .i64) (.pair (.int .i64) (.unit))) .fr], Bool, fun v => laws_eqAngle v.1 v.2.1, fun r => ([.v (.bool) .fr r], [])⟩
noncomputable def laws_eqAngle_ls : List LSum := []
noncomputable def laws_eqAngle_tab : List Row := []
theorem laws_eqAngle_t : ∀ r, r ∈ laws_eqAngle_tab → RowIs Go.Proofs.Try.prog r := tab_nil
theorem laws_eqAngle_rs : RoundsOK (mkCtx Go.K.Link.seat laws_eqAngle_c laws_eqAngle_tab) (sums laws_eqAngle_ls) (loopsOf 0 laws_eqAngle_code) laws_eqAngle_ls := trivial
theorem laws_eqAngle_e : ∀ v, (evFn (mkCtx Go.K.Link.seat laws_eqAngle_c laws_eqAngle_tab) (sums laws_eqAngle_ls) 35 Go.Proofs.Try.f35 (encL laws_eqAngle_s.a v)).run = (laws_eqAngle_s.gen v).bind fun y => some (laws_eqAngle_s.out y) := by
  rintro ⟨a, ⟨b, _⟩⟩
  show _ = (laws_eqAngle a b).bind fun y : Bool => some (laws_eqAngle_s.out y)
  simp only [laws_eqAngle, kb_ite, kb_some, kb_none, kb_bind, kb_alt]
  kernel_rfl
theorem laws_eqAngle_is : FnIs Go.Proofs.Try.prog 35 (modeOf []) (phi [laws_eqAngle_s]) := spec_is (c := laws_eqAngle_c) seatOK laws_eqAngle_t Go.Proofs.Try.func35 rfl (code := laws_eqAngle_code) rfl rfl laws_eqAngle_rs laws_eqAngle_e
noncomputable def laws_eqAngleS_l0_s : LSum := ⟨0, ⟨[(0, .val (.sl 37 (.pair (.int .i64) (.pair (.int .i64) (.unit)))) .fr), (0, .val (.sl 37 (.pair (.int .i64) (.pair (.int .i64) (.unit)))) .fr), (3, .val (.int .i64) .fr)], 21⟩, (.ret, ⟨[(4, .val (.bool) .fr)], 22⟩), [(.exit 0, ⟨[], 27⟩)], laws_eqAngleS_l0⟩
noncomputable def laws_eqAngleS_s : Spec := ⟨[.v (.sl 37 (.pair (.int .i64) (.pair (.int .i64) (.unit)))) .fr, .v (.sl 37 (.pair (.int .i64) (.pair (.int .i64) (.unit)))) .fr], Bool, fun v => laws_eqAngleS v.1 v.2.1, fun r => ([.v (.bool) .fr r], [])⟩
noncomputable def laws_eqAngleS_ls : List LSum := [laws_eqAngleS_l0_s]
noncomputable def laws_eqAngleS_tab : List Row := [⟨35, [], [laws_eqAngle_s]⟩]
theorem laws_eqAngleS_t : ∀ r, r ∈ laws_eqAngleS_tab → RowIs Go.Proofs.Try.prog r := tab_cons (laws_eqAngle_is) (tab_nil)
theorem laws_eqAngleS_l0_r : RoundIs (mkCtx Go.K.Link.seat laws_eqAngleS_c laws_eqAngleS_tab) (sums laws_eqAngleS_ls) 0 (bodyAt (loopsOf 0 laws_eqAngleS_code) 0) laws_eqAngleS_l0_s := by
  rintro ⟨a, ⟨b, ⟨i, _⟩⟩⟩
  show _ = (laws_eqAngleS_l0 (a, (b, (i, ())))).bind fun r : (Ctl ((List (Int × (Int × Unit))) × (List (Int × (Int × Unit))) × Int × Unit) ((Bool × Unit) ⊕ (Unit))) => some (ctlVal laws_eqAngleS_l0_s r)
  simp only [laws_eqAngleS_l0, kb_ite, kb_some, kb_none, kb_bind, kb_alt]
  kernel_rfl
theorem laws_eqAngleS_rs : RoundsOK (mkCtx Go.K.Link.seat laws_eqAngleS_c laws_eqAngleS_tab) (sums laws_eqAngleS_ls) (loopsOf 0 laws_eqAngleS_code) laws_eqAngleS_ls := ⟨⟨rfl, rfl, laws_eqAngleS_l0_r⟩, trivial⟩
theorem laws_eqAngleS_e : ∀ v, (evFn (mkCtx Go.K.Link.seat laws_eqAngleS_c laws_eqAngleS_tab) (sums laws_eqAngleS_ls) 19 Go.Proofs.Try.f19 (encL laws_eqAngleS_s.a v)).run = (laws_eqAngleS_s.gen v).bind fun y => some (laws_eqAngleS_s.out y) := by
  rintro ⟨a, ⟨b, _⟩⟩
  show _ = (laws_eqAngleS a b).bind fun y : Bool => some (laws_eqAngleS_s.out y)
  simp only [laws_eqAngleS, kb_ite, kb_some, kb_none, kb_bind, kb_alt]
  kernel_rfl
theorem laws_eqAngleS_is : FnIs Go.Proofs.Try.prog 19 (modeOf []) (phi [laws_eqAngleS_s]) := spec_is (c := laws_eqAngleS_c) seatOK laws_eqAngleS_t Go.Proofs.Try.func19 rfl (code := laws_eqAngleS_code) rfl rfl laws_eqAngleS_rs laws_eqAngleS_e
noncomputable def laws_eqAngleSS_l0_s : LSum := ⟨0, ⟨[(0, .val (.sl 44 (.sl 37 (.pair (.int .i64) (.pair (.int .i64) (.unit))))) .fr), (0, .val (.sl 44 (.sl 37 (.pair (.int .i64) (.pair (.int .i64) (.unit))))) .fr), (3, .val (.int .i64) .fr)], 21⟩, (.ret, ⟨[(4, .val (.bool) .fr)], 22⟩), [(.exit 0, ⟨[], 27⟩)], laws_eqAngleSS_l0⟩
noncomputable def laws_eqAngleSS_s : Spec := ⟨[.v (.sl 44 (.sl 37 (.pair (.int .i64) (.pair (.int .i64) (.unit))))) .fr, .v (.sl 44 (.sl 37 (.pair (.int .i64) (.pair (.int .i64) (.unit))))) .fr], Bool, fun v => laws_eqAngleSS v.1 v.2.1, fun r => ([.v (.bool) .fr r], [])⟩
noncomputable def laws_eqAngleSS_ls : List LSum := [laws_eqAngleSS_l0_s]
noncomputable def laws_eqAngleSS_tab : List Row := [⟨19, [], [laws_eqAngleS_s]⟩]
theorem laws_eqAngleSS_t : ∀ r, r ∈ laws_eqAngleSS_tab → RowIs Go.Proofs.Try.prog r := tab_cons (laws_eqAngleS_is) (tab_nil)
theorem laws_eqAngleSS_l0_r : RoundIs (mkCtx Go.K.Link.seat laws_eqAngleSS_c laws_eqAngleSS_tab) (sums laws_eqAngleSS_ls) 0 (bodyAt (loopsOf 0 laws_eqAngleSS_code) 0) laws_eqAngleSS_l0_s := by
  rintro ⟨a, ⟨b, ⟨i, _⟩⟩⟩
  show _ = (laws_eqAngleSS_l0 (a, (b, (i, ())))).bind fun r : (Ctl ((List (List (Int × (Int × Unit)))) × (List (List (Int × (Int × Unit)))) × Int × Unit) ((Bool × Unit) ⊕ (Unit))) => some (ctlVal laws_eqAngleSS_l0_s r)
  simp only [laws_eqAngleSS_l0, kb_ite, kb_some, kb_none, kb_bind, kb_alt]
  kernel_rfl
theorem laws_eqAngleSS_rs : RoundsOK (mkCtx Go.K.Link.seat laws_eqAngleSS_c laws_eqAngleSS_tab) (sums laws_eqAngleSS_ls) (loopsOf 0 laws_eqAngleSS_code) laws_eqAngleSS_ls := ⟨⟨rfl, rfl, laws_eqAngleSS_l0_r⟩, trivial⟩
theorem laws_eqAngleSS_e : ∀ v, (evFn (mkCtx Go.K.Link.seat laws_eqAngleSS_c laws_eqAngleSS_tab) (sums laws_eqAngleSS_ls) 8 Go.Proofs.Try.f8 (encL laws_eqAngleSS_s.a v)).run = (laws_eqAngleSS_s.gen v).bind fun y => some (laws_eqAngleSS_s.out y) := by
  rintro ⟨a, ⟨b, _⟩⟩
  show _ = (laws_eqAngleSS a b).bind fun y : Bool => some (laws_eqAngleSS_s.out y)
  simp only [laws_eqAngleSS, kb_ite, kb_some, kb_none, kb_bind, kb_alt]
  kernel_rfl
theorem laws_eqAngleSS_is : FnIs Go.Proofs.Try.prog 8 (modeOf []) (phi [laws_eqAngleSS_s]) := spec_is (c := laws_eqAngleSS_c) seatOK laws_eqAngleSS_t Go.Proofs.Try.func8 rfl (code := laws_eqAngleSS_code) rfl rfl laws_eqAngleSS_rs laws_eqAngleSS_e
noncomputable def laws_eqLeafS_code : Code := (Go.Proofs.Try.f9.body).getD .skip
def laws_eqLeafS_c : Cfg := ⟨9, [], [[0, 1, 5], [], [4]], [], []⟩
noncomputable def laws_eqLeaf_code : Code := (Go.Proofs.Try.f20.body).getD .skip
def laws_eqLeaf_c : Cfg := ⟨20, [], [], [], []⟩
noncomputable def laws_eqLeaf_s : Spec := ⟨[.v (.pair (.pair (.int .i64) (.pair (.int .i64) (.unit))) (.pair (.pair (.int .i64) (.pair (.int .i64) (.unit))) (.unit))) .fr, .v (.pair (.pair (.int .i64) (.pair (.int .i64) (.unit))) (.pair (.pair (.int .i64) (.pair (.int .i64) (.unit))) (.unit))) .fr], Bool, fun v => laws_eqLeaf v.1 v.2.1, fun r => ([.v (.bool) .fr r], [])⟩
noncomputable def laws_eqLeaf_ls : List LSum := []
noncomputable def laws_eqLeaf_tab : List Row := [⟨35, [], [laws_eqAngle_s]⟩]
theorem laws_eqLeaf_t : ∀ r, r ∈ laws_eqLeaf_tab → RowIs Go.Proofs.Try.prog r := tab_cons (laws_eqAngle_is) (tab_nil)
theorem laws_eqLeaf_rs : RoundsOK (mkCtx Go.K.Link.seat laws_eqLeaf_c laws_eqLeaf_tab) (sums laws_eqLeaf_ls) (loopsOf 0 laws_eqLeaf_code) laws_eqLeaf_ls := trivial
theorem laws_eqLeaf_e : ∀ v, (evFn (mkCtx Go.K.Link.seat laws_eqLeaf_c laws_eqLeaf_tab) (sums laws_eqLeaf_ls) 20 Go.Proofs.Try.f20 (encL laws_eqLeaf_s.a v)).run = (laws_eqLeaf_s.gen v).bind fun y => some (laws_eqLeaf_s.out y) := by
  rintro ⟨a, ⟨b, _⟩⟩
  show _ = (laws_eqLeaf a b).bind fun y : Bool => some (laws_eqLeaf_s.out y)
  simp only [laws_eqLeaf, kb_ite, kb_some, kb_none, kb_bind, kb_alt]
  kernel_rfl
theorem laws_eqLeaf_is : FnIs Go.Proofs.Try.prog 20 (modeOf []) (phi [laws_eqLeaf_s]) := spec_is (c := laws_eqLeaf_c) seatOK laws_eqLeaf_t Go.Proofs.Try.func20 rfl (code := laws_eqLeaf_code) rfl rfl laws_eqLeaf_rs laws_eqLeaf_e
noncomputable def laws_eqLeafS_l0_s : LSum := ⟨0, ⟨[(0, .val (.sl 39 (.pair (.pair (.int .i64) (.pair (.int .i64) (.unit))) (.pair (.pair (.int .i64) (.pair (.int .i64) (.unit))) (.unit)))) .fr), (0, .val (.sl 39 (.pair (.pair (.int .i64) (.pair (.int .i64) (.unit))) (.pair (.pair (.int .i64) (.pair (.int .i64) (.unit))) (.unit)))) .fr), (3, .val (.int .i64) .fr)], 21⟩, (.ret, ⟨[(4, .val (.bool) .fr)], 22⟩), [(.exit 0, ⟨[], 27⟩)], laws_eqLeafS_l0⟩
noncomputable def laws_eqLeafS_s : Spec := ⟨[.v (.sl 39 (.pair (.pair (.int .i64) (.pair (.int .i64) (.unit))) (.pair (.pair (.int .i64) (.pair (.int .i64) (.unit))) (.unit)))) .fr, .v (.sl 39 (.pair (.pair (.int .i64) (.pair (.int .i64) (.unit))) (.pair (.pair (.int .i64) (.pair (.int .i64) (.unit))) (.unit)))) .fr], Bool, fun v => laws_eqLeafS v.1 v.2.1, fun r => ([.v (.bool) .fr r], [])⟩
noncomputable def laws_eqLeafS_ls : List LSum := [laws_eqLeafS_l0_s]
noncomputable def laws_eqLeafS_tab : List Row := [⟨20, [], [laws_eqLeaf_s]⟩]
theorem laws_eqLeafS_t : ∀ r, r ∈ laws_eqLeafS_tab → RowIs Go.Proofs.Try.prog r := tab_cons (laws_eqLeaf_is) (tab_nil)
theorem laws_eqLeafS_l0_r : RoundIs (mkCtx Go.K.Link.seat laws_eqLeafS_c laws_eqLeafS_tab) (sums laws_eqLeafS_ls) 0 (bodyAt (loopsOf 0 laws_eqLeafS_code) 0) laws_eqLeafS_l0_s := by
  rintro ⟨a, ⟨b, ⟨i, _⟩⟩⟩
  show _ = (laws_eqLeafS_l0 (a, (b, (i, ())))).bind fun r : (Ctl ((List ((Int × (Int × Unit)) × ((Int × (Int × Unit)) × Unit))) × (List ((Int × (Int × Unit)) × ((Int × (Int × Unit)) × Unit))) × Int × Unit) ((Bool × Unit) ⊕ (Unit))) => some (ctlVal laws_eqLeafS_l0_s r)
  simp only [laws_eqLeafS_l0, kb_ite, kb_some, kb_none, kb_bind, kb_alt]
  kernel_rfl
theorem laws_eqLeafS_rs : RoundsOK (mkCtx Go.K.Link.seat laws_eqLeafS_c laws_eqLeafS_tab) (sums laws_eqLeafS_ls) (loopsOf 0 laws_eqLeafS_code) laws_eqLeafS_ls := ⟨⟨rfl, rfl, laws_eqLeafS_l0_r⟩, trivial⟩
theorem laws_eqLeafS_e : ∀ v, (evFn (mkCtx Go.K.Link.seat laws_eqLeafS_c laws_eqLeafS_tab) (sums laws_eqLeafS_ls) 9 Go.Proofs.Try.f9 (encL laws_eqLeafS_s.a v)).run = (laws_eqLeafS_s.gen v).bind fun y => some (laws_eqLeafS_s.out y) := by
  rintro ⟨a, ⟨b, _⟩⟩
  show _ = (laws_eqLeafS a b).bind fun y : Bool => some (laws_eqLeafS_s.out y)
  simp only [laws_eqLeafS, kb_ite, kb_some, kb_none, kb_bind, kb_alt]
  kernel_rfl
theorem laws_eqLeafS_is : FnIs Go.Proofs.Try.prog 9 (modeOf []) (phi [laws_eqLeafS_s]) := spec_is (c := laws_eqLeafS_c) seatOK laws_eqLeafS_t Go.Proofs.Try.func9 rfl (code := laws_eqLeafS_code) rfl rfl laws_eqLeafS_rs laws_eqLeafS_e
noncomputable def laws_markLeafS_code : Code := (Go.Proofs.Try.f10.body).getD .skip
def laws_markLeafS_c : Cfg := ⟨10, [.mut], [[0, 1, 5], [0, 1], [0, 4]], [], []⟩
noncomputable def laws_markLeafS_l0_s : LSum := ⟨0, ⟨[(0, .val (.sl 39 (.pair (.pair (.int .i64) (.pair (.int .i64) (.unit))) (.pair (.pair (.int .i64) (.pair (.int .i64) (.unit))) (.unit)))) (.own .fr)), (0, .val (.int .i64) .fr), (3, .val (.int .i64) .fr)], 39⟩, (.exit 0, ⟨[(0, .val (.sl 39 (.pair (.pair (.int .i64) (.pair (.int .i64) (.unit))) (.pair (.pair (.int .i64) (.pair (.int .i64) (.unit))) (.unit)))) (.own .fr)), (0, .val (.int .i64) .fr)], 43⟩), [], laws_markLeafS_l0⟩
noncomputable def laws_markLeafS_s : Spec := ⟨[.v (.sl 39 (.pair (.pair (.int .i64) (.pair (.int .i64) (.unit))) (.pair (.pair (.int .i64) (.pair (.int .i64) (.unit))) (.unit)))) (.own .fr), .v (.int .i64) .fr], Int × (List ((Int × (Int × Unit)) × ((Int × (Int × Unit)) × Unit))), fun v => laws_markLeafS v.1 v.2.1, fun r => ([.v (.int .i64) .fr r.1], [.v (.sl 39 (.pair (.pair (.int .i64) (.pair (.int .i64) (.unit))) (.pair (.pair (.int .i64) (.pair (.int .i64) (.unit))) (.unit)))) (.own .fr) r.2])⟩
noncomputable def laws_markLeafS_ls : List LSum := [laws_markLeafS_l0_s]
noncomputable def laws_markLeafS_tab : List Row := []
theorem laws_markLeafS_t : ∀ r, r ∈ laws_markLeafS_tab → RowIs Go.Proofs.Try.prog r := tab_nil
theorem laws_markLeafS_l0_r : RoundIs (mkCtx Go.K.Link.seat laws_markLeafS_c laws_markLeafS_tab) (sums laws_markLeafS_ls) 0 (bodyAt (loopsOf 0 laws_markLeafS_code) 0) laws_markLeafS_l0_s := by
  rintro ⟨a, ⟨k, ⟨i, _⟩⟩⟩
  show _ = (laws_markLeafS_l0 (a, (k, (i, ())))).bind fun r : (Ctl ((List ((Int × (Int × Unit)) × ((Int × (Int × Unit)) × Unit))) × Int × Int × Unit) (((List ((Int × (Int × Unit)) × ((Int × (Int × Unit)) × Unit))) × Int × Unit))) => some (ctlVal laws_markLeafS_l0_s r)
  simp only [laws_markLeafS_l0, kb_ite, kb_some, kb_none, kb_bind, kb_alt]
  kernel_rfl
theorem laws_markLeafS_rs : RoundsOK (mkCtx Go.K.Link.seat laws_markLeafS_c laws_markLeafS_tab) (sums laws_markLeafS_ls) (loopsOf 0 laws_markLeafS_code) laws_markLeafS_ls := ⟨⟨rfl, rfl, laws_markLeafS_l0_r⟩, trivial⟩
theorem laws_markLeafS_e : ∀ v, (evFn (mkCtx Go.K.Link.seat laws_markLeafS_c laws_markLeafS_tab) (sums laws_markLeafS_ls) 10 Go.Proofs.Try.f10 (encL laws_markLeafS_s.a v)).run = (laws_markLeafS_s.gen v).bind fun y => some (laws_markLeafS_s.out y) := by
  rintro ⟨a, ⟨k, _⟩⟩
  show _ = (laws_markLeafS a k).bind fun y : Int × (List ((Int × (Int × Unit)) × ((Int × (Int × Unit)) × Unit))) => some (laws_markLeafS_s.out y)
  simp only [laws_markLeafS, kb_ite, kb_some, kb_none, kb_bind, kb_alt]
  kernel_rfl
theorem laws_markLeafS_is : FnIs Go.Proofs.Try.prog 10 (modeOf [.mut]) (phi [laws_markLeafS_s]) := spec_is (c := laws_markLeafS_c) seatOK laws_markLeafS_t Go.Proofs.Try.func10 rfl (code := laws_markLeafS_code) rfl rfl laws_markLeafS_rs laws_markLeafS_e
noncomputable def laws_markAngleSS_code : Code := (Go.Proofs.Try.f11.body).getD .skip
def laws_markAngleSS_c : Cfg := ⟨11, [.mut], [[0, 1, 5], [0, 1], [0, 4]], [], []⟩
noncomputable def laws_markAngleS_code : Code := (Go.Proofs.Try.f21.body).getD .skip
def laws_markAngleS_c : Cfg := ⟨21, [.mut], [[0, 1, 5], [0, 1], [0, 4]], [], []⟩
noncomputable def laws_markAngleS_l0_s : LSum := ⟨0, ⟨[(0, .val (.sl 37 (.pair (.int .i64) (.pair (.int .i64) (.unit)))) (.own .fr)), (0, .val (.int .i64) .fr), (3, .val (.int .i64) .fr)], 21⟩, (.exit 0, ⟨[(0, .val (.sl 37 (.pair (.int .i64) (.pair (.int .i64) (.unit)))) (.own .fr)), (0, .val (.int .i64) .fr)], 25⟩), [], laws_markAngleS_l0⟩
noncomputable def laws_markAngleS_s : Spec := ⟨[.v (.sl 37 (.pair (.int .i64) (.pair (.int .i64) (.unit)))) (.own .fr), .v (.int .i64) .fr], Int × (List (Int × (Int × Unit))), fun v => laws_markAngleS v.1 v.2.1, fun r => ([.v (.int .i64) .fr r.1], [.v (.sl 37 (.pair (.int .i64) (.pair (.int .i64) (.unit)))) (.own .fr) r.2])⟩
noncomputable def laws_markAngleS_ls : List LSum := [laws_markAngleS_l0_s]
noncomputable def laws_markAngleS_tab : List Row := []
theorem laws_markAngleS_t : ∀ r, r ∈ laws_markAngleS_tab → RowIs Go.Proofs.Try.prog r := tab_nil
theorem laws_markAngleS_l0_r : RoundIs (mkCtx Go.K.Link.seat laws_markAngleS_c laws_markAngleS_tab) (sums laws_markAngleS_ls) 0 (bodyAt (loopsOf 0 laws_markAngleS_code) 0) laws_markAngleS_l0_s := by
  rintro ⟨a, ⟨k, ⟨i, _⟩⟩⟩
  show _ = (laws_markAngleS_l0 (a, (k, (i, ())))).bind fun r : (Ctl ((List (Int × (Int × Unit))) × Int × Int × Unit) (((List (Int × (Int × Unit))) × Int × Unit))) => some (ctlVal laws_markAngleS_l0_s r)
  simp only [laws_markAngleS_l0, kb_ite, kb_some, kb_none, kb_bind, kb_alt]
  kernel_rfl
theorem laws_markAngleS_rs : RoundsOK (mkCtx Go.K.Link.seat laws_markAngleS_c laws_markAngleS_tab) (sums laws_markAngleS_ls) (loopsOf 0 laws_markAngleS_code) laws_markAngleS_ls := ⟨⟨rfl, rfl, laws_markAngleS_l0_r⟩, trivial⟩
theorem laws_markAngleS_e : ∀ v, (evFn (mkCtx Go.K.Link.seat laws_markAngleS_c laws_markAngleS_tab) (sums laws_markAngleS_ls) 21 Go.Proofs.Try.f21 (encL laws_markAngleS_s.a v)).run = (laws_markAngleS_s.gen v).bind fun y => some (laws_markAngleS_s.out y) := by
  rintro ⟨a, ⟨k, _⟩⟩
  show _ = (laws_markAngleS a k).bind fun y : Int × (List (Int × (Int × Unit))) => some (laws_markAngleS_s.out y)
  simp only [laws_markAngleS, kb_ite, kb_some, kb_none, kb_bind, kb_alt]
  kernel_rfl
theorem laws_markAngleS_is : FnIs Go.Proofs.Try.prog 21 (modeOf [.mut]) (phi [laws_markAngleS_s]) := spec_is (c := laws_markAngleS_c) seatOK laws_markAngleS_t Go.Proofs.Try.func21 rfl (code := laws_markAngleS_code) rfl rfl laws_markAngleS_rs laws_markAngleS_e
noncomputable def laws_markAngleSS_l0_s : LSum := ⟨0, ⟨[(0, .val (.sl 44 (.sl 37 (.pair (.int .i64) (.pair (.int .i64) (.unit))))) (.own (.own .fr))), (0, .val (.int .i64) .fr), (3, .val (.int .i64) .fr)], 13⟩, (.exit 0, ⟨[(0, .val (.sl 44 (.sl 37 (.pair (.int .i64) (.pair (.int .i64) (.unit))))) (.own (.own .fr))), (0, .val (.int .i64) .fr)], 17⟩), [], laws_markAngleSS_l0⟩
noncomputable def laws_markAngleSS_s : Spec := ⟨[.v (.sl 44 (.sl 37 (.pair (.int .i64) (.pair (.int .i64) (.unit))))) (.own (.own .fr)), .v (.int .i64) .fr], Int × (List (List (Int × (Int × Unit)))), fun v => laws_markAngleSS v.1 v.2.1, fun r => ([.v (.int .i64) .fr r.1], [.v (.sl 44 (.sl 37 (.pair (.int .i64) (.pair (.int .i64) (.unit))))) (.own (.own .fr)) r.2])⟩
noncomputable def laws_markAngleSS_ls : List LSum := [laws_markAngleSS_l0_s]
noncomputable def laws_markAngleSS_tab : List Row := [⟨21, [.mut], [laws_markAngleS_s]⟩]
theorem laws_markAngleSS_t : ∀ r, r ∈ laws_markAngleSS_tab → RowIs Go.Proofs.Try.prog r := tab_cons (laws_markAngleS_is) (tab_nil)
theorem laws_markAngleSS_l0_r : RoundIs (mkCtx Go.K.Link.seat laws_markAngleSS_c laws_markAngleSS_tab) (sums laws_markAngleSS_ls) 0 (bodyAt (loopsOf 0 laws_markAngleSS_code) 0) laws_markAngleSS_l0_s := by
  rintro ⟨a, ⟨k, ⟨i, _⟩⟩⟩
  show _ = (laws_markAngleSS_l0 (a, (k, (i, ())))).bind fun r : (Ctl ((List (List (Int × (Int × Unit)))) × Int × Int × Unit) (((List (List (Int × (Int × Unit)))) × Int × Unit))) => some (ctlVal laws_markAngleSS_l0_s r)
  simp only [laws_markAngleSS_l0, kb_ite, kb_some, kb_none, kb_bind, kb_alt]
  kernel_rfl
theorem laws_markAngleSS_rs : RoundsOK (mkCtx Go.K.Link.seat laws_markAngleSS_c laws_markAngleSS_tab) (sums laws_markAngleSS_ls) (loopsOf 0 laws_markAngleSS_code) laws_markAngleSS_ls := ⟨⟨rfl, rfl, laws_markAngleSS_l0_r⟩, trivial⟩
theorem laws_markAngleSS_e : ∀ v, (evFn (mkCtx Go.K.Link.seat laws_markAngleSS_c laws_markAngleSS_tab) (sums laws_markAngleSS_ls) 11 Go.Proofs.Try.f11 (encL laws_markAngleSS_s.a v)).run = (laws_markAngleSS_s.gen v).bind fun y => some (laws_markAngleSS_s.out y) := by
  rintro ⟨a, ⟨k, _⟩⟩
  show _ = (laws_markAngleSS a k).bind fun y : Int × (List (List (Int × (Int × Unit)))) => some (laws_markAngleSS_s.out y)
  simp only [laws_markAngleSS, kb_ite, kb_some, kb_none, kb_bind, kb_alt]
  kernel_rfl
theorem laws_markAngleSS_is : FnIs Go.Proofs.Try.prog 11 (modeOf [.mut]) (phi [laws_markAngleSS_s]) := spec_is (c := laws_markAngleSS_c) seatOK laws_markAngleSS_t Go.Proofs.Try.func11 rfl (code := laws_markAngleSS_code) rfl rfl laws_markAngleSS_rs laws_markAngleSS_e
noncomputable def laws_heldAngleSS_code : Code := (Go.Proofs.Try.f12.body).getD .skip
def laws_heldAngleSS_c : Cfg := ⟨12, [], [[0, 1, 5], [1], [4]], [], []⟩
noncomputable def laws_heldAngleS_code : Code := (Go.Proofs.Try.f22.body).getD .skip
def laws_heldAngleS_c : Cfg := ⟨22, [], [[0, 1, 5], [1], [4]], [], []⟩
noncomputable def laws_heldAngleS_l0_s : LSum := ⟨0, ⟨[(0, .val (.sl 37 (.pair (.int .i64) (.pair (.int .i64) (.unit)))) .fr), (0, .val (.int .i64) .fr), (3, .val (.int .i64) .fr)], 25⟩, (.ret, ⟨[(4, .val (.int .i64) .fr)], 26⟩), [(.exit 0, ⟨[(1, .val (.int .i64) .fr)], 29⟩)], laws_heldAngleS_l0⟩
noncomputable def laws_heldAngleS_s : Spec := ⟨[.v (.sl 37 (.pair (.int .i64) (.pair (.int .i64) (.unit)))) .fr, .v (.int .i64) .fr], Int, fun v => laws_heldAngleS v.1 v.2.1, fun r => ([.v (.int .i64) .fr r], [])⟩
noncomputable def laws_heldAngleS_ls : List LSum := [laws_heldAngleS_l0_s]
noncomputable def laws_heldAngleS_tab : List Row := []
theorem laws_heldAngleS_t : ∀ r, r ∈ laws_heldAngleS_tab → RowIs Go.Proofs.Try.prog r := tab_nil
theorem laws_heldAngleS_l0_r : RoundIs (mkCtx Go.K.Link.seat laws_heldAngleS_c laws_heldAngleS_tab) (sums laws_heldAngleS_ls) 0 (bodyAt (loopsOf 0 laws_heldAngleS_code) 0) laws_heldAngleS_l0_s := by
  rintro ⟨a, ⟨k, ⟨i, _⟩⟩⟩
  show _ = (laws_heldAngleS_l0 (a, (k, (i, ())))).bind fun r : (Ctl ((List (Int × (Int × Unit))) × Int × Int × Unit) ((Int × Unit) ⊕ (Int × Unit))) => some (ctlVal laws_heldAngleS_l0_s r)
  simp only [laws_heldAngleS_l0, kb_ite, kb_some, kb_none, kb_bind, kb_alt]
  kernel_rfl
theorem laws_heldAngleS_rs : RoundsOK (mkCtx Go.K.Link.seat laws_heldAngleS_c laws_heldAngleS_tab) (sums laws_heldAngleS_ls) (loopsOf 0 laws_heldAngleS_code) laws_heldAngleS_ls := ⟨⟨rfl, rfl, laws_heldAngleS_l0_r⟩, trivial⟩
theorem laws_heldAngleS_e : ∀ v, (evFn (mkCtx Go.K.Link.seat laws_heldAngleS_c laws_heldAngleS_tab) (sums laws_heldAngleS_ls) 22 Go.Proofs.Try.f22 (encL laws_heldAngleS_s.a v)).run = (laws_heldAngleS_s.gen v).bind fun y => some (laws_heldAngleS_s.out y) := by
  rintro ⟨a, ⟨k, _⟩⟩
  show _ = (laws_heldAngleS a k).bind fun y : Int => some (laws_heldAngleS_s.out y)
  simp only [laws_heldAngleS, kb_ite, kb_some, kb_none, kb_bind, kb_alt]
  kernel_rfl
theorem laws_heldAngleS_is : FnIs Go.Proofs.Try.prog 22 (modeOf []) (phi [laws_heldAngleS_s]) := spec_is (c := laws_heldAngleS_c) seatOK laws_heldAngleS_t Go.Proofs.Try.func22 rfl (code := laws_heldAngleS_code) rfl rfl laws_heldAngleS_rs laws_heldAngleS_e
noncomputable def laws_heldAngleSS_l0_s : LSum := ⟨0, ⟨[(0, .val (.sl 44 (.sl 37 (.pair (.int .i64) (.pair (.int .i64) (.unit))))) .fr), (0, .val (.int .i64) .fr), (3, .val (.int .i64) .fr)], 15⟩, (.ret, ⟨[(4, .val (.int .i64) .fr)], 16⟩), [(.exit 0, ⟨[(1, .val (.int .i64) .fr)], 19⟩)], laws_heldAngleSS_l0⟩
noncomputable def laws_heldAngleSS_s : Spec := ⟨[.v (.sl 44 (.sl 37 (.pair (.int .i64) (.pair (.int .i64) (.unit))))) .fr, .v (.int .i64) .fr], Int, fun v => laws_heldAngleSS v.1 v.2.1, fun r => ([.v (.int .i64) .fr r], [])⟩
noncomputable def laws_heldAngleSS_ls : List LSum := [laws_heldAngleSS_l0_s]
noncomputable def laws_heldAngleSS_tab : List Row := [⟨22, [], [laws_heldAngleS_s]⟩]
theorem laws_heldAngleSS_t : ∀ r, r ∈ laws_heldAngleSS_tab → RowIs Go.Proofs.Try.prog r := tab_cons (laws_heldAngleS_is) (tab_nil)
theorem laws_heldAngleSS_l0_r : RoundIs (mkCtx Go.K.Link.seat laws_heldAngleSS_c laws_heldAngleSS_tab) (sums laws_heldAngleSS_ls) 0 (bodyAt (loopsOf 0 laws_heldAngleSS_code) 0) laws_heldAngleSS_l0_s := by
  rintro ⟨a, ⟨k, ⟨i, _⟩⟩⟩
  show _ = (laws_heldAngleSS_l0 (a, (k, (i, ())))).bind fun r : (Ctl ((List (List (Int × (Int × Unit)))) × Int × Int × Unit) ((Int × Unit) ⊕ (Int × Unit))) => some (ctlVal laws_heldAngleSS_l0_s r)
  simp only [laws_heldAngleSS_l0, kb_ite, kb_some, kb_none, kb_bind, kb_alt]
  kernel_rfl
theorem laws_heldAngleSS_rs : RoundsOK (mkCtx Go.K.Link.seat laws_heldAngleSS_c laws_heldAngleSS_tab) (sums laws_heldAngleSS_ls) (loopsOf 0 laws_heldAngleSS_code) laws_heldAngleSS_ls := ⟨⟨rfl, rfl, laws_heldAngleSS_l0_r⟩, trivial⟩
theorem laws_heldAngleSS_e : ∀ v, (evFn (mkCtx Go.K.Link.seat laws_heldAngleSS_c laws_heldAngleSS_tab) (sums laws_heldAngleSS_ls) 12 Go.Proofs.Try.f12 (encL laws_heldAngleSS_s.a v)).run = (laws_heldAngleSS_s.gen v).bind fun y => some (laws_heldAngleSS_s.out y) := by
  rintro ⟨a, ⟨k, _⟩⟩
  show _ = (laws_heldAngleSS a k).bind fun y : Int => some (laws_heldAngleSS_s.out y)
  simp only [laws_heldAngleSS, kb_ite, kb_some, kb_none, kb_bind, kb_alt]
  kernel_rfl
theorem laws_heldAngleSS_is : FnIs Go.Proofs.Try.prog 12 (modeOf []) (phi [laws_heldAngleSS_s]) := spec_is (c := laws_heldAngleSS_c) seatOK laws_heldAngleSS_t Go.Proofs.Try.func12 rfl (code := laws_heldAngleSS_code) rfl rfl laws_heldAngleSS_rs laws_heldAngleSS_e
noncomputable def laws_FnExactEndClasses_s : Spec := ⟨[.v (.sl 43 (.pair (.pair (.int .i64) (.pair (.int .i64) (.unit))) (.pair (.pair (.int .i64) (.pair (.int .i64) (.unit))) (.unit)))) .fr], Bool, fun v => laws_FnExactEndClasses v.1, fun r => ([.v (.bool) .fr r], [])⟩
noncomputable def laws_FnExactEndClasses_ls : List LSum := []
noncomputable def laws_FnExactEndClasses_tab : List Row := [⟨4, [], [laws_szLeafS_s]⟩, ⟨5, [], [spec_EndClasses_s]⟩, ⟨6, [], [laws_toLeafS_s]⟩, ⟨7, [], [impl_EndClasses_s]⟩, ⟨8, [], [laws_eqAngleSS_s]⟩, ⟨9, [], [laws_eqLeafS_s]⟩, ⟨10, [.mut], [laws_markLeafS_s]⟩, ⟨11, [.mut], [laws_markAngleSS_s]⟩, ⟨12, [], [laws_heldAngleSS_s]⟩]
theorem laws_FnExactEndClasses_t : ∀ r, r ∈ laws_FnExactEndClasses_tab → RowIs Go.Proofs.Try.prog r := tab_cons (laws_szLeafS_is) (tab_cons (spec_EndClasses_is) (tab_cons (laws_toLeafS_is) (tab_cons (impl_EndClasses_is) (tab_cons (laws_eqAngleSS_is) (tab_cons (laws_eqLeafS_is) (tab_cons (laws_markLeafS_is) (tab_cons (laws_markAngleSS_is) (tab_cons (laws_heldAngleSS_is) (tab_nil)))))))))
theorem laws_FnExactEndClasses_rs : RoundsOK (mkCtx Go.K.Link.seat laws_FnExactEndClasses_c laws_FnExactEndClasses_tab) (sums laws_FnExactEndClasses_ls) (loopsOf 0 laws_FnExactEndClasses_code) laws_FnExactEndClasses_ls := trivial
theorem laws_FnExactEndClasses_e : ∀ v, (evFn (mkCtx Go.K.Link.seat laws_FnExactEndClasses_c laws_FnExactEndClasses_tab) (sums laws_FnExactEndClasses_ls) 3 Go.Proofs.Try.f3 (encL laws_FnExactEndClasses_s.a v)).run = (laws_FnExactEndClasses_s.gen v).bind fun y => some (laws_FnExactEndClasses_s.out y) := by
  rintro ⟨aList, _⟩
  show _ = (laws_FnExactEndClasses aList).bind fun y : Bool => some (laws_FnExactEndClasses_s.out y)
  simp only [laws_FnExactEndClasses, kb_ite, kb_some, kb_none, kb_bind, kb_alt]
  kernel_rfl
theorem laws_FnExactEndClasses_is : FnIs Go.Proofs.Try.prog 3 (modeOf []) (phi [laws_FnExactEndClasses_s]) := spec_is (c := laws_FnExactEndClasses_c) seatOK laws_FnExactEndClasses_t Go.Proofs.Try.func3 rfl (code := laws_FnExactEndClasses_code) rfl rfl laws_FnExactEndClasses_rs laws_FnExactEndClasses_e
end Go.K.Link
namespace Go.Proofs.Ytcipifnjcfboeaa
open Go.K Go.K.Link Go.RowKit
theorem Try.own : ownKnob Try.prog.godebug = none := by kernel_rfl
theorem Try.laidOut : laidOutB Try.prog = true := by kernel_rfl
theorem inI_of {n : Int} (h : (Lit.int .i64 n).wf = true) : Go.K.Pure.InI n := by
  simp only [Lit.wf, Bool.and_eq_true, decide_eq_true_eq] at h
  have h1 : IntKind.i64.min = -9223372036854775808 := by decide
  have h2 : IntKind.i64.max = 9223372036854775807 := by decide
  rw [h1, h2] at h
  exact ⟨h.1, by omega⟩
theorem inL_of {l : Go.K.Pure.Lf} (h : Fits (.pair Two (.pair Two .unit)) l) : Go.K.Pure.InL l := ⟨⟨inI_of h.1.1, inI_of h.1.2.1⟩, ⟨inI_of h.2.1.1, inI_of h.2.1.2.1⟩⟩
open Go.K.Pure in
theorem lifted (os : Os) (started : os.Started) (H : Type) (enc : TypeId × Value → H) :
    ReturnsInHanded {} Try.checked os 3 .any (Rows.fnExactEndClassesSpec.pre6 enc Try.prog Try.f3 Rows.fnExactEndClassesRow.domain false) (Rows.fnExactEndClassesSpec.post enc Try.prog Try.f3 false true false false) := by
  refine returnsInHanded_of_change (C := Try.checked) Try.own started (by kernel_rfl) Try.func3
    (ChangeSpec.witness6 (enc := enc) (C := Try.checked) false ⟨#[], #[.slice none 0 0], []⟩ 8 (by kernel_rfl) (by kernel_rfl) (by kernel_rfl) (by kernel_rfl)) ?_
  intro W base args ds gs before hval hW _ _
  exact law_contract Try.laidOut (mkCtx_ok (c := ⟨0, [], [], [], []⟩) (tab := []) seatOK) (s := Rows.fnExactEndClassesSpec) (Tb := 4) (ts := [.sl 43 (.pair Two (.pair Two .unit))]) rfl (fun ds h => by
      match ds, h with
      | [d], _ => rfl) rfl Try.underlying4 rfl (by kernel_rfl) (by kernel_rfl) (gen := laws_FnExactEndClasses_s.gen) (out := laws_FnExactEndClasses_s.out) laws_FnExactEndClasses_is (fun v hv => ⟨true, law_EndClasses (L := v.1) (fun l hl => inL_of (hv.1.2 l hl)) (Nat.lt_of_le_of_lt hv.1.1 (by decide)), rfl⟩) args ds gs before base hval hW
theorem holds : Rows.FnExactEndClassesSaid :=
  OpenClaim.holds_of_wide 3 Try.f3 rfl rfl rfl rfl rfl rfl rfl ⟨rfl, rfl, rfl, rfl, rfl⟩ rfl rfl rfl rfl rfl (by kernel_rfl) Try.func3 (by kernel_rfl)
    (of_decide_eq_true (by kernel_rfl)) (by unfold Func.isWrapper; first | (rw [if_pos (by decide +kernel)]; kernel_rfl) | (rw [if_neg (by decide +kernel)]; exact ⟨rfl, rfl⟩))
    (fun os started H enc _ => lifted os started H enc)
end Go.Proofs.Ytcipifnjcfboeaa

