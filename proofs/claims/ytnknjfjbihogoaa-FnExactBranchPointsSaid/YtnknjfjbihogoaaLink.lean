/- What each function of the program gives, as a plain function, with the proof that it gives it; no condition. -/
import Derived.Test.YtnknjfjbihogoaaP1
import Derived.Test.YtnknjfjbihogoaaS1
import Derived.Test.YtnknjfjbihogoaaK3
import Derived.Test.YtnknjfjbihogoaaRows
import Derived.Shelf.Lay
import Derived.Ground.SlsfProg
import Derived.Ground.NamesProg
set_option linter.all false
set_option maxRecDepth 100000
set_option maxHeartbeats 4000000
set_option linter.all false
namespace Go.Proofs
open Go.Shelf Go.RowKit
def Try.repL_ren : Go.Shelf.Ren := ⟨fun | 105 => 74 | 212 => 83 | 99 => 84 | 165 => 85 | 166 => 86 | 170 => 87 | 169 => 88 | 263 => 91 | 264 => 92 | 206 => 93 | 240 => 94 | 241 => 95 | 276 => 96 | 277 => 97 | n => n, fun | 9 => 9 | 3 => 3 | 4 => 4 | 20 => 20 | 0 => 0 | 46 => 75 | 109 => 103 | 5 => 5 | 72 => 107 | 76 => 111 | 51 => 90 | 146 => 118 | 53 => 92 | 148 => 120 | 70 => 105 | 37 => 54 | 75 => 110 | 127 => 122 | 164 => 123 | 80 => 51 | n => n, fun | n => n⟩
theorem Try.repL : Go.Proofs.Lays.n105 Try.prog Try.repL_ren := {
  mixed := by kernel_rfl
  f99 := Try.func84.trans (congrArg some (by kernel_rfl))
  f105 := Try.func74.trans (congrArg some (by kernel_rfl))
  f165 := Try.func85.trans (congrArg some (by kernel_rfl))
  f166 := Try.func86.trans (congrArg some (by kernel_rfl))
  f169 := Try.func88.trans (congrArg some (by kernel_rfl))
  f170 := Try.func87.trans (congrArg some (by kernel_rfl))
  f206 := Try.func93.trans (congrArg some (by kernel_rfl))
  f212 := Try.func83.trans (congrArg some (by kernel_rfl))
  f240 := Try.func94.trans (congrArg some (by kernel_rfl))
  f241 := Try.func95.trans (congrArg some (by kernel_rfl))
  f263 := Try.func91.trans (congrArg some (by kernel_rfl))
  f264 := Try.func92.trans (congrArg some (by kernel_rfl))
  f276 := Try.func96.trans (congrArg some (by kernel_rfl))
  f277 := Try.func97.trans (congrArg some (by kernel_rfl))
  t0 := Try.underlying0
  a0 := Try.isAgg0
  z0 := Try.sizeOf0
  v0 := Try.zeroValue0
  t3 := Try.underlying3
  a3 := Try.isAgg3
  z3 := Try.sizeOf3
  v3 := Try.zeroValue3
  t4 := Try.underlying4
  a4 := Try.isAgg4
  z4 := Try.sizeOf4
  v4 := Try.zeroValue4
  t5 := Try.underlying5
  a5 := Try.isAgg5
  z5 := Try.sizeOf5
  v5 := Try.zeroValue5
  t9 := Try.underlying9
  a9 := Try.isAgg9
  z9 := Try.sizeOf9
  v9 := Try.zeroValue9
  t20 := Try.underlying20
  a20 := Try.isAgg20
  z20 := Try.sizeOf20
  v20 := Try.zeroValue20
  t37 := Try.underlying54
  a37 := Try.isAgg54
  z37 := Try.sizeOf54
  v37 := Try.zeroValue54
  t46 := Try.underlying75
  a46 := Try.isAgg75
  z46 := Try.sizeOf75
  v46 := Try.zeroValue75
  t51 := Try.underlying90
  a51 := Try.isAgg90
  z51 := Try.sizeOf90
  v51 := Try.zeroValue90
  t53 := Try.underlying92
  a53 := Try.isAgg92
  z53 := Try.sizeOf92
  v53 := Try.zeroValue92
  t70 := Try.underlying105
  a70 := Try.isAgg105
  z70 := Try.sizeOf105
  v70 := Try.zeroValue105
  t72 := Try.underlying107
  a72 := Try.isAgg107
  z72 := Try.sizeOf107
  v72 := Try.zeroValue107
  t75 := Try.underlying110
  a75 := Try.isAgg110
  z75 := Try.sizeOf110
  v75 := Try.zeroValue110
  t76 := Try.underlying111
  a76 := Try.isAgg111
  z76 := Try.sizeOf111
  v76 := Try.zeroValue111
  t109 := Try.underlying103
  a109 := Try.isAgg103
  z109 := Try.sizeOf103
  v109 := Try.zeroValue103
  t127 := Try.underlying122
  a127 := Try.isAgg122
  z127 := Try.sizeOf122
  v127 := Try.zeroValue122
  t146 := Try.underlying118
  a146 := Try.isAgg118
  z146 := Try.sizeOf118
  v146 := Try.zeroValue118
  t148 := Try.underlying120
  a148 := Try.isAgg120
  z148 := Try.sizeOf120
  v148 := Try.zeroValue120
  t164 := Try.underlying123
  a164 := Try.isAgg123
  z164 := Try.sizeOf123
  v164 := Try.zeroValue123 }
theorem Try.repX : Builder.Extra Try.prog Try.repL_ren := {
  sizeBuilder := by kernel_rfl
  liesBuilder := by kernel_rfl
  t5 := Try.repL.t5
  a5 := Try.repL.a5
  z5 := Try.repL.z5
  v5 := Try.repL.v5
  infoByte := by kernel_rfl
  cellsByte := by kernel_rfl
  sizeByte := by kernel_rfl
  neB5 := by decide }
def Try.sortL24_ren : Go.Shelf.Ren := ⟨fun | 6 => 24 | 15 => 48 | 14 => 47 | 28 => 67 | 29 => 68 | 20 => 59 | 21 => 60 | 22 => 61 | 23 => 62 | 24 => 63 | 25 => 64 | 26 => 65 | 27 => 66 | 46 => 75 | 47 => 76 | 48 => 77 | 49 => 78 | 50 => 79 | 57 => 89 | n => n, fun | 22 => 25 | 24 => 28 | 25 => 52 | 3 => 3 | 39 => 75 | 0 => 0 | 53 => 90 | 55 => 92 | 4 => 4 | 46 => 84 | 45 => 83 | 50 => 70 | 5 => 5 | 9 => 9 | 66 => 97 | 70 => 101 | 76 => 114 | 77 => 115 | n => n, fun | n => n⟩
theorem Try.sortL24 : Go.Proofs.SlLaysF0.n6 Try.prog Try.sortL24_ren := {
  mixed := by kernel_rfl
  f6 := ⟨ "slices.SortFunc[[]loop.example/g01234/impl.Sequence,loop.example/g01234/impl.Sequence]", by decide, Try.func24.trans (congrArg some (by kernel_rfl))⟩
  f14 := ⟨ "slices.pdqsortCmpFunc[loop.example/g01234/impl.Sequence]", by decide, Try.func47.trans (congrArg some (by kernel_rfl))⟩
  f15 := Try.func48.trans (congrArg some (by kernel_rfl))
  f20 := ⟨ "slices.insertionSortCmpFunc[loop.example/g01234/impl.Sequence]", by decide, Try.func59.trans (congrArg some (by kernel_rfl))⟩
  f21 := ⟨ "slices.heapSortCmpFunc[loop.example/g01234/impl.Sequence]", by decide, Try.func60.trans (congrArg some (by kernel_rfl))⟩
  f22 := ⟨ "slices.breakPatternsCmpFunc[loop.example/g01234/impl.Sequence]", by decide, Try.func61.trans (congrArg some (by kernel_rfl))⟩
  f23 := ⟨ "slices.choosePivotCmpFunc[loop.example/g01234/impl.Sequence]", by decide, Try.func62.trans (congrArg some (by kernel_rfl))⟩
  f24 := ⟨ "slices.reverseRangeCmpFunc[loop.example/g01234/impl.Sequence]", by decide, Try.func63.trans (congrArg some (by kernel_rfl))⟩
  f25 := ⟨ "slices.partialInsertionSortCmpFunc[loop.example/g01234/impl.Sequence]", by decide, Try.func64.trans (congrArg some (by kernel_rfl))⟩
  f26 := ⟨ "slices.partitionEqualCmpFunc[loop.example/g01234/impl.Sequence]", by decide, Try.func65.trans (congrArg some (by kernel_rfl))⟩
  f27 := ⟨ "slices.partitionCmpFunc[loop.example/g01234/impl.Sequence]", by decide, Try.func66.trans (congrArg some (by kernel_rfl))⟩
  f28 := Try.func67.trans (congrArg some (by kernel_rfl))
  f29 := Try.func68.trans (congrArg some (by kernel_rfl))
  f46 := ⟨ "slices.siftDownCmpFunc[loop.example/g01234/impl.Sequence]", by decide, Try.func75.trans (congrArg some (by kernel_rfl))⟩
  f47 := Try.func76.trans (congrArg some (by kernel_rfl))
  f48 := Try.func77.trans (congrArg some (by kernel_rfl))
  f49 := ⟨ "slices.medianAdjacentCmpFunc[loop.example/g01234/impl.Sequence]", by decide, Try.func78.trans (congrArg some (by kernel_rfl))⟩
  f50 := ⟨ "slices.medianCmpFunc[loop.example/g01234/impl.Sequence]", by decide, Try.func79.trans (congrArg some (by kernel_rfl))⟩
  f57 := ⟨ "slices.order2CmpFunc[loop.example/g01234/impl.Sequence]", by decide, Try.func89.trans (congrArg some (by kernel_rfl))⟩
  t0 := Try.underlying0
  a0 := Try.isAgg0
  z0 := Try.sizeOf0
  v0 := Try.zeroValue0
  t3 := Try.underlying3
  a3 := Try.isAgg3
  z3 := Try.sizeOf3
  v3 := Try.zeroValue3
  t4 := Try.underlying4
  a4 := Try.isAgg4
  z4 := Try.sizeOf4
  v4 := Try.zeroValue4
  t5 := Try.underlying5
  a5 := Try.isAgg5
  z5 := Try.sizeOf5
  v5 := Try.zeroValue5
  t9 := Try.underlying9
  a9 := Try.isAgg9
  z9 := Try.sizeOf9
  v9 := Try.zeroValue9
  t22 := Try.underlying25
  a22 := Try.isAgg25
  z22 := Try.sizeOf25
  v22 := Try.zeroValue25
  t25 := Try.underlying52
  a25 := Try.isAgg52
  z25 := Try.sizeOf52
  v25 := Try.zeroValue52
  t39 := Try.underlying75
  a39 := Try.isAgg75
  z39 := Try.sizeOf75
  v39 := Try.zeroValue75
  t45 := Try.underlying83
  a45 := Try.isAgg83
  z45 := Try.sizeOf83
  v45 := Try.zeroValue83
  t46 := Try.underlying84
  a46 := Try.isAgg84
  z46 := Try.sizeOf84
  v46 := Try.zeroValue84
  t50 := Try.underlying70
  a50 := Try.isAgg70
  z50 := Try.sizeOf70
  v50 := Try.zeroValue70
  t53 := Try.underlying90
  a53 := Try.isAgg90
  z53 := Try.sizeOf90
  v53 := Try.zeroValue90
  t55 := Try.underlying92
  a55 := Try.isAgg92
  z55 := Try.sizeOf92
  v55 := Try.zeroValue92
  t66 := Try.underlying97
  a66 := Try.isAgg97
  z66 := Try.sizeOf97
  v66 := Try.zeroValue97
  t70 := Try.underlying101
  a70 := Try.isAgg101
  z70 := Try.sizeOf101
  v70 := Try.zeroValue101
  t76 := Try.underlying114
  a76 := Try.isAgg114
  z76 := Try.sizeOf114
  v76 := Try.zeroValue114
  t77 := Try.underlying115
  a77 := Try.isAgg115
  z77 := Try.sizeOf115
  v77 := Try.zeroValue115 }
def Try.ixbL_ren : Go.Shelf.Ren := ⟨fun | 137 => 56 | 217 => 73 | 266 => 82 | n => n, fun | 9 => 9 | 5 => 5 | 3 => 3 | n => n, fun | n => n⟩
theorem Try.ixbL : Go.Proofs.Lays.n137 Try.prog Try.ixbL_ren := {
  mixed := by kernel_rfl
  f137 := Try.func56.trans (congrArg some (by kernel_rfl))
  f217 := Try.func73.trans (congrArg some (by kernel_rfl))
  f266 := Try.func82.trans (congrArg some (by kernel_rfl))
  t3 := Try.underlying3
  a3 := Try.isAgg3
  z3 := Try.sizeOf3
  v3 := Try.zeroValue3
  t5 := Try.underlying5
  a5 := Try.isAgg5
  z5 := Try.sizeOf5
  v5 := Try.zeroValue5
  t9 := Try.underlying9
  a9 := Try.isAgg9
  z9 := Try.sizeOf9
  v9 := Try.zeroValue9 }
def Try.cmpL_ren : Go.Shelf.Ren := ⟨fun | 106 => 26 | 213 => 49 | 265 => 69 | n => n, fun | 9 => 9 | 3 => 3 | n => n, fun | n => n⟩
theorem Try.cmpL : Go.Proofs.Lays.n106 Try.prog Try.cmpL_ren := {
  mixed := by kernel_rfl
  f106 := Try.func26.trans (congrArg some (by kernel_rfl))
  f213 := Try.func49.trans (congrArg some (by kernel_rfl))
  f265 := Try.func69.trans (congrArg some (by kernel_rfl))
  t3 := Try.underlying3
  a3 := Try.isAgg3
  z3 := Try.sizeOf3
  v3 := Try.zeroValue3
  t9 := Try.underlying9
  a9 := Try.isAgg9
  z9 := Try.sizeOf9
  v9 := Try.zeroValue9 }
end Go.Proofs
namespace Go.K.Link
open Go.K.Pure
def tyList : List (Nat × Ty) := [(2, .int .i64), (3, .int .i64), (4, .bool), (5, .int .u8), (6, .int .u8), (7, .pair (.int .i64) (.pair (.int .i64) (.pair (.bool) (.pair (.int .u8) (.unit))))), (8, .pair (.int .i64) (.pair (.int .i64) (.pair (.bool) (.pair (.int .u8) (.unit))))), (9, .str), (10, .str), (11, .str), (12, .int .u64), (21, .int .i32), (22, .pair (.str) (.pair (.str) (.unit))), (23, .pair (.str) (.pair (.str) (.unit))), (25, .sl 28 (.pair (.str) (.pair (.str) (.unit)))), (28, .pair (.str) (.pair (.str) (.unit))), (43, .arr 3 (.pair (.str) (.pair (.str) (.unit)))), (48, .arr 3 (.pair (.str) (.pair (.str) (.unit)))), (54, .sl 5 (.int .u8)), (57, .sl 43 (.arr 3 (.pair (.str) (.pair (.str) (.unit))))), (66, .mp (.arr 3 (.pair (.str) (.pair (.str) (.unit)))) (.int .i64)), (75, .int .u64), (77, .arr 2 (.int .i64)), (83, .int .i64), (90, .int .u32), (92, .int .u64), (97, .int .u64), (101, .ptr (.int .i64)), (114, .ptr (.int .u64)), (122, .ptr (.int .u8)), (131, .int .u8), (132, .int .u8), (134, .int .i32), (135, .int .i32)]
def byList : List (Nat × Nat) := [(25, 32), (54, 1), (57, 96)]
def ftyList : List Nat := [1, 24, 27, 29, 30, 31, 32, 33, 35, 36, 37, 38, 39, 40, 42, 44, 45, 47, 49, 50, 51, 52, 53, 55, 56, 58, 59, 61, 62, 63, 64, 65, 67, 68, 69, 71, 72, 73, 74, 76, 78, 79, 80, 81, 82, 85, 86, 87, 88, 89, 91, 93, 94, 95, 96, 98, 99, 100, 102, 104, 108, 112, 113, 116, 117, 119, 121, 124, 125, 133]
def etList : List (Nat × Nat) := [(25, 28), (54, 5), (57, 43)]
def fieldList : List (Nat × List Nat) := [(7, [2, 3, 4, 6]), (8, [2, 3, 4, 6]), (13, [9, 12]), (14, [9, 12]), (18, [17]), (19, [17]), (22, [9, 9]), (23, [9, 9]), (28, [9, 9]), (106, [105, 54]), (107, [105, 54]), (126, [17, 17, 17, 9]), (127, [17, 17, 17, 9]), (129, [128]), (130, [128]), (136, [12, 12, 90, 131, 5, 5, 132, 133, 122, 134, 135]), (137, [12, 12, 90, 131, 5, 5, 132, 133, 122, 134, 135])]
def seat : Seat := seatOf tyList byList ftyList fieldList etList
theorem seatOK : SeatOK Go.Proofs.Try.prog seat := seat_ok (by kernel_rfl) (by kernel_rfl) (by kernel_rfl) (by kernel_rfl)
noncomputable def laws_FnExactBranchPoints_code : Code := (Go.Proofs.Try.f3.body).getD .skip
def laws_FnExactBranchPoints_c : Cfg := ⟨3, [], [], [], [], []⟩
noncomputable def laws_szSequence_code : Code := (Go.Proofs.Try.f4.body).getD .skip
def laws_szSequence_c : Cfg := ⟨4, [], [], [], [], []⟩
noncomputable def laws_szSequence_s : Spec := ⟨[.v (.pair (.str) (.pair (.str) (.unit))) .fr, .v (.int .i64) .fr], Int, fun v => laws_szSequence v.1 v.2.1, fun r => ([.v (.int .i64) .fr r], [])⟩
noncomputable def laws_szSequence_ls : List LSum := []
noncomputable def laws_szSequence_tab : List Row := []
theorem laws_szSequence_t : ∀ r, r ∈ laws_szSequence_tab → RowIs Go.Proofs.Try.prog r := tab_nil
theorem laws_szSequence_rs : RoundsOK (mkCtx Go.K.Link.seat laws_szSequence_c laws_szSequence_tab) (sums laws_szSequence_ls) (loopsOf 0 laws_szSequence_code) laws_szSequence_ls := trivial
theorem laws_szSequence_e : ∀ v, (evFn (mkCtx Go.K.Link.seat laws_szSequence_c laws_szSequence_tab) (sums laws_szSequence_ls) 4 Go.Proofs.Try.f4 (encL laws_szSequence_s.a v)).run = (laws_szSequence_s.gen v).bind fun y => some (laws_szSequence_s.out y) := by
  rintro ⟨a, ⟨left, _⟩⟩
  show _ = (laws_szSequence a left).bind fun y : Int => some (laws_szSequence_s.out y)
  simp only [laws_szSequence, kb_ite, kb_some, kb_none, kb_bind, kb_alt]
  kernel_rfl
theorem laws_szSequence_is : FnIs Go.Proofs.Try.prog 4 (modeOf []) (phi [laws_szSequence_s]) := spec_is (c := laws_szSequence_c) seatOK laws_szSequence_t Go.Proofs.Try.func4 rfl (code := laws_szSequence_code) rfl rfl laws_szSequence_rs laws_szSequence_e
noncomputable def laws_toSequence_code : Code := (Go.Proofs.Try.f6.body).getD .skip
def laws_toSequence_c : Cfg := ⟨6, [], [], [], [], []⟩
noncomputable def laws_toSequence_s : Spec := ⟨[.v (.pair (.str) (.pair (.str) (.unit))) .fr], ((List UInt8) × ((List UInt8) × Unit)), fun v => laws_toSequence v.1, fun r => ([.v (.pair (.str) (.pair (.str) (.unit))) .fr r], [])⟩
noncomputable def laws_toSequence_ls : List LSum := []
noncomputable def laws_toSequence_tab : List Row := []
theorem laws_toSequence_t : ∀ r, r ∈ laws_toSequence_tab → RowIs Go.Proofs.Try.prog r := tab_nil
theorem laws_toSequence_rs : RoundsOK (mkCtx Go.K.Link.seat laws_toSequence_c laws_toSequence_tab) (sums laws_toSequence_ls) (loopsOf 0 laws_toSequence_code) laws_toSequence_ls := trivial
theorem laws_toSequence_e : ∀ v, (evFn (mkCtx Go.K.Link.seat laws_toSequence_c laws_toSequence_tab) (sums laws_toSequence_ls) 6 Go.Proofs.Try.f6 (encL laws_toSequence_s.a v)).run = (laws_toSequence_s.gen v).bind fun y => some (laws_toSequence_s.out y) := by
  rintro ⟨a, _⟩
  show _ = (laws_toSequence a).bind fun y : ((List UInt8) × ((List UInt8) × Unit)) => some (laws_toSequence_s.out y)
  simp only [laws_toSequence, kb_ite, kb_some, kb_none, kb_bind, kb_alt]
  kernel_rfl
theorem laws_toSequence_is : FnIs Go.Proofs.Try.prog 6 (modeOf []) (phi [laws_toSequence_s]) := spec_is (c := laws_toSequence_c) seatOK laws_toSequence_t Go.Proofs.Try.func6 rfl (code := laws_toSequence_code) rfl rfl laws_toSequence_rs laws_toSequence_e
noncomputable def spec_BranchPoints_code : Code := (Go.Proofs.Try.f5.body).getD .skip
def spec_BranchPoints_c : Cfg := ⟨5, [], [], [], [], []⟩
noncomputable def spec_l06Tree_code : Code := (Go.Proofs.Try.f11.body).getD .skip
def spec_l06Tree_c : Cfg := ⟨11, [], [], [], [], []⟩
noncomputable def spec_l06Code_code : Code := (Go.Proofs.Try.f17.body).getD .skip
def spec_l06Code_c : Cfg := ⟨17, [], [[1, 2, 5], [1, 2], [4], [], [], [], [1, 2, 6], [], [4]], [], [], []⟩
noncomputable def spec_l01Seq_code : Code := (Go.Proofs.Try.f29.body).getD .skip
def spec_l01Seq_c : Cfg := ⟨29, [], [], [], [], []⟩
noncomputable def spec_l01Letters_code : Code := (Go.Proofs.Try.f50.body).getD .skip
def spec_l01Letters_c : Cfg := ⟨50, [], [[0, 3], [], [2]], [], [], []⟩
noncomputable def spec_l01Letters_l0_s : LSum := ⟨0, ⟨[(0, .val (.str) .fr), (2, .val (.int .i64) .fr)], 22⟩, (.ret, ⟨[(2, .val (.bool) .fr)], 23⟩), [(.exit 0, ⟨[], 26⟩)], spec_l01Letters_l0⟩
noncomputable def spec_l01Letters_s : Spec := ⟨[.v (.str) .fr], Bool, fun v => spec_l01Letters v.1, fun r => ([.v (.bool) .fr r], [])⟩
noncomputable def spec_l01Letters_ls : List LSum := [spec_l01Letters_l0_s]
noncomputable def spec_l01Letters_tab : List Row := []
theorem spec_l01Letters_t : ∀ r, r ∈ spec_l01Letters_tab → RowIs Go.Proofs.Try.prog r := tab_nil
theorem spec_l01Letters_l0_r : RoundIs (mkCtx Go.K.Link.seat spec_l01Letters_c spec_l01Letters_tab) (sums spec_l01Letters_ls) 0 (bodyAt (loopsOf 0 spec_l01Letters_code) 0) spec_l01Letters_l0_s := by
  rintro ⟨text, ⟨i, _⟩⟩
  show _ = (spec_l01Letters_l0 (text, (i, ()))).bind fun r : (Ctl ((List UInt8) × Int × Unit) ((Bool × Unit) ⊕ (Unit))) => some (ctlVal spec_l01Letters_l0_s r)
  simp only [spec_l01Letters_l0, kb_ite, kb_some, kb_none, kb_bind, kb_alt]
  kernel_rfl
theorem spec_l01Letters_rs : RoundsOK (mkCtx Go.K.Link.seat spec_l01Letters_c spec_l01Letters_tab) (sums spec_l01Letters_ls) (loopsOf 0 spec_l01Letters_code) spec_l01Letters_ls := ⟨⟨rfl, rfl, spec_l01Letters_l0_r⟩, trivial⟩
theorem spec_l01Letters_e : ∀ v, (evFn (mkCtx Go.K.Link.seat spec_l01Letters_c spec_l01Letters_tab) (sums spec_l01Letters_ls) 50 Go.Proofs.Try.f50 (encL spec_l01Letters_s.a v)).run = (spec_l01Letters_s.gen v).bind fun y => some (spec_l01Letters_s.out y) := by
  rintro ⟨text, _⟩
  show _ = (spec_l01Letters text).bind fun y : Bool => some (spec_l01Letters_s.out y)
  simp only [spec_l01Letters, kb_ite, kb_some, kb_none, kb_bind, kb_alt]
  kernel_rfl
theorem spec_l01Letters_is : FnIs Go.Proofs.Try.prog 50 (modeOf []) (phi [spec_l01Letters_s]) := spec_is (c := spec_l01Letters_c) seatOK spec_l01Letters_t Go.Proofs.Try.func50 rfl (code := spec_l01Letters_code) rfl rfl spec_l01Letters_rs spec_l01Letters_e
noncomputable def spec_l01Canonical_code : Code := (Go.Proofs.Try.f51.body).getD .skip
def spec_l01Canonical_c : Cfg := ⟨51, [], [[0, 1, 4, 5, 6], [0, 1, 4], [4], [], [], [], [0, 1, 4, 5, 6, 7, 8], [0, 1, 4, 5, 6, 7], [4], [], [], [], [0, 1, 4], [0, 1, 4], [4]], [], [], []⟩
noncomputable def spec_l01Canonical_l1_s : LSum := ⟨2, ⟨[(0, .val (.str) .fr), (0, .val (.str) .fr), (2, .val (.ptr (.pair (.str) (.pair (.str) (.unit)))) (.own .fr)), (0, .val (.int .i64) .fr), (0, .val (.int .i64) .fr), (0, .val (.bool) .fr), (0, .val (.int .i64) .fr)], 70⟩, (.exit 2, ⟨[(0, .val (.str) .fr), (0, .val (.str) .fr), (2, .val (.ptr (.pair (.str) (.pair (.str) (.unit)))) (.own .fr)), (0, .val (.int .i64) .fr), (0, .val (.int .i64) .fr), (0, .val (.bool) .fr)], 71⟩), [], spec_l01Canonical_l1⟩
noncomputable def spec_l01Canonical_l0_s : LSum := ⟨0, ⟨[(0, .val (.str) .fr), (0, .val (.str) .fr), (2, .val (.ptr (.pair (.str) (.pair (.str) (.unit)))) (.own .fr)), (0, .val (.int .i64) .fr), (0, .val (.int .i64) .fr)], 72⟩, (.exit 0, ⟨[(0, .val (.str) .fr), (0, .val (.str) .fr), (2, .val (.ptr (.pair (.str) (.pair (.str) (.unit)))) (.own .fr))], 74⟩), [], spec_l01Canonical_l0⟩
noncomputable def spec_l01Canonical_l2_s : LSum := ⟨4, ⟨[(0, .val (.str) .fr), (0, .val (.str) .fr), (2, .val (.ptr (.pair (.str) (.pair (.str) (.unit)))) (.own .fr))], 74⟩, (.exit 4, ⟨[(0, .val (.str) .fr), (0, .val (.str) .fr), (2, .val (.ptr (.pair (.str) (.pair (.str) (.unit)))) (.own .fr))], 74⟩), [], spec_l01Canonical_l2⟩
noncomputable def spec_l01Canonical_s : Spec := ⟨[.v (.str) .fr, .v (.str) .fr], ((List UInt8) × ((List UInt8) × Unit)), fun v => spec_l01Canonical v.1 v.2.1, fun r => ([.v (.pair (.str) (.pair (.str) (.unit))) .fr r], [])⟩
noncomputable def spec_l01Canonical_ls : List LSum := [spec_l01Canonical_l0_s, spec_l01Canonical_l1_s, spec_l01Canonical_l2_s]
noncomputable def spec_l01Canonical_tab : List Row := []
theorem spec_l01Canonical_t : ∀ r, r ∈ spec_l01Canonical_tab → RowIs Go.Proofs.Try.prog r := tab_nil
theorem spec_l01Canonical_l0_r : RoundIs (mkCtx Go.K.Link.seat spec_l01Canonical_c spec_l01Canonical_tab) (sums spec_l01Canonical_ls) 0 (bodyAt (loopsOf 0 spec_l01Canonical_code) 0) spec_l01Canonical_l0_s := by
  rintro ⟨pre, ⟨per, ⟨t4, ⟨n, ⟨k, _⟩⟩⟩⟩⟩
  show _ = (spec_l01Canonical_l0 (pre, (per, (t4, (n, (k, ())))))).bind fun r : (Ctl ((List UInt8) × (List UInt8) × (((List UInt8) × ((List UInt8) × Unit))) × Int × Int × Unit) (((List UInt8) × (List UInt8) × (((List UInt8) × ((List UInt8) × Unit))) × Unit))) => some (ctlVal spec_l01Canonical_l0_s r)
  simp only [spec_l01Canonical_l0, kb_ite, kb_some, kb_none, kb_bind, kb_alt]
  kernel_rfl
theorem spec_l01Canonical_l1_r : RoundIs (mkCtx Go.K.Link.seat spec_l01Canonical_c spec_l01Canonical_tab) (sums spec_l01Canonical_ls) 2 (bodyAt (loopsOf 0 spec_l01Canonical_code) 1) spec_l01Canonical_l1_s := by
  rintro ⟨pre, ⟨per, ⟨t4, ⟨n, ⟨k, ⟨same, ⟨i, _⟩⟩⟩⟩⟩⟩⟩
  show _ = (spec_l01Canonical_l1 (pre, (per, (t4, (n, (k, (same, (i, ())))))))).bind fun r : (Ctl ((List UInt8) × (List UInt8) × (((List UInt8) × ((List UInt8) × Unit))) × Int × Int × Bool × Int × Unit) (((List UInt8) × (List UInt8) × (((List UInt8) × ((List UInt8) × Unit))) × Int × Int × Bool × Unit))) => some (ctlVal spec_l01Canonical_l1_s r)
  simp only [spec_l01Canonical_l1, kb_ite, kb_some, kb_none, kb_bind, kb_alt]
  kernel_rfl
theorem spec_l01Canonical_l2_r : RoundIs (mkCtx Go.K.Link.seat spec_l01Canonical_c spec_l01Canonical_tab) (sums spec_l01Canonical_ls) 4 (bodyAt (loopsOf 0 spec_l01Canonical_code) 2) spec_l01Canonical_l2_s := by
  rintro ⟨pre, ⟨per, ⟨t4, _⟩⟩⟩
  show _ = (spec_l01Canonical_l2 (pre, (per, (t4, ())))).bind fun r : (Ctl ((List UInt8) × (List UInt8) × (((List UInt8) × ((List UInt8) × Unit))) × Unit) (((List UInt8) × (List UInt8) × (((List UInt8) × ((List UInt8) × Unit))) × Unit))) => some (ctlVal spec_l01Canonical_l2_s r)
  simp only [spec_l01Canonical_l2, kb_ite, kb_some, kb_none, kb_bind, kb_alt]
  kernel_rfl
theorem spec_l01Canonical_rs : RoundsOK (mkCtx Go.K.Link.seat spec_l01Canonical_c spec_l01Canonical_tab) (sums spec_l01Canonical_ls) (loopsOf 0 spec_l01Canonical_code) spec_l01Canonical_ls := ⟨⟨rfl, rfl, spec_l01Canonical_l0_r⟩, ⟨⟨rfl, rfl, spec_l01Canonical_l1_r⟩, ⟨⟨rfl, rfl, spec_l01Canonical_l2_r⟩, trivial⟩⟩⟩
theorem spec_l01Canonical_e : ∀ v, (evFn (mkCtx Go.K.Link.seat spec_l01Canonical_c spec_l01Canonical_tab) (sums spec_l01Canonical_ls) 51 Go.Proofs.Try.f51 (encL spec_l01Canonical_s.a v)).run = (spec_l01Canonical_s.gen v).bind fun y => some (spec_l01Canonical_s.out y) := by
  rintro ⟨pre, ⟨per, _⟩⟩
  show _ = (spec_l01Canonical pre per).bind fun y : ((List UInt8) × ((List UInt8) × Unit)) => some (spec_l01Canonical_s.out y)
  simp only [spec_l01Canonical, kb_ite, kb_some, kb_none, kb_bind, kb_alt]
  kernel_rfl
theorem spec_l01Canonical_is : FnIs Go.Proofs.Try.prog 51 (modeOf []) (phi [spec_l01Canonical_s]) := spec_is (c := spec_l01Canonical_c) seatOK spec_l01Canonical_t Go.Proofs.Try.func51 rfl (code := spec_l01Canonical_code) rfl rfl spec_l01Canonical_rs spec_l01Canonical_e
noncomputable def spec_l01Seq_s : Spec := ⟨[.v (.pair (.str) (.pair (.str) (.unit))) .fr], Bool, fun v => spec_l01Seq v.1, fun r => ([.v (.bool) .fr r], [])⟩
noncomputable def spec_l01Seq_ls : List LSum := []
noncomputable def spec_l01Seq_tab : List Row := [⟨50, [], [spec_l01Letters_s]⟩, ⟨51, [], [spec_l01Canonical_s]⟩]
theorem spec_l01Seq_t : ∀ r, r ∈ spec_l01Seq_tab → RowIs Go.Proofs.Try.prog r := tab_cons (spec_l01Letters_is) (tab_cons (spec_l01Canonical_is) (tab_nil))
theorem spec_l01Seq_rs : RoundsOK (mkCtx Go.K.Link.seat spec_l01Seq_c spec_l01Seq_tab) (sums spec_l01Seq_ls) (loopsOf 0 spec_l01Seq_code) spec_l01Seq_ls := trivial
theorem spec_l01Seq_e : ∀ v, (evFn (mkCtx Go.K.Link.seat spec_l01Seq_c spec_l01Seq_tab) (sums spec_l01Seq_ls) 29 Go.Proofs.Try.f29 (encL spec_l01Seq_s.a v)).run = (spec_l01Seq_s.gen v).bind fun y => some (spec_l01Seq_s.out y) := by
  rintro ⟨s, _⟩
  show _ = (spec_l01Seq s).bind fun y : Bool => some (spec_l01Seq_s.out y)
  simp only [spec_l01Seq, kb_ite, kb_some, kb_none, kb_bind, kb_alt]
  kernel_rfl
theorem spec_l01Seq_is : FnIs Go.Proofs.Try.prog 29 (modeOf []) (phi [spec_l01Seq_s]) := spec_is (c := spec_l01Seq_c) seatOK spec_l01Seq_t Go.Proofs.Try.func29 rfl (code := spec_l01Seq_code) rfl rfl spec_l01Seq_rs spec_l01Seq_e
noncomputable def spec_l06Code_l0_s : LSum := ⟨0, ⟨[(1, .val (.sl 28 (.pair (.str) (.pair (.str) (.unit)))) .fr), (0, .val (.ptr (.pair (.str) (.pair (.str) (.unit)))) (.own .fr)), (2, .val (.int .i64) .fr)], 32⟩, (.ret, ⟨[(4, .val (.int .i64) .fr)], 33⟩), [(.exit 0, ⟨[(1, .val (.sl 28 (.pair (.str) (.pair (.str) (.unit)))) .fr), (0, .val (.ptr (.pair (.str) (.pair (.str) (.unit)))) (.own .fr))], 35⟩)], spec_l06Code_l0⟩
noncomputable def spec_l02Star_code : Code := (Go.Proofs.Try.f30.body).getD .skip
def spec_l02Star_c : Cfg := ⟨30, [], [[1, 3, 4], [], [2]], [], [], []⟩
noncomputable def spec_l02Star_l0_s : LSum := ⟨0, ⟨[(1, .val (.ptr (.pair (.str) (.pair (.str) (.unit)))) (.own .fr)), (1, .val (.int .i64) .fr), (0, .val (.int .i64) .fr)], 35⟩, (.ret, ⟨[(2, .val (.bool) .fr)], 37⟩), [(.exit 0, ⟨[], 40⟩)], spec_l02Star_l0⟩
noncomputable def spec_l02Star_s : Spec := ⟨[.v (.pair (.str) (.pair (.str) (.unit))) .fr], Bool, fun v => spec_l02Star v.1, fun r => ([.v (.bool) .fr r], [])⟩
noncomputable def spec_l02Star_ls : List LSum := [spec_l02Star_l0_s]
noncomputable def spec_l02Star_tab : List Row := []
theorem spec_l02Star_t : ∀ r, r ∈ spec_l02Star_tab → RowIs Go.Proofs.Try.prog r := tab_nil
theorem spec_l02Star_l0_r : RoundIs (mkCtx Go.K.Link.seat spec_l02Star_c spec_l02Star_tab) (sums spec_l02Star_ls) 0 (bodyAt (loopsOf 0 spec_l02Star_code) 0) spec_l02Star_l0_s := by
  rintro ⟨s, ⟨n, ⟨i, _⟩⟩⟩
  show _ = (spec_l02Star_l0 (s, (n, (i, ())))).bind fun r : (Ctl ((((List UInt8) × ((List UInt8) × Unit))) × Int × Int × Unit) ((Bool × Unit) ⊕ (Unit))) => some (ctlVal spec_l02Star_l0_s r)
  simp only [spec_l02Star_l0, kb_ite, kb_some, kb_none, kb_bind, kb_alt]
  kernel_rfl
theorem spec_l02Star_rs : RoundsOK (mkCtx Go.K.Link.seat spec_l02Star_c spec_l02Star_tab) (sums spec_l02Star_ls) (loopsOf 0 spec_l02Star_code) spec_l02Star_ls := ⟨⟨rfl, rfl, spec_l02Star_l0_r⟩, trivial⟩
theorem spec_l02Star_e : ∀ v, (evFn (mkCtx Go.K.Link.seat spec_l02Star_c spec_l02Star_tab) (sums spec_l02Star_ls) 30 Go.Proofs.Try.f30 (encL spec_l02Star_s.a v)).run = (spec_l02Star_s.gen v).bind fun y => some (spec_l02Star_s.out y) := by
  rintro ⟨s, _⟩
  show _ = (spec_l02Star s).bind fun y : Bool => some (spec_l02Star_s.out y)
  simp only [spec_l02Star, kb_ite, kb_some, kb_none, kb_bind, kb_alt]
  kernel_rfl
theorem spec_l02Star_is : FnIs Go.Proofs.Try.prog 30 (modeOf []) (phi [spec_l02Star_s]) := spec_is (c := spec_l02Star_c) seatOK spec_l02Star_t Go.Proofs.Try.func30 rfl (code := spec_l02Star_code) rfl rfl spec_l02Star_rs spec_l02Star_e
noncomputable def spec_l06Point_code : Code := (Go.Proofs.Try.f31.body).getD .skip
def spec_l06Point_c : Cfg := ⟨31, [], [[2, 3, 5, 6], [], [4]], [], [], []⟩
noncomputable def spec_l01Shift_code : Code := (Go.Proofs.Try.f32.body).getD .skip
def spec_l01Shift_c : Cfg := ⟨32, [], [], [], [], []⟩
noncomputable def spec_l01Shift_s : Spec := ⟨[.v (.pair (.str) (.pair (.str) (.unit))) .fr], ((List UInt8) × ((List UInt8) × Unit)), fun v => spec_l01Shift v.1, fun r => ([.v (.pair (.str) (.pair (.str) (.unit))) .fr r], [])⟩
noncomputable def spec_l01Shift_ls : List LSum := []
noncomputable def spec_l01Shift_tab : List Row := []
theorem spec_l01Shift_t : ∀ r, r ∈ spec_l01Shift_tab → RowIs Go.Proofs.Try.prog r := tab_nil
theorem spec_l01Shift_rs : RoundsOK (mkCtx Go.K.Link.seat spec_l01Shift_c spec_l01Shift_tab) (sums spec_l01Shift_ls) (loopsOf 0 spec_l01Shift_code) spec_l01Shift_ls := trivial
theorem spec_l01Shift_e : ∀ v, (evFn (mkCtx Go.K.Link.seat spec_l01Shift_c spec_l01Shift_tab) (sums spec_l01Shift_ls) 32 Go.Proofs.Try.f32 (encL spec_l01Shift_s.a v)).run = (spec_l01Shift_s.gen v).bind fun y => some (spec_l01Shift_s.out y) := by
  rintro ⟨s, _⟩
  show _ = (spec_l01Shift s).bind fun y : ((List UInt8) × ((List UInt8) × Unit)) => some (spec_l01Shift_s.out y)
  simp only [spec_l01Shift, kb_ite, kb_some, kb_none, kb_bind, kb_alt]
  kernel_rfl
theorem spec_l01Shift_is : FnIs Go.Proofs.Try.prog 32 (modeOf []) (phi [spec_l01Shift_s]) := spec_is (c := spec_l01Shift_c) seatOK spec_l01Shift_t Go.Proofs.Try.func32 rfl (code := spec_l01Shift_code) rfl rfl spec_l01Shift_rs spec_l01Shift_e
noncomputable def spec_l01At_code : Code := (Go.Proofs.Try.f36.body).getD .skip
def spec_l01At_c : Cfg := ⟨36, [], [], [], [], []⟩
noncomputable def spec_l01At_s : Spec := ⟨[.v (.pair (.str) (.pair (.str) (.unit))) .fr, .v (.int .i64) .fr], Int, fun v => spec_l01At v.1 v.2.1, fun r => ([.v (.int .u8) .fr r], [])⟩
noncomputable def spec_l01At_ls : List LSum := []
noncomputable def spec_l01At_tab : List Row := []
theorem spec_l01At_t : ∀ r, r ∈ spec_l01At_tab → RowIs Go.Proofs.Try.prog r := tab_nil
theorem spec_l01At_rs : RoundsOK (mkCtx Go.K.Link.seat spec_l01At_c spec_l01At_tab) (sums spec_l01At_ls) (loopsOf 0 spec_l01At_code) spec_l01At_ls := trivial
theorem spec_l01At_e : ∀ v, (evFn (mkCtx Go.K.Link.seat spec_l01At_c spec_l01At_tab) (sums spec_l01At_ls) 36 Go.Proofs.Try.f36 (encL spec_l01At_s.a v)).run = (spec_l01At_s.gen v).bind fun y => some (spec_l01At_s.out y) := by
  rintro ⟨s, ⟨k, _⟩⟩
  show _ = (spec_l01At s k).bind fun y : Int => some (spec_l01At_s.out y)
  simp only [spec_l01At, kb_ite, kb_some, kb_none, kb_bind, kb_alt]
  kernel_rfl
theorem spec_l01At_is : FnIs Go.Proofs.Try.prog 36 (modeOf []) (phi [spec_l01At_s]) := spec_is (c := spec_l01At_c) seatOK spec_l01At_t Go.Proofs.Try.func36 rfl (code := spec_l01At_code) rfl rfl spec_l01At_rs spec_l01At_e
noncomputable def spec_l06Point_l0_s : LSum := ⟨0, ⟨[(2, .val (.ptr (.pair (.str) (.pair (.str) (.unit)))) (.own .fr)), (0, .val (.ptr (.pair (.str) (.pair (.str) (.unit)))) (.own .fr)), (1, .val (.ptr (.pair (.str) (.pair (.str) (.unit)))) (.own .fr)), (0, .val (.int .i64) .fr)], 24⟩, (.ret, ⟨[(4, .val (.bool) .fr)], 26⟩), [(.exit 0, ⟨[], 31⟩)], spec_l06Point_l0⟩
noncomputable def spec_l06Point_s : Spec := ⟨[.v (.pair (.str) (.pair (.str) (.unit))) .fr, .v (.pair (.str) (.pair (.str) (.unit))) .fr], Bool, fun v => spec_l06Point v.1 v.2.1, fun r => ([.v (.bool) .fr r], [])⟩
noncomputable def spec_l06Point_ls : List LSum := [spec_l06Point_l0_s]
noncomputable def spec_l06Point_tab : List Row := [⟨32, [], [spec_l01Shift_s]⟩, ⟨36, [], [spec_l01At_s]⟩]
theorem spec_l06Point_t : ∀ r, r ∈ spec_l06Point_tab → RowIs Go.Proofs.Try.prog r := tab_cons (spec_l01Shift_is) (tab_cons (spec_l01At_is) (tab_nil))
theorem spec_l06Point_l0_r : RoundIs (mkCtx Go.K.Link.seat spec_l06Point_c spec_l06Point_tab) (sums spec_l06Point_ls) 0 (bodyAt (loopsOf 0 spec_l06Point_code) 0) spec_l06Point_l0_s := by
  rintro ⟨v, ⟨s, ⟨now, ⟨k, _⟩⟩⟩⟩
  show _ = (spec_l06Point_l0 (v, (s, (now, (k, ()))))).bind fun r : (Ctl ((((List UInt8) × ((List UInt8) × Unit))) × (((List UInt8) × ((List UInt8) × Unit))) × (((List UInt8) × ((List UInt8) × Unit))) × Int × Unit) ((Bool × Unit) ⊕ (Unit))) => some (ctlVal spec_l06Point_l0_s r)
  simp only [spec_l06Point_l0, kb_ite, kb_some, kb_none, kb_bind, kb_alt]
  kernel_rfl
theorem spec_l06Point_rs : RoundsOK (mkCtx Go.K.Link.seat spec_l06Point_c spec_l06Point_tab) (sums spec_l06Point_ls) (loopsOf 0 spec_l06Point_code) spec_l06Point_ls := ⟨⟨rfl, rfl, spec_l06Point_l0_r⟩, trivial⟩
theorem spec_l06Point_e : ∀ v, (evFn (mkCtx Go.K.Link.seat spec_l06Point_c spec_l06Point_tab) (sums spec_l06Point_ls) 31 Go.Proofs.Try.f31 (encL spec_l06Point_s.a v)).run = (spec_l06Point_s.gen v).bind fun y => some (spec_l06Point_s.out y) := by
  rintro ⟨v, ⟨s, _⟩⟩
  show _ = (spec_l06Point v s).bind fun y : Bool => some (spec_l06Point_s.out y)
  simp only [spec_l06Point, kb_ite, kb_some, kb_none, kb_bind, kb_alt]
  kernel_rfl
theorem spec_l06Point_is : FnIs Go.Proofs.Try.prog 31 (modeOf []) (phi [spec_l06Point_s]) := spec_is (c := spec_l06Point_c) seatOK spec_l06Point_t Go.Proofs.Try.func31 rfl (code := spec_l06Point_code) rfl rfl spec_l06Point_rs spec_l06Point_e
noncomputable def spec_l06Code_l1_s : LSum := ⟨2, ⟨[(1, .val (.sl 28 (.pair (.str) (.pair (.str) (.unit)))) .fr), (0, .val (.ptr (.pair (.str) (.pair (.str) (.unit)))) (.own .fr)), (3, .val (.int .i64) .fr)], 31⟩, (.ret, ⟨[(4, .val (.int .i64) .fr)], 33⟩), [(.exit 2, ⟨[], 38⟩)], spec_l06Code_l1⟩
noncomputable def spec_l06Code_s : Spec := ⟨[.v (.pair (.str) (.pair (.str) (.unit))) .fr, .v (.sl 28 (.pair (.str) (.pair (.str) (.unit)))) .fr], Int, fun v => spec_l06Code v.1 v.2.1, fun r => ([.v (.int .i64) .fr r], [])⟩
noncomputable def spec_l06Code_ls : List LSum := [spec_l06Code_l0_s, spec_l06Code_l1_s]
noncomputable def spec_l06Code_tab : List Row := [⟨29, [], [spec_l01Seq_s]⟩, ⟨30, [], [spec_l02Star_s]⟩, ⟨31, [], [spec_l06Point_s]⟩]
theorem spec_l06Code_t : ∀ r, r ∈ spec_l06Code_tab → RowIs Go.Proofs.Try.prog r := tab_cons (spec_l01Seq_is) (tab_cons (spec_l02Star_is) (tab_cons (spec_l06Point_is) (tab_nil)))
theorem spec_l06Code_l0_r : RoundIs (mkCtx Go.K.Link.seat spec_l06Code_c spec_l06Code_tab) (sums spec_l06Code_ls) 0 (bodyAt (loopsOf 0 spec_l06Code_code) 0) spec_l06Code_l0_s := by
  rintro ⟨points, ⟨v, ⟨i, _⟩⟩⟩
  show _ = (spec_l06Code_l0 (points, (v, (i, ())))).bind fun r : (Ctl ((List ((List UInt8) × ((List UInt8) × Unit))) × (((List UInt8) × ((List UInt8) × Unit))) × Int × Unit) ((Int × Unit) ⊕ ((List ((List UInt8) × ((List UInt8) × Unit))) × (((List UInt8) × ((List UInt8) × Unit))) × Unit))) => some (ctlVal spec_l06Code_l0_s r)
  simp only [spec_l06Code_l0, kb_ite, kb_some, kb_none, kb_bind, kb_alt]
  kernel_rfl
theorem spec_l06Code_l1_r : RoundIs (mkCtx Go.K.Link.seat spec_l06Code_c spec_l06Code_tab) (sums spec_l06Code_ls) 2 (bodyAt (loopsOf 0 spec_l06Code_code) 1) spec_l06Code_l1_s := by
  rintro ⟨points, ⟨v, ⟨i, _⟩⟩⟩
  show _ = (spec_l06Code_l1 (points, (v, (i, ())))).bind fun r : (Ctl ((List ((List UInt8) × ((List UInt8) × Unit))) × (((List UInt8) × ((List UInt8) × Unit))) × Int × Unit) ((Int × Unit) ⊕ (Unit))) => some (ctlVal spec_l06Code_l1_s r)
  simp only [spec_l06Code_l1, kb_ite, kb_some, kb_none, kb_bind, kb_alt]
  kernel_rfl
theorem spec_l06Code_rs : RoundsOK (mkCtx Go.K.Link.seat spec_l06Code_c spec_l06Code_tab) (sums spec_l06Code_ls) (loopsOf 0 spec_l06Code_code) spec_l06Code_ls := ⟨⟨rfl, rfl, spec_l06Code_l0_r⟩, ⟨⟨rfl, rfl, spec_l06Code_l1_r⟩, trivial⟩⟩
theorem spec_l06Code_e : ∀ v, (evFn (mkCtx Go.K.Link.seat spec_l06Code_c spec_l06Code_tab) (sums spec_l06Code_ls) 17 Go.Proofs.Try.f17 (encL spec_l06Code_s.a v)).run = (spec_l06Code_s.gen v).bind fun y => some (spec_l06Code_s.out y) := by
  rintro ⟨v, ⟨points, _⟩⟩
  show _ = (spec_l06Code v points).bind fun y : Int => some (spec_l06Code_s.out y)
  simp only [spec_l06Code, kb_ite, kb_some, kb_none, kb_bind, kb_alt]
  kernel_rfl
theorem spec_l06Code_is : FnIs Go.Proofs.Try.prog 17 (modeOf []) (phi [spec_l06Code_s]) := spec_is (c := spec_l06Code_c) seatOK spec_l06Code_t Go.Proofs.Try.func17 rfl (code := spec_l06Code_code) rfl rfl spec_l06Code_rs spec_l06Code_e
noncomputable def spec_l06Tree_s : Spec := ⟨[.v (.pair (.str) (.pair (.str) (.unit))) .fr], Int, fun v => spec_l06Tree v.1, fun r => ([.v (.int .i64) .fr r], [])⟩
noncomputable def spec_l06Tree_ls : List LSum := []
noncomputable def spec_l06Tree_tab : List Row := [⟨17, [], [spec_l06Code_s]⟩]
theorem spec_l06Tree_t : ∀ r, r ∈ spec_l06Tree_tab → RowIs Go.Proofs.Try.prog r := tab_cons (spec_l06Code_is) (tab_nil)
theorem spec_l06Tree_rs : RoundsOK (mkCtx Go.K.Link.seat spec_l06Tree_c spec_l06Tree_tab) (sums spec_l06Tree_ls) (loopsOf 0 spec_l06Tree_code) spec_l06Tree_ls := trivial
theorem spec_l06Tree_e : ∀ v, (evFn (mkCtx Go.K.Link.seat spec_l06Tree_c spec_l06Tree_tab) (sums spec_l06Tree_ls) 11 Go.Proofs.Try.f11 (encL spec_l06Tree_s.a v)).run = (spec_l06Tree_s.gen v).bind fun y => some (spec_l06Tree_s.out y) := by
  rintro ⟨v, _⟩
  show _ = (spec_l06Tree v).bind fun y : Int => some (spec_l06Tree_s.out y)
  simp only [spec_l06Tree, kb_ite, kb_some, kb_none, kb_bind, kb_alt]
  kernel_rfl
theorem spec_l06Tree_is : FnIs Go.Proofs.Try.prog 11 (modeOf []) (phi [spec_l06Tree_s]) := spec_is (c := spec_l06Tree_c) seatOK spec_l06Tree_t Go.Proofs.Try.func11 rfl (code := spec_l06Tree_code) rfl rfl spec_l06Tree_rs spec_l06Tree_e
noncomputable def spec_l06Branches_code : Code := (Go.Proofs.Try.f12.body).getD .skip
def spec_l06Branches_c : Cfg := ⟨12, [], [[1, 4, 5, 6, 14, 15, 120, 121], [5, 15, 120], [2, 3, 5, 15, 120, 121], [], [], [], [1, 4, 5, 6, 7, 14, 15, 120, 121], [1, 4, 5, 6, 14, 15, 120, 121], [2, 3, 5, 15, 120, 121], [], [], [], [1, 4, 5, 6, 7, 8, 14, 15, 120, 121], [1, 4, 5, 6, 7, 14, 15, 120, 121], [2, 3, 5, 15, 120, 121], [], [], [], [1, 4, 5, 6, 7, 8, 9, 11, 14, 15, 120, 121], [1, 4, 5, 6, 7, 8, 9, 11, 14, 15, 120, 121], [2, 3, 5, 15, 120, 121]], [], [], []⟩
noncomputable def spec_l06Orbit_code : Code := (Go.Proofs.Try.f18.body).getD .skip
def spec_l06Orbit_c : Cfg := ⟨18, [], [[1, 3, 4, 5, 6, 18], [3, 6, 18], [2, 3, 6, 18, 21]], [], [], []⟩
noncomputable def spec_l06Orbit_l0_s : LSum := ⟨0, ⟨[(1, .val (.ptr (.pair (.str) (.pair (.str) (.unit)))) (.own .fr)), (1, .val (.sl 28 (.pair (.str) (.pair (.str) (.unit)))) (.own .fr)), (0, .val (.ptr (.pair (.str) (.pair (.str) (.unit)))) (.own .fr)), (0, .val (.int .i64) .fr)], 16⟩, (.exit 0, ⟨[(3, .val (.sl 28 (.pair (.str) (.pair (.str) (.unit)))) (.own .fr))], 18⟩), [], spec_l06Orbit_l0⟩
noncomputable def spec_l06Orbit_s : Spec := ⟨[.v (.pair (.str) (.pair (.str) (.unit))) .fr], (List ((List UInt8) × ((List UInt8) × Unit))), fun v => spec_l06Orbit v.1, fun r => ([.v (.sl 28 (.pair (.str) (.pair (.str) (.unit)))) (.own .fr) r], [])⟩
noncomputable def spec_l06Orbit_ls : List LSum := [spec_l06Orbit_l0_s]
noncomputable def spec_l06Orbit_tab : List Row := [⟨32, [], [spec_l01Shift_s]⟩]
theorem spec_l06Orbit_t : ∀ r, r ∈ spec_l06Orbit_tab → RowIs Go.Proofs.Try.prog r := tab_cons (spec_l01Shift_is) (tab_nil)
theorem spec_l06Orbit_l0_r : RoundIs (mkCtx Go.K.Link.seat spec_l06Orbit_c spec_l06Orbit_tab) (sums spec_l06Orbit_ls) 0 (bodyAt (loopsOf 0 spec_l06Orbit_code) 0) spec_l06Orbit_l0_s := by
  rintro ⟨v, ⟨out, ⟨now, ⟨k, _⟩⟩⟩⟩
  show _ = (spec_l06Orbit_l0 (v, (out, (now, (k, ()))))).bind fun r : (Ctl ((((List UInt8) × ((List UInt8) × Unit))) × (List ((List UInt8) × ((List UInt8) × Unit))) × (((List UInt8) × ((List UInt8) × Unit))) × Int × Unit) (((List ((List UInt8) × ((List UInt8) × Unit))) × Unit))) => some (ctlVal spec_l06Orbit_l0_s r)
  simp only [spec_l06Orbit_l0, kb_ite, kb_some, kb_none, kb_bind, kb_alt]
  kernel_rfl
theorem spec_l06Orbit_rs : RoundsOK (mkCtx Go.K.Link.seat spec_l06Orbit_c spec_l06Orbit_tab) (sums spec_l06Orbit_ls) (loopsOf 0 spec_l06Orbit_code) spec_l06Orbit_ls := ⟨⟨rfl, rfl, spec_l06Orbit_l0_r⟩, trivial⟩
theorem spec_l06Orbit_e : ∀ v, (evFn (mkCtx Go.K.Link.seat spec_l06Orbit_c spec_l06Orbit_tab) (sums spec_l06Orbit_ls) 18 Go.Proofs.Try.f18 (encL spec_l06Orbit_s.a v)).run = (spec_l06Orbit_s.gen v).bind fun y => some (spec_l06Orbit_s.out y) := by
  rintro ⟨v, _⟩
  show _ = (spec_l06Orbit v).bind fun y : (List ((List UInt8) × ((List UInt8) × Unit))) => some (spec_l06Orbit_s.out y)
  simp only [spec_l06Orbit, kb_ite, kb_some, kb_none, kb_bind, kb_alt]
  kernel_rfl
theorem spec_l06Orbit_is : FnIs Go.Proofs.Try.prog 18 (modeOf []) (phi [spec_l06Orbit_s]) := spec_is (c := spec_l06Orbit_c) seatOK spec_l06Orbit_t Go.Proofs.Try.func18 rfl (code := spec_l06Orbit_code) rfl rfl spec_l06Orbit_rs spec_l06Orbit_e
noncomputable def spec_l06Middle_code : Code := (Go.Proofs.Try.f19.body).getD .skip
def spec_l06Middle_c : Cfg := ⟨19, [], [[2, 3, 4, 6, 7, 8, 16, 17, 85, 89], [4], [4, 5], [], [], [], [2, 3, 4, 6, 7, 8, 11, 13, 16, 17, 85, 89], [2, 3, 4, 6, 7, 8, 11, 16, 17, 85, 89], [4, 5], [], [], [], [2, 3, 4, 6, 7, 8, 11, 14, 16, 17, 85, 89], [2, 3, 4, 6, 7, 8, 16, 17, 85, 89], [4, 5]], [], [], []⟩
noncomputable def spec_l06Same_code : Code := (Go.Proofs.Try.f33.body).getD .skip
def spec_l06Same_c : Cfg := ⟨33, [], [], [], [], []⟩
noncomputable def spec_l06Same_s : Spec := ⟨[.v (.arr 3 (.pair (.str) (.pair (.str) (.unit)))) .fr], ((List UInt8) × ((List UInt8) × Unit)) × Bool, fun v => spec_l06Same v.1, fun r => ([.v (.pair (.str) (.pair (.str) (.unit))) .fr r.1, .v (.bool) .fr r.2], [])⟩
noncomputable def spec_l06Same_ls : List LSum := []
noncomputable def spec_l06Same_tab : List Row := []
theorem spec_l06Same_t : ∀ r, r ∈ spec_l06Same_tab → RowIs Go.Proofs.Try.prog r := tab_nil
theorem spec_l06Same_rs : RoundsOK (mkCtx Go.K.Link.seat spec_l06Same_c spec_l06Same_tab) (sums spec_l06Same_ls) (loopsOf 0 spec_l06Same_code) spec_l06Same_ls := trivial
theorem spec_l06Same_e : ∀ v, (evFn (mkCtx Go.K.Link.seat spec_l06Same_c spec_l06Same_tab) (sums spec_l06Same_ls) 33 Go.Proofs.Try.f33 (encL spec_l06Same_s.a v)).run = (spec_l06Same_s.gen v).bind fun y => some (spec_l06Same_s.out y) := by
  rintro ⟨p, _⟩
  show _ = (spec_l06Same p).bind fun y : ((List UInt8) × ((List UInt8) × Unit)) × Bool => some (spec_l06Same_s.out y)
  simp only [spec_l06Same, kb_ite, kb_some, kb_none, kb_bind, kb_alt]
  kernel_rfl
theorem spec_l06Same_is : FnIs Go.Proofs.Try.prog 33 (modeOf []) (phi [spec_l06Same_s]) := spec_is (c := spec_l06Same_c) seatOK spec_l06Same_t Go.Proofs.Try.func33 rfl (code := spec_l06Same_code) rfl rfl spec_l06Same_rs spec_l06Same_e
noncomputable def spec_l06Told_code : Code := (Go.Proofs.Try.f34.body).getD .skip
def spec_l06Told_c : Cfg := ⟨34, [], [], [], [], []⟩
noncomputable def spec_l06Told_s : Spec := ⟨[.v (.str) .fr, .v (.str) .fr], ((List UInt8) × ((List UInt8) × Unit)) × Bool, fun v => spec_l06Told v.1 v.2.1, fun r => ([.v (.pair (.str) (.pair (.str) (.unit))) .fr r.1, .v (.bool) .fr r.2], [])⟩
noncomputable def spec_l06Told_ls : List LSum := []
noncomputable def spec_l06Told_tab : List Row := [⟨51, [], [spec_l01Canonical_s]⟩]
theorem spec_l06Told_t : ∀ r, r ∈ spec_l06Told_tab → RowIs Go.Proofs.Try.prog r := tab_cons (spec_l01Canonical_is) (tab_nil)
theorem spec_l06Told_rs : RoundsOK (mkCtx Go.K.Link.seat spec_l06Told_c spec_l06Told_tab) (sums spec_l06Told_ls) (loopsOf 0 spec_l06Told_code) spec_l06Told_ls := trivial
theorem spec_l06Told_e : ∀ v, (evFn (mkCtx Go.K.Link.seat spec_l06Told_c spec_l06Told_tab) (sums spec_l06Told_ls) 34 Go.Proofs.Try.f34 (encL spec_l06Told_s.a v)).run = (spec_l06Told_s.gen v).bind fun y => some (spec_l06Told_s.out y) := by
  rintro ⟨pre, ⟨per, _⟩⟩
  show _ = (spec_l06Told pre per).bind fun y : ((List UInt8) × ((List UInt8) × Unit)) × Bool => some (spec_l06Told_s.out y)
  simp only [spec_l06Told, kb_ite, kb_some, kb_none, kb_bind, kb_alt]
  kernel_rfl
theorem spec_l06Told_is : FnIs Go.Proofs.Try.prog 34 (modeOf []) (phi [spec_l06Told_s]) := spec_is (c := spec_l06Told_c) seatOK spec_l06Told_t Go.Proofs.Try.func34 rfl (code := spec_l06Told_code) rfl rfl spec_l06Told_rs spec_l06Told_e
noncomputable def spec_l06Letters_code : Code := (Go.Proofs.Try.f35.body).getD .skip
def spec_l06Letters_c : Cfg := ⟨35, [], [[1, 4, 5, 6], [4, 5], [2, 3]], [], [], []⟩
noncomputable def spec_l06Letters_l0_s : LSum := ⟨0, ⟨[(1, .val (.ptr (.arr 3 (.pair (.str) (.pair (.str) (.unit))))) (.own .fr)), (2, .val (.ptr (.arr 2 (.int .i64))) (.own .fr)), (0, .val (.int .i64) .fr), (0, .val (.int .i64) .fr)], 38⟩, (.exit 0, ⟨[(4, .val (.ptr (.arr 2 (.int .i64))) (.own .fr)), (0, .val (.int .i64) .fr)], 39⟩), [], spec_l06Letters_l0⟩
noncomputable def spec_l06Letters_s : Spec := ⟨[.v (.arr 3 (.pair (.str) (.pair (.str) (.unit)))) .fr], Int × Int, fun v => spec_l06Letters v.1, fun r => ([.v (.int .u8) .fr r.1, .v (.int .i64) .fr r.2], [])⟩
noncomputable def spec_l06Letters_ls : List LSum := [spec_l06Letters_l0_s]
noncomputable def spec_l06Letters_tab : List Row := [⟨36, [], [spec_l01At_s]⟩]
theorem spec_l06Letters_t : ∀ r, r ∈ spec_l06Letters_tab → RowIs Go.Proofs.Try.prog r := tab_cons (spec_l01At_is) (tab_nil)
theorem spec_l06Letters_l0_r : RoundIs (mkCtx Go.K.Link.seat spec_l06Letters_c spec_l06Letters_tab) (sums spec_l06Letters_ls) 0 (bodyAt (loopsOf 0 spec_l06Letters_code) 0) spec_l06Letters_l0_s := by
  rintro ⟨p, ⟨counts, ⟨star, ⟨i, _⟩⟩⟩⟩
  show _ = (spec_l06Letters_l0 (p, (counts, (star, (i, ()))))).bind fun r : (Ctl ((List ((List UInt8) × ((List UInt8) × Unit))) × (List Int) × Int × Int × Unit) (((List Int) × Int × Unit))) => some (ctlVal spec_l06Letters_l0_s r)
  simp only [spec_l06Letters_l0, kb_ite, kb_some, kb_none, kb_bind, kb_alt]
  kernel_rfl
theorem spec_l06Letters_rs : RoundsOK (mkCtx Go.K.Link.seat spec_l06Letters_c spec_l06Letters_tab) (sums spec_l06Letters_ls) (loopsOf 0 spec_l06Letters_code) spec_l06Letters_ls := ⟨⟨rfl, rfl, spec_l06Letters_l0_r⟩, trivial⟩
theorem spec_l06Letters_e : ∀ v, (evFn (mkCtx Go.K.Link.seat spec_l06Letters_c spec_l06Letters_tab) (sums spec_l06Letters_ls) 35 Go.Proofs.Try.f35 (encL spec_l06Letters_s.a v)).run = (spec_l06Letters_s.gen v).bind fun y => some (spec_l06Letters_s.out y) := by
  rintro ⟨p, _⟩
  show _ = (spec_l06Letters p).bind fun y : Int × Int => some (spec_l06Letters_s.out y)
  simp only [spec_l06Letters, kb_ite, kb_some, kb_none, kb_bind, kb_alt]
  kernel_rfl
theorem spec_l06Letters_is : FnIs Go.Proofs.Try.prog 35 (modeOf []) (phi [spec_l06Letters_s]) := spec_is (c := spec_l06Letters_c) seatOK spec_l06Letters_t Go.Proofs.Try.func35 rfl (code := spec_l06Letters_code) rfl rfl spec_l06Letters_rs spec_l06Letters_e
noncomputable def spec_l06Middle_l1_s : LSum := ⟨2, ⟨[(2, .val (.ptr (.pair (.str) (.pair (.str) (.unit)))) (.own .fr)), (0, .val (.ptr (.arr 3 (.pair (.str) (.pair (.str) (.unit))))) (.own .fr)), (0, .val (.ptr (.pair (.str) (.pair (.str) (.unit)))) (.own .fr)), (1, .val (.sl 5 (.int .u8)) (.own .fr)), (0, .val (.sl 43 (.arr 3 (.pair (.str) (.pair (.str) (.unit))))) (.own .fr)), (0, .val (.int .i64) .fr), (2, .val (.int .u8) .fr), (1, .val (.int .i64) .fr)], 101⟩, (.ret, ⟨[(4, .val (.ptr (.pair (.str) (.pair (.str) (.unit)))) (.own .fr)), (0, .val (.bool) .fr)], 109⟩), [(.exit 2, ⟨[(2, .val (.ptr (.pair (.str) (.pair (.str) (.unit)))) (.own .fr)), (0, .val (.ptr (.arr 3 (.pair (.str) (.pair (.str) (.unit))))) (.own .fr)), (0, .val (.ptr (.pair (.str) (.pair (.str) (.unit)))) (.own .fr)), (1, .val (.sl 5 (.int .u8)) (.own .fr)), (0, .val (.sl 43 (.arr 3 (.pair (.str) (.pair (.str) (.unit))))) (.own .fr)), (0, .val (.int .i64) .fr), (2, .val (.int .u8) .fr)], 103⟩)], spec_l06Middle_l1⟩
noncomputable def spec_l06Middle_l2_s : LSum := ⟨4, ⟨[(2, .val (.ptr (.pair (.str) (.pair (.str) (.unit)))) (.own .fr)), (0, .val (.ptr (.arr 3 (.pair (.str) (.pair (.str) (.unit))))) (.own .fr)), (0, .val (.ptr (.pair (.str) (.pair (.str) (.unit)))) (.own .fr)), (1, .val (.sl 5 (.int .u8)) (.own .fr)), (0, .val (.sl 43 (.arr 3 (.pair (.str) (.pair (.str) (.unit))))) (.own .fr)), (0, .val (.int .i64) .fr), (2, .val (.int .u8) .fr), (2, .val (.int .i64) .fr)], 100⟩, (.exit 4, ⟨[(2, .val (.ptr (.pair (.str) (.pair (.str) (.unit)))) (.own .fr)), (0, .val (.ptr (.arr 3 (.pair (.str) (.pair (.str) (.unit))))) (.own .fr)), (0, .val (.ptr (.pair (.str) (.pair (.str) (.unit)))) (.own .fr)), (1, .val (.sl 5 (.int .u8)) (.own .fr)), (0, .val (.sl 43 (.arr 3 (.pair (.str) (.pair (.str) (.unit))))) (.own .fr)), (0, .val (.int .i64) .fr)], 106⟩), [], spec_l06Middle_l2⟩
noncomputable def spec_l06Middle_l0_s : LSum := ⟨0, ⟨[(2, .val (.ptr (.pair (.str) (.pair (.str) (.unit)))) (.own .fr)), (0, .val (.ptr (.arr 3 (.pair (.str) (.pair (.str) (.unit))))) (.own .fr)), (0, .val (.ptr (.pair (.str) (.pair (.str) (.unit)))) (.own .fr)), (1, .val (.sl 5 (.int .u8)) (.own .fr)), (0, .val (.sl 43 (.arr 3 (.pair (.str) (.pair (.str) (.unit))))) (.own .fr)), (0, .val (.int .i64) .fr)], 106⟩, (.ret, ⟨[(4, .val (.ptr (.pair (.str) (.pair (.str) (.unit)))) (.own .fr)), (0, .val (.bool) .fr)], 109⟩), [(.exit 0, ⟨[(4, .val (.ptr (.pair (.str) (.pair (.str) (.unit)))) (.own .fr))], 110⟩)], spec_l06Middle_l0⟩
noncomputable def spec_l06Middle_s : Spec := ⟨[.v (.pair (.str) (.pair (.str) (.unit))) .fr, .v (.arr 3 (.pair (.str) (.pair (.str) (.unit)))) .fr], ((List UInt8) × ((List UInt8) × Unit)) × Bool, fun v => spec_l06Middle v.1 v.2.1, fun r => ([.v (.pair (.str) (.pair (.str) (.unit))) .fr r.1, .v (.bool) .fr r.2], [])⟩
noncomputable def spec_l06Middle_ls : List LSum := [spec_l06Middle_l0_s, spec_l06Middle_l1_s, spec_l06Middle_l2_s]
noncomputable def spec_l06Middle_tab : List Row := [⟨32, [], [spec_l01Shift_s]⟩, ⟨33, [], [spec_l06Same_s]⟩, ⟨34, [], [spec_l06Told_s]⟩, ⟨35, [], [spec_l06Letters_s]⟩, ⟨36, [], [spec_l01At_s]⟩]
theorem spec_l06Middle_t : ∀ r, r ∈ spec_l06Middle_tab → RowIs Go.Proofs.Try.prog r := tab_cons (spec_l01Shift_is) (tab_cons (spec_l06Same_is) (tab_cons (spec_l06Told_is) (tab_cons (spec_l06Letters_is) (tab_cons (spec_l01At_is) (tab_nil)))))
theorem spec_l06Middle_l0_r : RoundIs (mkCtx Go.K.Link.seat spec_l06Middle_c spec_l06Middle_tab) (sums spec_l06Middle_ls) 0 (bodyAt (loopsOf 0 spec_l06Middle_code) 0) spec_l06Middle_l0_s := by
  rintro ⟨v, ⟨p, ⟨t4, ⟨word', ⟨seen, ⟨step, _⟩⟩⟩⟩⟩⟩
  show _ = (spec_l06Middle_l0 (v, (p, (t4, (word', (seen, (step, ()))))))).bind fun r : (Ctl ((((List UInt8) × ((List UInt8) × Unit))) × (List ((List UInt8) × ((List UInt8) × Unit))) × (((List UInt8) × ((List UInt8) × Unit))) × (List Int) × (List (List ((List UInt8) × ((List UInt8) × Unit)))) × Int × Unit) (((((List UInt8) × ((List UInt8) × Unit))) × Bool × Unit) ⊕ ((((List UInt8) × ((List UInt8) × Unit))) × Unit))) => some (ctlVal spec_l06Middle_l0_s r)
  simp only [spec_l06Middle_l0, kb_ite, kb_some, kb_none, kb_bind, kb_alt]
  kernel_rfl
theorem spec_l06Middle_l1_r : RoundIs (mkCtx Go.K.Link.seat spec_l06Middle_c spec_l06Middle_tab) (sums spec_l06Middle_ls) 2 (bodyAt (loopsOf 0 spec_l06Middle_code) 1) spec_l06Middle_l1_s := by
  rintro ⟨v, ⟨p, ⟨t4, ⟨word', ⟨seen, ⟨step, ⟨letter, ⟨i, _⟩⟩⟩⟩⟩⟩⟩⟩
  show _ = (spec_l06Middle_l1 (v, (p, (t4, (word', (seen, (step, (letter, (i, ()))))))))).bind fun r : (Ctl ((((List UInt8) × ((List UInt8) × Unit))) × (List ((List UInt8) × ((List UInt8) × Unit))) × (((List UInt8) × ((List UInt8) × Unit))) × (List Int) × (List (List ((List UInt8) × ((List UInt8) × Unit)))) × Int × Int × Int × Unit) (((((List UInt8) × ((List UInt8) × Unit))) × Bool × Unit) ⊕ ((((List UInt8) × ((List UInt8) × Unit))) × (List ((List UInt8) × ((List UInt8) × Unit))) × (((List UInt8) × ((List UInt8) × Unit))) × (List Int) × (List (List ((List UInt8) × ((List UInt8) × Unit)))) × Int × Int × Unit))) => some (ctlVal spec_l06Middle_l1_s r)
  simp only [spec_l06Middle_l1, kb_ite, kb_some, kb_none, kb_bind, kb_alt]
  kernel_rfl
theorem spec_l06Middle_l2_r : RoundIs (mkCtx Go.K.Link.seat spec_l06Middle_c spec_l06Middle_tab) (sums spec_l06Middle_ls) 4 (bodyAt (loopsOf 0 spec_l06Middle_code) 2) spec_l06Middle_l2_s := by
  rintro ⟨v, ⟨p, ⟨t4, ⟨word', ⟨seen, ⟨step, ⟨letter, ⟨i, _⟩⟩⟩⟩⟩⟩⟩⟩
  show _ = (spec_l06Middle_l2 (v, (p, (t4, (word', (seen, (step, (letter, (i, ()))))))))).bind fun r : (Ctl ((((List UInt8) × ((List UInt8) × Unit))) × (List ((List UInt8) × ((List UInt8) × Unit))) × (((List UInt8) × ((List UInt8) × Unit))) × (List Int) × (List (List ((List UInt8) × ((List UInt8) × Unit)))) × Int × Int × Int × Unit) (((((List UInt8) × ((List UInt8) × Unit))) × (List ((List UInt8) × ((List UInt8) × Unit))) × (((List UInt8) × ((List UInt8) × Unit))) × (List Int) × (List (List ((List UInt8) × ((List UInt8) × Unit)))) × Int × Unit))) => some (ctlVal spec_l06Middle_l2_s r)
  simp only [spec_l06Middle_l2, kb_ite, kb_some, kb_none, kb_bind, kb_alt]
  kernel_rfl
theorem spec_l06Middle_rs : RoundsOK (mkCtx Go.K.Link.seat spec_l06Middle_c spec_l06Middle_tab) (sums spec_l06Middle_ls) (loopsOf 0 spec_l06Middle_code) spec_l06Middle_ls := ⟨⟨rfl, rfl, spec_l06Middle_l0_r⟩, ⟨⟨rfl, rfl, spec_l06Middle_l1_r⟩, ⟨⟨rfl, rfl, spec_l06Middle_l2_r⟩, trivial⟩⟩⟩
theorem spec_l06Middle_e : ∀ v, (evFn (mkCtx Go.K.Link.seat spec_l06Middle_c spec_l06Middle_tab) (sums spec_l06Middle_ls) 19 Go.Proofs.Try.f19 (encL spec_l06Middle_s.a v)).run = (spec_l06Middle_s.gen v).bind fun y => some (spec_l06Middle_s.out y) := by
  rintro ⟨v, ⟨p, _⟩⟩
  show _ = (spec_l06Middle v p).bind fun y : ((List UInt8) × ((List UInt8) × Unit)) × Bool => some (spec_l06Middle_s.out y)
  simp only [spec_l06Middle, kb_ite, kb_some, kb_none, kb_bind, kb_alt]
  kernel_rfl
theorem spec_l06Middle_is : FnIs Go.Proofs.Try.prog 19 (modeOf []) (phi [spec_l06Middle_s]) := spec_is (c := spec_l06Middle_c) seatOK spec_l06Middle_t Go.Proofs.Try.func19 rfl (code := spec_l06Middle_code) rfl rfl spec_l06Middle_rs spec_l06Middle_e
noncomputable def spec_l06Text_code : Code := (Go.Proofs.Try.f20.body).getD .skip
def spec_l06Text_c : Cfg := ⟨20, [], [], [], [], []⟩
noncomputable def spec_l06Text_s : Spec := ⟨[.v (.pair (.str) (.pair (.str) (.unit))) .fr], (List UInt8), fun v => spec_l06Text v.1, fun r => ([.v (.str) .fr r], [])⟩
noncomputable def spec_l06Text_ls : List LSum := []
noncomputable def spec_l06Text_tab : List Row := []
theorem spec_l06Text_t : ∀ r, r ∈ spec_l06Text_tab → RowIs Go.Proofs.Try.prog r := tab_nil
theorem spec_l06Text_rs : RoundsOK (mkCtx Go.K.Link.seat spec_l06Text_c spec_l06Text_tab) (sums spec_l06Text_ls) (loopsOf 0 spec_l06Text_code) spec_l06Text_ls := trivial
theorem spec_l06Text_e : ∀ v, (evFn (mkCtx Go.K.Link.seat spec_l06Text_c spec_l06Text_tab) (sums spec_l06Text_ls) 20 Go.Proofs.Try.f20 (encL spec_l06Text_s.a v)).run = (spec_l06Text_s.gen v).bind fun y => some (spec_l06Text_s.out y) := by
  rintro ⟨s, _⟩
  show _ = (spec_l06Text s).bind fun y : (List UInt8) => some (spec_l06Text_s.out y)
  simp only [spec_l06Text, kb_ite, kb_some, kb_none, kb_bind, kb_alt]
  kernel_rfl
theorem spec_l06Text_is : FnIs Go.Proofs.Try.prog 20 (modeOf []) (phi [spec_l06Text_s]) := spec_is (c := spec_l06Text_c) seatOK spec_l06Text_t Go.Proofs.Try.func20 rfl (code := spec_l06Text_code) rfl rfl spec_l06Text_rs spec_l06Text_e
noncomputable def spec_l06Branches_l3_s : LSum := ⟨6, ⟨[(1, .val (.ptr (.pair (.str) (.pair (.str) (.unit)))) (.own .fr)), (2, .val (.sl 28 (.pair (.str) (.pair (.str) (.unit)))) (.own .fr)), (0, .val (.sl 28 (.pair (.str) (.pair (.str) (.unit)))) (.own .fr)), (0, .val (.int .i64) .fr), (0, .val (.int .i64) .fr), (0, .val (.int .i64) .fr), (0, .val (.ptr (.pair (.str) (.pair (.str) (.unit)))) (.own .fr)), (1, .val (.int .i64) .fr)], 110⟩, (.exit 6, ⟨[(1, .val (.ptr (.pair (.str) (.pair (.str) (.unit)))) (.own .fr)), (2, .val (.sl 28 (.pair (.str) (.pair (.str) (.unit)))) (.own .fr)), (0, .val (.sl 28 (.pair (.str) (.pair (.str) (.unit)))) (.own .fr)), (0, .val (.int .i64) .fr), (0, .val (.int .i64) .fr), (0, .val (.int .i64) .fr), (0, .val (.ptr (.pair (.str) (.pair (.str) (.unit)))) (.own .fr)), (1, .val (.int .i64) .fr)], 110⟩), [], spec_l06Branches_l3⟩
noncomputable def spec_l06Branches_l2_s : LSum := ⟨4, ⟨[(1, .val (.ptr (.pair (.str) (.pair (.str) (.unit)))) (.own .fr)), (2, .val (.sl 28 (.pair (.str) (.pair (.str) (.unit)))) (.own .fr)), (0, .val (.sl 28 (.pair (.str) (.pair (.str) (.unit)))) (.own .fr)), (0, .val (.int .i64) .fr), (0, .val (.int .i64) .fr), (0, .val (.int .i64) .fr)], 113⟩, (.ret, ⟨[(2, .val (.sl 28 (.pair (.str) (.pair (.str) (.unit)))) (.own .fr)), (0, .val (.bool) .fr), (1, .val (.sl 28 (.pair (.str) (.pair (.str) (.unit)))) (.own .fr))], 116⟩), [(.exit 4, ⟨[(1, .val (.ptr (.pair (.str) (.pair (.str) (.unit)))) (.own .fr)), (2, .val (.sl 28 (.pair (.str) (.pair (.str) (.unit)))) (.own .fr)), (0, .val (.sl 28 (.pair (.str) (.pair (.str) (.unit)))) (.own .fr)), (0, .val (.int .i64) .fr), (0, .val (.int .i64) .fr)], 114⟩)], spec_l06Branches_l2⟩
noncomputable def spec_l06Branches_l1_s : LSum := ⟨2, ⟨[(1, .val (.ptr (.pair (.str) (.pair (.str) (.unit)))) (.own .fr)), (2, .val (.sl 28 (.pair (.str) (.pair (.str) (.unit)))) (.own .fr)), (0, .val (.sl 28 (.pair (.str) (.pair (.str) (.unit)))) (.own .fr)), (0, .val (.int .i64) .fr), (0, .val (.int .i64) .fr)], 114⟩, (.ret, ⟨[(2, .val (.sl 28 (.pair (.str) (.pair (.str) (.unit)))) (.own .fr)), (0, .val (.bool) .fr), (1, .val (.sl 28 (.pair (.str) (.pair (.str) (.unit)))) (.own .fr))], 116⟩), [(.exit 2, ⟨[(1, .val (.ptr (.pair (.str) (.pair (.str) (.unit)))) (.own .fr)), (2, .val (.sl 28 (.pair (.str) (.pair (.str) (.unit)))) (.own .fr)), (0, .val (.sl 28 (.pair (.str) (.pair (.str) (.unit)))) (.own .fr)), (0, .val (.int .i64) .fr)], 115⟩)], spec_l06Branches_l1⟩
noncomputable def spec_l06Branches_l0_s : LSum := ⟨0, ⟨[(1, .val (.ptr (.pair (.str) (.pair (.str) (.unit)))) (.own .fr)), (2, .val (.sl 28 (.pair (.str) (.pair (.str) (.unit)))) (.own .fr)), (0, .val (.sl 28 (.pair (.str) (.pair (.str) (.unit)))) (.own .fr)), (0, .val (.int .i64) .fr)], 115⟩, (.ret, ⟨[(2, .val (.sl 28 (.pair (.str) (.pair (.str) (.unit)))) (.own .fr)), (0, .val (.bool) .fr), (1, .val (.sl 28 (.pair (.str) (.pair (.str) (.unit)))) (.own .fr))], 116⟩), [(.exit 0, ⟨[(5, .val (.sl 28 (.pair (.str) (.pair (.str) (.unit)))) (.own .fr))], 116⟩)], spec_l06Branches_l0⟩
noncomputable def spec_l06Branches_s : Spec := ⟨[.v (.pair (.str) (.pair (.str) (.unit))) .fr], (List ((List UInt8) × ((List UInt8) × Unit))) × Bool, fun v => spec_l06Branches v.1, fun r => ([.v (.sl 28 (.pair (.str) (.pair (.str) (.unit)))) (.own .fr) r.1, .v (.bool) .fr r.2], [])⟩
noncomputable def spec_l06Branches_ls : List LSum := [spec_l06Branches_l0_s, spec_l06Branches_l1_s, spec_l06Branches_l2_s, spec_l06Branches_l3_s]
noncomputable def spec_l06Branches_tab : List Row := [⟨18, [], [spec_l06Orbit_s]⟩, ⟨19, [], [spec_l06Middle_s]⟩, ⟨20, [], [spec_l06Text_s]⟩]
theorem spec_l06Branches_t : ∀ r, r ∈ spec_l06Branches_tab → RowIs Go.Proofs.Try.prog r := tab_cons (spec_l06Orbit_is) (tab_cons (spec_l06Middle_is) (tab_cons (spec_l06Text_is) (tab_nil)))
theorem spec_l06Branches_l0_r : RoundIs (mkCtx Go.K.Link.seat spec_l06Branches_c spec_l06Branches_tab) (sums spec_l06Branches_ls) 0 (bodyAt (loopsOf 0 spec_l06Branches_code) 0) spec_l06Branches_l0_s := by
  rintro ⟨v, ⟨orbit, ⟨out, ⟨i, _⟩⟩⟩⟩
  show _ = (spec_l06Branches_l0 (v, (orbit, (out, (i, ()))))).bind fun r : (Ctl ((((List UInt8) × ((List UInt8) × Unit))) × (List ((List UInt8) × ((List UInt8) × Unit))) × (List ((List UInt8) × ((List UInt8) × Unit))) × Int × Unit) (((List ((List UInt8) × ((List UInt8) × Unit))) × Bool × (List ((List UInt8) × ((List UInt8) × Unit))) × Unit) ⊕ ((List ((List UInt8) × ((List UInt8) × Unit))) × Unit))) => some (ctlVal spec_l06Branches_l0_s r)
  simp only [spec_l06Branches_l0, kb_ite, kb_some, kb_none, kb_bind, kb_alt]
  kernel_rfl
theorem spec_l06Branches_l1_r : RoundIs (mkCtx Go.K.Link.seat spec_l06Branches_c spec_l06Branches_tab) (sums spec_l06Branches_ls) 2 (bodyAt (loopsOf 0 spec_l06Branches_code) 1) spec_l06Branches_l1_s := by
  rintro ⟨v, ⟨orbit, ⟨out, ⟨i, ⟨j, _⟩⟩⟩⟩⟩
  show _ = (spec_l06Branches_l1 (v, (orbit, (out, (i, (j, ())))))).bind fun r : (Ctl ((((List UInt8) × ((List UInt8) × Unit))) × (List ((List UInt8) × ((List UInt8) × Unit))) × (List ((List UInt8) × ((List UInt8) × Unit))) × Int × Int × Unit) (((List ((List UInt8) × ((List UInt8) × Unit))) × Bool × (List ((List UInt8) × ((List UInt8) × Unit))) × Unit) ⊕ ((((List UInt8) × ((List UInt8) × Unit))) × (List ((List UInt8) × ((List UInt8) × Unit))) × (List ((List UInt8) × ((List UInt8) × Unit))) × Int × Unit))) => some (ctlVal spec_l06Branches_l1_s r)
  simp only [spec_l06Branches_l1, kb_ite, kb_some, kb_none, kb_bind, kb_alt]
  kernel_rfl
theorem spec_l06Branches_l2_r : RoundIs (mkCtx Go.K.Link.seat spec_l06Branches_c spec_l06Branches_tab) (sums spec_l06Branches_ls) 4 (bodyAt (loopsOf 0 spec_l06Branches_code) 2) spec_l06Branches_l2_s := by
  rintro ⟨v, ⟨orbit, ⟨out, ⟨i, ⟨j, ⟨k, _⟩⟩⟩⟩⟩⟩
  show _ = (spec_l06Branches_l2 (v, (orbit, (out, (i, (j, (k, ()))))))).bind fun r : (Ctl ((((List UInt8) × ((List UInt8) × Unit))) × (List ((List UInt8) × ((List UInt8) × Unit))) × (List ((List UInt8) × ((List UInt8) × Unit))) × Int × Int × Int × Unit) (((List ((List UInt8) × ((List UInt8) × Unit))) × Bool × (List ((List UInt8) × ((List UInt8) × Unit))) × Unit) ⊕ ((((List UInt8) × ((List UInt8) × Unit))) × (List ((List UInt8) × ((List UInt8) × Unit))) × (List ((List UInt8) × ((List UInt8) × Unit))) × Int × Int × Unit))) => some (ctlVal spec_l06Branches_l2_s r)
  simp only [spec_l06Branches_l2, kb_ite, kb_some, kb_none, kb_bind, kb_alt]
  kernel_rfl
theorem spec_l06Branches_l3_r : RoundIs (mkCtx Go.K.Link.seat spec_l06Branches_c spec_l06Branches_tab) (sums spec_l06Branches_ls) 6 (bodyAt (loopsOf 0 spec_l06Branches_code) 3) spec_l06Branches_l3_s := by
  rintro ⟨v, ⟨orbit, ⟨out, ⟨i, ⟨j, ⟨k, ⟨own, ⟨at', _⟩⟩⟩⟩⟩⟩⟩⟩
  show _ = (spec_l06Branches_l3 (v, (orbit, (out, (i, (j, (k, (own, (at', ()))))))))).bind fun r : (Ctl ((((List UInt8) × ((List UInt8) × Unit))) × (List ((List UInt8) × ((List UInt8) × Unit))) × (List ((List UInt8) × ((List UInt8) × Unit))) × Int × Int × Int × (((List UInt8) × ((List UInt8) × Unit))) × Int × Unit) (((((List UInt8) × ((List UInt8) × Unit))) × (List ((List UInt8) × ((List UInt8) × Unit))) × (List ((List UInt8) × ((List UInt8) × Unit))) × Int × Int × Int × (((List UInt8) × ((List UInt8) × Unit))) × Int × Unit))) => some (ctlVal spec_l06Branches_l3_s r)
  simp only [spec_l06Branches_l3, kb_ite, kb_some, kb_none, kb_bind, kb_alt]
  kernel_rfl
theorem spec_l06Branches_rs : RoundsOK (mkCtx Go.K.Link.seat spec_l06Branches_c spec_l06Branches_tab) (sums spec_l06Branches_ls) (loopsOf 0 spec_l06Branches_code) spec_l06Branches_ls := ⟨⟨rfl, rfl, spec_l06Branches_l0_r⟩, ⟨⟨rfl, rfl, spec_l06Branches_l1_r⟩, ⟨⟨rfl, rfl, spec_l06Branches_l2_r⟩, ⟨⟨rfl, rfl, spec_l06Branches_l3_r⟩, trivial⟩⟩⟩⟩
theorem spec_l06Branches_e : ∀ v, (evFn (mkCtx Go.K.Link.seat spec_l06Branches_c spec_l06Branches_tab) (sums spec_l06Branches_ls) 12 Go.Proofs.Try.f12 (encL spec_l06Branches_s.a v)).run = (spec_l06Branches_s.gen v).bind fun y => some (spec_l06Branches_s.out y) := by
  rintro ⟨v, _⟩
  show _ = (spec_l06Branches v).bind fun y : (List ((List UInt8) × ((List UInt8) × Unit))) × Bool => some (spec_l06Branches_s.out y)
  simp only [spec_l06Branches, kb_ite, kb_some, kb_none, kb_bind, kb_alt]
  kernel_rfl
theorem spec_l06Branches_is : FnIs Go.Proofs.Try.prog 12 (modeOf []) (phi [spec_l06Branches_s]) := spec_is (c := spec_l06Branches_c) seatOK spec_l06Branches_t Go.Proofs.Try.func12 rfl (code := spec_l06Branches_code) rfl rfl spec_l06Branches_rs spec_l06Branches_e
noncomputable def spec_BranchPoints_s : Spec := ⟨[.v (.pair (.str) (.pair (.str) (.unit))) .fr], (List ((List UInt8) × ((List UInt8) × Unit))) × Int, fun v => spec_BranchPoints v.1, fun r => ([.v (.sl 28 (.pair (.str) (.pair (.str) (.unit)))) (.own .fr) r.1, .v (.int .i64) .fr r.2], [])⟩
noncomputable def spec_BranchPoints_ls : List LSum := []
noncomputable def spec_BranchPoints_tab : List Row := [⟨11, [], [spec_l06Tree_s]⟩, ⟨12, [], [spec_l06Branches_s]⟩]
theorem spec_BranchPoints_t : ∀ r, r ∈ spec_BranchPoints_tab → RowIs Go.Proofs.Try.prog r := tab_cons (spec_l06Tree_is) (tab_cons (spec_l06Branches_is) (tab_nil))
theorem spec_BranchPoints_rs : RoundsOK (mkCtx Go.K.Link.seat spec_BranchPoints_c spec_BranchPoints_tab) (sums spec_BranchPoints_ls) (loopsOf 0 spec_BranchPoints_code) spec_BranchPoints_ls := trivial
theorem spec_BranchPoints_e : ∀ v, (evFn (mkCtx Go.K.Link.seat spec_BranchPoints_c spec_BranchPoints_tab) (sums spec_BranchPoints_ls) 5 Go.Proofs.Try.f5 (encL spec_BranchPoints_s.a v)).run = (spec_BranchPoints_s.gen v).bind fun y => some (spec_BranchPoints_s.out y) := by
  rintro ⟨v, _⟩
  show _ = (spec_BranchPoints v).bind fun y : (List ((List UInt8) × ((List UInt8) × Unit))) × Int => some (spec_BranchPoints_s.out y)
  simp only [spec_BranchPoints, kb_ite, kb_some, kb_none, kb_bind, kb_alt]
  kernel_rfl
theorem spec_BranchPoints_is : FnIs Go.Proofs.Try.prog 5 (modeOf []) (phi [spec_BranchPoints_s]) := spec_is (c := spec_BranchPoints_c) seatOK spec_BranchPoints_t Go.Proofs.Try.func5 rfl (code := spec_BranchPoints_code) rfl rfl spec_BranchPoints_rs spec_BranchPoints_e
noncomputable def impl_BranchPoints_code : Code := (Go.Proofs.Try.f7.body).getD .skip
def impl_BranchPoints_c : Cfg := ⟨7, [], [], [], [], []⟩
noncomputable def impl_treeCode_code : Code := (Go.Proofs.Try.f13.body).getD .skip
def impl_treeCode_c : Cfg := ⟨13, [], [], [], [], []⟩
noncomputable def impl_starCode_code : Code := (Go.Proofs.Try.f21.body).getD .skip
def impl_starCode_c : Cfg := ⟨21, [], [], [], [], []⟩
noncomputable def impl_IsSequence_code : Code := (Go.Proofs.Try.f37.body).getD .skip
def impl_IsSequence_c : Cfg := ⟨37, [], [], [], [], []⟩
noncomputable def impl_areLetters_code : Code := (Go.Proofs.Try.f52.body).getD .skip
def impl_areLetters_c : Cfg := ⟨52, [], [], [], [], []⟩
noncomputable def impl_areAll_byte_code : Code := (Go.Proofs.Try.f70.body).getD .skip
def impl_areAll_byte_c : Cfg := ⟨70, [], [], [], [], []⟩
noncomputable def slices_ContainsFunc__byte_byte_code : Code := (Go.Proofs.Try.f80.body).getD .skip
def slices_ContainsFunc__byte_byte_c : Cfg := ⟨80, [], [], [], [], []⟩
noncomputable def slices_IndexFunc__byte_byte_code : Code := (Go.Proofs.Try.f90.body).getD .skip
def slices_IndexFunc__byte_byte_c : Cfg := ⟨90, [], [[0, 1, 7, 8], [], [4]], [], [], []⟩
noncomputable def impl_areAll_byte_f1_code : Code := (Go.Proofs.Try.f81.body).getD .skip
def impl_areAll_byte_f1_c : Cfg := ⟨81, [], [], [], [], []⟩
noncomputable def impl_areLetters_f1_code : Code := (Go.Proofs.Try.f71.body).getD .skip
def impl_areLetters_f1_c : Cfg := ⟨71, [], [], [], [], []⟩
noncomputable def impl_areLetters_f1_s : Spec := ⟨[.v (.int .u8) .fr], Bool, fun v => impl_areLetters_f1 v.1, fun r => ([.v (.bool) .fr r], [])⟩
noncomputable def impl_areLetters_f1_ls : List LSum := []
noncomputable def impl_areLetters_f1_tab : List Row := []
theorem impl_areLetters_f1_t : ∀ r, r ∈ impl_areLetters_f1_tab → RowIs Go.Proofs.Try.prog r := tab_nil
theorem impl_areLetters_f1_rs : RoundsOK (mkCtx Go.K.Link.seat impl_areLetters_f1_c impl_areLetters_f1_tab) (sums impl_areLetters_f1_ls) (loopsOf 0 impl_areLetters_f1_code) impl_areLetters_f1_ls := trivial
theorem impl_areLetters_f1_e : ∀ v, (evFn (mkCtx Go.K.Link.seat impl_areLetters_f1_c impl_areLetters_f1_tab) (sums impl_areLetters_f1_ls) 71 Go.Proofs.Try.f71 (encL impl_areLetters_f1_s.a v)).run = (impl_areLetters_f1_s.gen v).bind fun y => some (impl_areLetters_f1_s.out y) := by
  rintro ⟨c, _⟩
  show _ = (impl_areLetters_f1 c).bind fun y : Bool => some (impl_areLetters_f1_s.out y)
  simp only [impl_areLetters_f1, kb_ite, kb_some, kb_none, kb_bind, kb_alt]
  kernel_rfl
theorem impl_areLetters_f1_is : FnIs Go.Proofs.Try.prog 71 (modeOf []) (phi [impl_areLetters_f1_s]) := spec_is (c := impl_areLetters_f1_c) seatOK impl_areLetters_f1_t Go.Proofs.Try.func71 rfl (code := impl_areLetters_f1_code) rfl rfl impl_areLetters_f1_rs impl_areLetters_f1_e
noncomputable def impl_areAll_byte_f1_s : Spec := ⟨[.v (.int .u8) .fr, .pfn 71 [] []], Bool, fun v => impl_areAll_byte_f1 v.1, fun r => ([.v (.bool) .fr r], [])⟩
noncomputable def impl_areAll_byte_f1_ls : List LSum := []
noncomputable def impl_areAll_byte_f1_tab : List Row := [⟨71, [], [impl_areLetters_f1_s]⟩]
theorem impl_areAll_byte_f1_t : ∀ r, r ∈ impl_areAll_byte_f1_tab → RowIs Go.Proofs.Try.prog r := tab_cons (impl_areLetters_f1_is) (tab_nil)
theorem impl_areAll_byte_f1_rs : RoundsOK (mkCtx Go.K.Link.seat impl_areAll_byte_f1_c impl_areAll_byte_f1_tab) (sums impl_areAll_byte_f1_ls) (loopsOf 0 impl_areAll_byte_f1_code) impl_areAll_byte_f1_ls := trivial
theorem impl_areAll_byte_f1_e : ∀ v, (evFn (mkCtx Go.K.Link.seat impl_areAll_byte_f1_c impl_areAll_byte_f1_tab) (sums impl_areAll_byte_f1_ls) 81 Go.Proofs.Try.f81 (encL impl_areAll_byte_f1_s.a v)).run = (impl_areAll_byte_f1_s.gen v).bind fun y => some (impl_areAll_byte_f1_s.out y) := by
  rintro ⟨x, ⟨⟨_, _⟩, _⟩⟩
  show _ = (impl_areAll_byte_f1 x).bind fun y : Bool => some (impl_areAll_byte_f1_s.out y)
  simp only [impl_areAll_byte_f1, kb_ite, kb_some, kb_none, kb_bind, kb_alt]
  kernel_rfl
theorem impl_areAll_byte_f1_is : FnIs Go.Proofs.Try.prog 81 (modeOf []) (phi [impl_areAll_byte_f1_s]) := spec_is (c := impl_areAll_byte_f1_c) seatOK impl_areAll_byte_f1_t Go.Proofs.Try.func81 rfl (code := impl_areAll_byte_f1_code) rfl rfl impl_areAll_byte_f1_rs impl_areAll_byte_f1_e
noncomputable def slices_IndexFunc__byte_byte_l0_s : LSum := ⟨0, ⟨[(0, .val (.sl 5 (.int .u8)) .fr), (0, .fnl 81 [] [.arg (.pfn 71 [] [])]), (5, .val (.int .i64) .fr), (0, .val (.int .i64) .fr)], 10⟩, (.ret, ⟨[(4, .val (.int .i64) .fr)], 14⟩), [(.exit 0, ⟨[], 19⟩)], slices_IndexFunc__byte_byte_l0⟩
noncomputable def slices_IndexFunc__byte_byte_s : Spec := ⟨[.v (.sl 5 (.int .u8)) .fr, .fn 81 [] [.pfn 71 [] []]], Int, fun v => slices_IndexFunc__byte_byte v.1, fun r => ([.v (.int .i64) .fr r], [])⟩
noncomputable def slices_IndexFunc__byte_byte_ls : List LSum := [slices_IndexFunc__byte_byte_l0_s]
noncomputable def slices_IndexFunc__byte_byte_tab : List Row := [⟨81, [], [impl_areAll_byte_f1_s]⟩]
theorem slices_IndexFunc__byte_byte_t : ∀ r, r ∈ slices_IndexFunc__byte_byte_tab → RowIs Go.Proofs.Try.prog r := tab_cons (impl_areAll_byte_f1_is) (tab_nil)
theorem slices_IndexFunc__byte_byte_l0_r : RoundIs (mkCtx Go.K.Link.seat slices_IndexFunc__byte_byte_c slices_IndexFunc__byte_byte_tab) (sums slices_IndexFunc__byte_byte_ls) 0 (bodyAt (loopsOf 0 slices_IndexFunc__byte_byte_code) 0) slices_IndexFunc__byte_byte_l0_s := by
  rintro ⟨s, ⟨_, ⟨⟨_, _⟩, _⟩, ⟨t7, ⟨t8, _⟩⟩⟩⟩
  show _ = (slices_IndexFunc__byte_byte_l0 (s, ((), (((), ()), ()), (t7, (t8, ()))))).bind fun r : (Ctl ((List Int) × Unit × ((Unit × Unit) × Unit) × Int × Int × Unit) ((Int × Unit) ⊕ (Unit))) => some (ctlVal slices_IndexFunc__byte_byte_l0_s r)
  simp only [slices_IndexFunc__byte_byte_l0, kb_ite, kb_some, kb_none, kb_bind, kb_alt]
  kernel_rfl
theorem slices_IndexFunc__byte_byte_rs : RoundsOK (mkCtx Go.K.Link.seat slices_IndexFunc__byte_byte_c slices_IndexFunc__byte_byte_tab) (sums slices_IndexFunc__byte_byte_ls) (loopsOf 0 slices_IndexFunc__byte_byte_code) slices_IndexFunc__byte_byte_ls := ⟨⟨rfl, rfl, slices_IndexFunc__byte_byte_l0_r⟩, trivial⟩
theorem slices_IndexFunc__byte_byte_e : ∀ v, (evFn (mkCtx Go.K.Link.seat slices_IndexFunc__byte_byte_c slices_IndexFunc__byte_byte_tab) (sums slices_IndexFunc__byte_byte_ls) 90 Go.Proofs.Try.f90 (encL slices_IndexFunc__byte_byte_s.a v)).run = (slices_IndexFunc__byte_byte_s.gen v).bind fun y => some (slices_IndexFunc__byte_byte_s.out y) := by
  rintro ⟨s, ⟨⟨_, ⟨⟨_, _⟩, _⟩⟩, _⟩⟩
  show _ = (slices_IndexFunc__byte_byte s).bind fun y : Int => some (slices_IndexFunc__byte_byte_s.out y)
  simp only [slices_IndexFunc__byte_byte, kb_ite, kb_some, kb_none, kb_bind, kb_alt]
  kernel_rfl
theorem slices_IndexFunc__byte_byte_is : FnIs Go.Proofs.Try.prog 90 (modeOf []) (phi [slices_IndexFunc__byte_byte_s]) := spec_is (c := slices_IndexFunc__byte_byte_c) seatOK slices_IndexFunc__byte_byte_t Go.Proofs.Try.func90 rfl (code := slices_IndexFunc__byte_byte_code) rfl rfl slices_IndexFunc__byte_byte_rs slices_IndexFunc__byte_byte_e
noncomputable def slices_ContainsFunc__byte_byte_s : Spec := ⟨[.v (.sl 5 (.int .u8)) .fr, .fn 81 [] [.pfn 71 [] []]], Bool, fun v => slices_ContainsFunc__byte_byte v.1, fun r => ([.v (.bool) .fr r], [])⟩
noncomputable def slices_ContainsFunc__byte_byte_ls : List LSum := []
noncomputable def slices_ContainsFunc__byte_byte_tab : List Row := [⟨90, [], [slices_IndexFunc__byte_byte_s]⟩]
theorem slices_ContainsFunc__byte_byte_t : ∀ r, r ∈ slices_ContainsFunc__byte_byte_tab → RowIs Go.Proofs.Try.prog r := tab_cons (slices_IndexFunc__byte_byte_is) (tab_nil)
theorem slices_ContainsFunc__byte_byte_rs : RoundsOK (mkCtx Go.K.Link.seat slices_ContainsFunc__byte_byte_c slices_ContainsFunc__byte_byte_tab) (sums slices_ContainsFunc__byte_byte_ls) (loopsOf 0 slices_ContainsFunc__byte_byte_code) slices_ContainsFunc__byte_byte_ls := trivial
theorem slices_ContainsFunc__byte_byte_e : ∀ v, (evFn (mkCtx Go.K.Link.seat slices_ContainsFunc__byte_byte_c slices_ContainsFunc__byte_byte_tab) (sums slices_ContainsFunc__byte_byte_ls) 80 Go.Proofs.Try.f80 (encL slices_ContainsFunc__byte_byte_s.a v)).run = (slices_ContainsFunc__byte_byte_s.gen v).bind fun y => some (slices_ContainsFunc__byte_byte_s.out y) := by
  rintro ⟨s, ⟨⟨_, ⟨⟨_, _⟩, _⟩⟩, _⟩⟩
  show _ = (slices_ContainsFunc__byte_byte s).bind fun y : Bool => some (slices_ContainsFunc__byte_byte_s.out y)
  simp only [slices_ContainsFunc__byte_byte, kb_ite, kb_some, kb_none, kb_bind, kb_alt]
  kernel_rfl
theorem slices_ContainsFunc__byte_byte_is : FnIs Go.Proofs.Try.prog 80 (modeOf []) (phi [slices_ContainsFunc__byte_byte_s]) := spec_is (c := slices_ContainsFunc__byte_byte_c) seatOK slices_ContainsFunc__byte_byte_t Go.Proofs.Try.func80 rfl (code := slices_ContainsFunc__byte_byte_code) rfl rfl slices_ContainsFunc__byte_byte_rs slices_ContainsFunc__byte_byte_e
noncomputable def impl_areAll_byte_s : Spec := ⟨[.v (.sl 5 (.int .u8)) .fr, .fn 71 [] []], Bool, fun v => impl_areAll_byte v.1, fun r => ([.v (.bool) .fr r], [])⟩
noncomputable def impl_areAll_byte_ls : List LSum := []
noncomputable def impl_areAll_byte_tab : List Row := [⟨80, [], [slices_ContainsFunc__byte_byte_s]⟩]
theorem impl_areAll_byte_t : ∀ r, r ∈ impl_areAll_byte_tab → RowIs Go.Proofs.Try.prog r := tab_cons (slices_ContainsFunc__byte_byte_is) (tab_nil)
theorem impl_areAll_byte_rs : RoundsOK (mkCtx Go.K.Link.seat impl_areAll_byte_c impl_areAll_byte_tab) (sums impl_areAll_byte_ls) (loopsOf 0 impl_areAll_byte_code) impl_areAll_byte_ls := trivial
theorem impl_areAll_byte_e : ∀ v, (evFn (mkCtx Go.K.Link.seat impl_areAll_byte_c impl_areAll_byte_tab) (sums impl_areAll_byte_ls) 70 Go.Proofs.Try.f70 (encL impl_areAll_byte_s.a v)).run = (impl_areAll_byte_s.gen v).bind fun y => some (impl_areAll_byte_s.out y) := by
  rintro ⟨list, ⟨⟨_, _⟩, _⟩⟩
  show _ = (impl_areAll_byte list).bind fun y : Bool => some (impl_areAll_byte_s.out y)
  simp only [impl_areAll_byte, kb_ite, kb_some, kb_none, kb_bind, kb_alt]
  kernel_rfl
theorem impl_areAll_byte_is : FnIs Go.Proofs.Try.prog 70 (modeOf []) (phi [impl_areAll_byte_s]) := spec_is (c := impl_areAll_byte_c) seatOK impl_areAll_byte_t Go.Proofs.Try.func70 rfl (code := impl_areAll_byte_code) rfl rfl impl_areAll_byte_rs impl_areAll_byte_e
noncomputable def impl_areLetters_s : Spec := ⟨[.v (.str) .fr], Bool, fun v => impl_areLetters v.1, fun r => ([.v (.bool) .fr r], [])⟩
noncomputable def impl_areLetters_ls : List LSum := []
noncomputable def impl_areLetters_tab : List Row := [⟨70, [], [impl_areAll_byte_s]⟩]
theorem impl_areLetters_t : ∀ r, r ∈ impl_areLetters_tab → RowIs Go.Proofs.Try.prog r := tab_cons (impl_areAll_byte_is) (tab_nil)
theorem impl_areLetters_rs : RoundsOK (mkCtx Go.K.Link.seat impl_areLetters_c impl_areLetters_tab) (sums impl_areLetters_ls) (loopsOf 0 impl_areLetters_code) impl_areLetters_ls := trivial
theorem impl_areLetters_e : ∀ v, (evFn (mkCtx Go.K.Link.seat impl_areLetters_c impl_areLetters_tab) (sums impl_areLetters_ls) 52 Go.Proofs.Try.f52 (encL impl_areLetters_s.a v)).run = (impl_areLetters_s.gen v).bind fun y => some (impl_areLetters_s.out y) := by
  rintro ⟨s, _⟩
  show _ = (impl_areLetters s).bind fun y : Bool => some (impl_areLetters_s.out y)
  simp only [impl_areLetters, kb_ite, kb_some, kb_none, kb_bind, kb_alt]
  kernel_rfl
theorem impl_areLetters_is : FnIs Go.Proofs.Try.prog 52 (modeOf []) (phi [impl_areLetters_s]) := spec_is (c := impl_areLetters_c) seatOK impl_areLetters_t Go.Proofs.Try.func52 rfl (code := impl_areLetters_code) rfl rfl impl_areLetters_rs impl_areLetters_e
noncomputable def impl_areGiven_code : Code := (Go.Proofs.Try.f53.body).getD .skip
def impl_areGiven_c : Cfg := ⟨53, [], [], [], [], []⟩
noncomputable def impl_areGiven_s : Spec := ⟨[.v (.str) .fr, .v (.str) .fr], Bool, fun v => impl_areGiven v.1 v.2.1, fun r => ([.v (.bool) .fr r], [])⟩
noncomputable def impl_areGiven_ls : List LSum := []
noncomputable def impl_areGiven_tab : List Row := []
theorem impl_areGiven_t : ∀ r, r ∈ impl_areGiven_tab → RowIs Go.Proofs.Try.prog r := tab_nil
theorem impl_areGiven_rs : RoundsOK (mkCtx Go.K.Link.seat impl_areGiven_c impl_areGiven_tab) (sums impl_areGiven_ls) (loopsOf 0 impl_areGiven_code) impl_areGiven_ls := trivial
theorem impl_areGiven_e : ∀ v, (evFn (mkCtx Go.K.Link.seat impl_areGiven_c impl_areGiven_tab) (sums impl_areGiven_ls) 53 Go.Proofs.Try.f53 (encL impl_areGiven_s.a v)).run = (impl_areGiven_s.gen v).bind fun y => some (impl_areGiven_s.out y) := by
  rintro ⟨pre, ⟨per, _⟩⟩
  show _ = (impl_areGiven pre per).bind fun y : Bool => some (impl_areGiven_s.out y)
  simp only [impl_areGiven, kb_ite, kb_some, kb_none, kb_bind, kb_alt]
  kernel_rfl
theorem impl_areGiven_is : FnIs Go.Proofs.Try.prog 53 (modeOf []) (phi [impl_areGiven_s]) := spec_is (c := impl_areGiven_c) seatOK impl_areGiven_t Go.Proofs.Try.func53 rfl (code := impl_areGiven_code) rfl rfl impl_areGiven_rs impl_areGiven_e
noncomputable def impl_sequence_code : Code := (Go.Proofs.Try.f44.body).getD .skip
def impl_sequence_c : Cfg := ⟨44, [], [[0, 1, 4], [0, 1, 4], [4]], [], [], []⟩
noncomputable def impl_root_code : Code := (Go.Proofs.Try.f58.body).getD .skip
def impl_root_c : Cfg := ⟨58, [], [[0, 3], [0, 3], [2]], [], [], []⟩
noncomputable def strings_Repeat_s : Spec := ⟨[.v (.str) .fr, .v (.int .i64) .fr], List UInt8, fun v => strings_Repeat v.1 v.2.1, fun r => ([.v (.str) .fr r], [])⟩
theorem strings_Repeat_is : FnIs (drI := drZ) Go.Proofs.Try.prog 74 (modeOf []) (phi [strings_Repeat_s]) := repeat_is Go.Proofs.Try.repL Go.Proofs.Try.repX ⟨_, Go.Proofs.Try.func74, rfl, rfl⟩
noncomputable def impl_root_l0_s : LSum := ⟨0, ⟨[(0, .val (.str) .fr), (2, .val (.int .i64) .fr)], 22⟩, (.exit 0, ⟨[(0, .val (.str) .fr), (2, .val (.int .i64) .fr)], 22⟩), [], impl_root_l0⟩
noncomputable def impl_root_s : Spec := ⟨[.v (.str) .fr], (List UInt8), fun v => impl_root v.1, fun r => ([.v (.str) .fr r], [])⟩
noncomputable def impl_root_ls : List LSum := [impl_root_l0_s]
noncomputable def impl_root_tab : List Row := [⟨74, [], [strings_Repeat_s]⟩]
theorem impl_root_t : ∀ r, r ∈ impl_root_tab → RowIs (drI := drZ) Go.Proofs.Try.prog r := tab_cons (drI := drZ) (strings_Repeat_is) (tab_nil (drI := drZ))
theorem impl_root_l0_r : RoundIs (mkCtx Go.K.Link.seat impl_root_c impl_root_tab) (sums impl_root_ls) 0 (bodyAt (loopsOf 0 impl_root_code) 0) impl_root_l0_s := by
  rintro ⟨word', ⟨n, _⟩⟩
  show _ = (impl_root_l0 (word', (n, ()))).bind fun r : (Ctl ((List UInt8) × Int × Unit) (((List UInt8) × Int × Unit))) => some (ctlVal impl_root_l0_s r)
  simp only [impl_root_l0, kb_ite, kb_some, kb_none, kb_bind, kb_alt]
  kernel_rfl
theorem impl_root_rs : RoundsOK (mkCtx Go.K.Link.seat impl_root_c impl_root_tab) (sums impl_root_ls) (loopsOf 0 impl_root_code) impl_root_ls := ⟨⟨rfl, rfl, impl_root_l0_r⟩, trivial⟩
theorem impl_root_e : ∀ v, (evFn (mkCtx Go.K.Link.seat impl_root_c impl_root_tab) (sums impl_root_ls) 58 Go.Proofs.Try.f58 (encL impl_root_s.a v)).run = (impl_root_s.gen v).bind fun y => some (impl_root_s.out y) := by
  rintro ⟨word', _⟩
  show _ = (impl_root word').bind fun y : (List UInt8) => some (impl_root_s.out y)
  simp only [impl_root, kb_ite, kb_some, kb_none, kb_bind, kb_alt]
  kernel_rfl
theorem impl_root_is : FnIs (drI := drZ) Go.Proofs.Try.prog 58 (modeOf []) (phi [impl_root_s]) := spec_is (drI := drZ) (c := impl_root_c) seatOK impl_root_t Go.Proofs.Try.func58 rfl (code := impl_root_code) rfl rfl impl_root_rs impl_root_e
noncomputable def impl_sequence_l0_s : LSum := ⟨0, ⟨[(0, .val (.str) .fr), (0, .val (.str) .fr), (2, .val (.ptr (.pair (.str) (.pair (.str) (.unit)))) (.own .fr))], 36⟩, (.exit 0, ⟨[(0, .val (.str) .fr), (0, .val (.str) .fr), (2, .val (.ptr (.pair (.str) (.pair (.str) (.unit)))) (.own .fr))], 36⟩), [], impl_sequence_l0⟩
noncomputable def impl_sequence_s : Spec := ⟨[.v (.str) .fr, .v (.str) .fr], ((List UInt8) × ((List UInt8) × Unit)), fun v => impl_sequence v.1 v.2.1, fun r => ([.v (.pair (.str) (.pair (.str) (.unit))) .fr r], [])⟩
noncomputable def impl_sequence_ls : List LSum := [impl_sequence_l0_s]
noncomputable def impl_sequence_tab : List Row := [⟨58, [], [impl_root_s]⟩]
theorem impl_sequence_t : ∀ r, r ∈ impl_sequence_tab → RowIs (drI := drZ) Go.Proofs.Try.prog r := tab_cons (drI := drZ) (impl_root_is) (tab_nil (drI := drZ))
theorem impl_sequence_l0_r : RoundIs (mkCtx Go.K.Link.seat impl_sequence_c impl_sequence_tab) (sums impl_sequence_ls) 0 (bodyAt (loopsOf 0 impl_sequence_code) 0) impl_sequence_l0_s := by
  rintro ⟨pre, ⟨per, ⟨t4, _⟩⟩⟩
  show _ = (impl_sequence_l0 (pre, (per, (t4, ())))).bind fun r : (Ctl ((List UInt8) × (List UInt8) × (((List UInt8) × ((List UInt8) × Unit))) × Unit) (((List UInt8) × (List UInt8) × (((List UInt8) × ((List UInt8) × Unit))) × Unit))) => some (ctlVal impl_sequence_l0_s r)
  simp only [impl_sequence_l0, kb_ite, kb_some, kb_none, kb_bind, kb_alt]
  kernel_rfl
theorem impl_sequence_rs : RoundsOK (mkCtx Go.K.Link.seat impl_sequence_c impl_sequence_tab) (sums impl_sequence_ls) (loopsOf 0 impl_sequence_code) impl_sequence_ls := ⟨⟨rfl, rfl, impl_sequence_l0_r⟩, trivial⟩
theorem impl_sequence_e : ∀ v, (evFn (mkCtx Go.K.Link.seat impl_sequence_c impl_sequence_tab) (sums impl_sequence_ls) 44 Go.Proofs.Try.f44 (encL impl_sequence_s.a v)).run = (impl_sequence_s.gen v).bind fun y => some (impl_sequence_s.out y) := by
  rintro ⟨pre, ⟨per, _⟩⟩
  show _ = (impl_sequence pre per).bind fun y : ((List UInt8) × ((List UInt8) × Unit)) => some (impl_sequence_s.out y)
  simp only [impl_sequence, kb_ite, kb_some, kb_none, kb_bind, kb_alt]
  kernel_rfl
theorem impl_sequence_is : FnIs (drI := drZ) Go.Proofs.Try.prog 44 (modeOf []) (phi [impl_sequence_s]) := spec_is (drI := drZ) (c := impl_sequence_c) seatOK impl_sequence_t Go.Proofs.Try.func44 rfl (code := impl_sequence_code) rfl rfl impl_sequence_rs impl_sequence_e
noncomputable def impl_IsSequence_s : Spec := ⟨[.v (.pair (.str) (.pair (.str) (.unit))) .fr], Bool, fun v => impl_IsSequence v.1, fun r => ([.v (.bool) .fr r], [])⟩
noncomputable def impl_IsSequence_ls : List LSum := []
noncomputable def impl_IsSequence_tab : List Row := [⟨44, [], [impl_sequence_s]⟩, ⟨52, [], [impl_areLetters_s]⟩, ⟨53, [], [impl_areGiven_s]⟩]
theorem impl_IsSequence_t : ∀ r, r ∈ impl_IsSequence_tab → RowIs (drI := drZ) Go.Proofs.Try.prog r := tab_cons (drI := drZ) (impl_sequence_is) (tab_cons (drI := drZ) ((weak_is impl_areLetters_is)) (tab_cons (drI := drZ) ((weak_is impl_areGiven_is)) (tab_nil (drI := drZ))))
theorem impl_IsSequence_rs : RoundsOK (mkCtx Go.K.Link.seat impl_IsSequence_c impl_IsSequence_tab) (sums impl_IsSequence_ls) (loopsOf 0 impl_IsSequence_code) impl_IsSequence_ls := trivial
theorem impl_IsSequence_e : ∀ v, (evFn (mkCtx Go.K.Link.seat impl_IsSequence_c impl_IsSequence_tab) (sums impl_IsSequence_ls) 37 Go.Proofs.Try.f37 (encL impl_IsSequence_s.a v)).run = (impl_IsSequence_s.gen v).bind fun y => some (impl_IsSequence_s.out y) := by
  rintro ⟨s, _⟩
  show _ = (impl_IsSequence s).bind fun y : Bool => some (impl_IsSequence_s.out y)
  simp only [impl_IsSequence, kb_ite, kb_some, kb_none, kb_bind, kb_alt]
  kernel_rfl
theorem impl_IsSequence_is : FnIs (drI := drZ) Go.Proofs.Try.prog 37 (modeOf []) (phi [impl_IsSequence_s]) := spec_is (drI := drZ) (c := impl_IsSequence_c) seatOK impl_IsSequence_t Go.Proofs.Try.func37 rfl (code := impl_IsSequence_code) rfl rfl impl_IsSequence_rs impl_IsSequence_e
noncomputable def impl_areAll_impl_Sequence_code : Code := (Go.Proofs.Try.f38.body).getD .skip
def impl_areAll_impl_Sequence_c : Cfg := ⟨38, [], [], [], [], []⟩
noncomputable def slices_ContainsFunc__impl_Sequence_impl_Sequence_code : Code := (Go.Proofs.Try.f54.body).getD .skip
def slices_ContainsFunc__impl_Sequence_impl_Sequence_c : Cfg := ⟨54, [], [], [], [], []⟩
noncomputable def slices_IndexFunc__impl_Sequence_impl_Sequence_code : Code := (Go.Proofs.Try.f72.body).getD .skip
def slices_IndexFunc__impl_Sequence_impl_Sequence_c : Cfg := ⟨72, [], [[0, 1, 7, 8], [], [4]], [], [], []⟩
noncomputable def impl_areAll_impl_Sequence_f1_code : Code := (Go.Proofs.Try.f55.body).getD .skip
def impl_areAll_impl_Sequence_f1_c : Cfg := ⟨55, [], [], [], [], []⟩
noncomputable def impl_areAll_impl_Sequence_f1_s : Spec := ⟨[.v (.pair (.str) (.pair (.str) (.unit))) .fr, .pfn 37 [] []], Bool, fun v => impl_areAll_impl_Sequence_f1 v.1, fun r => ([.v (.bool) .fr r], [])⟩
noncomputable def impl_areAll_impl_Sequence_f1_ls : List LSum := []
noncomputable def impl_areAll_impl_Sequence_f1_tab : List Row := [⟨37, [], [impl_IsSequence_s]⟩]
theorem impl_areAll_impl_Sequence_f1_t : ∀ r, r ∈ impl_areAll_impl_Sequence_f1_tab → RowIs (drI := drZ) Go.Proofs.Try.prog r := tab_cons (drI := drZ) (impl_IsSequence_is) (tab_nil (drI := drZ))
theorem impl_areAll_impl_Sequence_f1_rs : RoundsOK (mkCtx Go.K.Link.seat impl_areAll_impl_Sequence_f1_c impl_areAll_impl_Sequence_f1_tab) (sums impl_areAll_impl_Sequence_f1_ls) (loopsOf 0 impl_areAll_impl_Sequence_f1_code) impl_areAll_impl_Sequence_f1_ls := trivial
theorem impl_areAll_impl_Sequence_f1_e : ∀ v, (evFn (mkCtx Go.K.Link.seat impl_areAll_impl_Sequence_f1_c impl_areAll_impl_Sequence_f1_tab) (sums impl_areAll_impl_Sequence_f1_ls) 55 Go.Proofs.Try.f55 (encL impl_areAll_impl_Sequence_f1_s.a v)).run = (impl_areAll_impl_Sequence_f1_s.gen v).bind fun y => some (impl_areAll_impl_Sequence_f1_s.out y) := by
  rintro ⟨x, ⟨⟨_, _⟩, _⟩⟩
  show _ = (impl_areAll_impl_Sequence_f1 x).bind fun y : Bool => some (impl_areAll_impl_Sequence_f1_s.out y)
  simp only [impl_areAll_impl_Sequence_f1, kb_ite, kb_some, kb_none, kb_bind, kb_alt]
  kernel_rfl
theorem impl_areAll_impl_Sequence_f1_is : FnIs (drI := drZ) Go.Proofs.Try.prog 55 (modeOf []) (phi [impl_areAll_impl_Sequence_f1_s]) := spec_is (drI := drZ) (c := impl_areAll_impl_Sequence_f1_c) seatOK impl_areAll_impl_Sequence_f1_t Go.Proofs.Try.func55 rfl (code := impl_areAll_impl_Sequence_f1_code) rfl rfl impl_areAll_impl_Sequence_f1_rs impl_areAll_impl_Sequence_f1_e
noncomputable def slices_IndexFunc__impl_Sequence_impl_Sequence_l0_s : LSum := ⟨0, ⟨[(0, .val (.sl 28 (.pair (.str) (.pair (.str) (.unit)))) .fr), (0, .fnl 55 [] [.arg (.pfn 37 [] [])]), (5, .val (.int .i64) .fr), (0, .val (.int .i64) .fr)], 10⟩, (.ret, ⟨[(4, .val (.int .i64) .fr)], 14⟩), [(.exit 0, ⟨[], 19⟩)], slices_IndexFunc__impl_Sequence_impl_Sequence_l0⟩
noncomputable def slices_IndexFunc__impl_Sequence_impl_Sequence_s : Spec := ⟨[.v (.sl 28 (.pair (.str) (.pair (.str) (.unit)))) .fr, .fn 55 [] [.pfn 37 [] []]], Int, fun v => slices_IndexFunc__impl_Sequence_impl_Sequence v.1, fun r => ([.v (.int .i64) .fr r], [])⟩
noncomputable def slices_IndexFunc__impl_Sequence_impl_Sequence_ls : List LSum := [slices_IndexFunc__impl_Sequence_impl_Sequence_l0_s]
noncomputable def slices_IndexFunc__impl_Sequence_impl_Sequence_tab : List Row := [⟨55, [], [impl_areAll_impl_Sequence_f1_s]⟩]
theorem slices_IndexFunc__impl_Sequence_impl_Sequence_t : ∀ r, r ∈ slices_IndexFunc__impl_Sequence_impl_Sequence_tab → RowIs (drI := drZ) Go.Proofs.Try.prog r := tab_cons (drI := drZ) (impl_areAll_impl_Sequence_f1_is) (tab_nil (drI := drZ))
theorem slices_IndexFunc__impl_Sequence_impl_Sequence_l0_r : RoundIs (mkCtx Go.K.Link.seat slices_IndexFunc__impl_Sequence_impl_Sequence_c slices_IndexFunc__impl_Sequence_impl_Sequence_tab) (sums slices_IndexFunc__impl_Sequence_impl_Sequence_ls) 0 (bodyAt (loopsOf 0 slices_IndexFunc__impl_Sequence_impl_Sequence_code) 0) slices_IndexFunc__impl_Sequence_impl_Sequence_l0_s := by
  rintro ⟨s, ⟨_, ⟨⟨_, _⟩, _⟩, ⟨t7, ⟨t8, _⟩⟩⟩⟩
  show _ = (slices_IndexFunc__impl_Sequence_impl_Sequence_l0 (s, ((), (((), ()), ()), (t7, (t8, ()))))).bind fun r : (Ctl ((List ((List UInt8) × ((List UInt8) × Unit))) × Unit × ((Unit × Unit) × Unit) × Int × Int × Unit) ((Int × Unit) ⊕ (Unit))) => some (ctlVal slices_IndexFunc__impl_Sequence_impl_Sequence_l0_s r)
  simp only [slices_IndexFunc__impl_Sequence_impl_Sequence_l0, kb_ite, kb_some, kb_none, kb_bind, kb_alt]
  kernel_rfl
theorem slices_IndexFunc__impl_Sequence_impl_Sequence_rs : RoundsOK (mkCtx Go.K.Link.seat slices_IndexFunc__impl_Sequence_impl_Sequence_c slices_IndexFunc__impl_Sequence_impl_Sequence_tab) (sums slices_IndexFunc__impl_Sequence_impl_Sequence_ls) (loopsOf 0 slices_IndexFunc__impl_Sequence_impl_Sequence_code) slices_IndexFunc__impl_Sequence_impl_Sequence_ls := ⟨⟨rfl, rfl, slices_IndexFunc__impl_Sequence_impl_Sequence_l0_r⟩, trivial⟩
theorem slices_IndexFunc__impl_Sequence_impl_Sequence_e : ∀ v, (evFn (mkCtx Go.K.Link.seat slices_IndexFunc__impl_Sequence_impl_Sequence_c slices_IndexFunc__impl_Sequence_impl_Sequence_tab) (sums slices_IndexFunc__impl_Sequence_impl_Sequence_ls) 72 Go.Proofs.Try.f72 (encL slices_IndexFunc__impl_Sequence_impl_Sequence_s.a v)).run = (slices_IndexFunc__impl_Sequence_impl_Sequence_s.gen v).bind fun y => some (slices_IndexFunc__impl_Sequence_impl_Sequence_s.out y) := by
  rintro ⟨s, ⟨⟨_, ⟨⟨_, _⟩, _⟩⟩, _⟩⟩
  show _ = (slices_IndexFunc__impl_Sequence_impl_Sequence s).bind fun y : Int => some (slices_IndexFunc__impl_Sequence_impl_Sequence_s.out y)
  simp only [slices_IndexFunc__impl_Sequence_impl_Sequence, kb_ite, kb_some, kb_none, kb_bind, kb_alt]
  kernel_rfl
theorem slices_IndexFunc__impl_Sequence_impl_Sequence_is : FnIs (drI := drZ) Go.Proofs.Try.prog 72 (modeOf []) (phi [slices_IndexFunc__impl_Sequence_impl_Sequence_s]) := spec_is (drI := drZ) (c := slices_IndexFunc__impl_Sequence_impl_Sequence_c) seatOK slices_IndexFunc__impl_Sequence_impl_Sequence_t Go.Proofs.Try.func72 rfl (code := slices_IndexFunc__impl_Sequence_impl_Sequence_code) rfl rfl slices_IndexFunc__impl_Sequence_impl_Sequence_rs slices_IndexFunc__impl_Sequence_impl_Sequence_e
noncomputable def slices_ContainsFunc__impl_Sequence_impl_Sequence_s : Spec := ⟨[.v (.sl 28 (.pair (.str) (.pair (.str) (.unit)))) .fr, .fn 55 [] [.pfn 37 [] []]], Bool, fun v => slices_ContainsFunc__impl_Sequence_impl_Sequence v.1, fun r => ([.v (.bool) .fr r], [])⟩
noncomputable def slices_ContainsFunc__impl_Sequence_impl_Sequence_ls : List LSum := []
noncomputable def slices_ContainsFunc__impl_Sequence_impl_Sequence_tab : List Row := [⟨72, [], [slices_IndexFunc__impl_Sequence_impl_Sequence_s]⟩]
theorem slices_ContainsFunc__impl_Sequence_impl_Sequence_t : ∀ r, r ∈ slices_ContainsFunc__impl_Sequence_impl_Sequence_tab → RowIs (drI := drZ) Go.Proofs.Try.prog r := tab_cons (drI := drZ) (slices_IndexFunc__impl_Sequence_impl_Sequence_is) (tab_nil (drI := drZ))
theorem slices_ContainsFunc__impl_Sequence_impl_Sequence_rs : RoundsOK (mkCtx Go.K.Link.seat slices_ContainsFunc__impl_Sequence_impl_Sequence_c slices_ContainsFunc__impl_Sequence_impl_Sequence_tab) (sums slices_ContainsFunc__impl_Sequence_impl_Sequence_ls) (loopsOf 0 slices_ContainsFunc__impl_Sequence_impl_Sequence_code) slices_ContainsFunc__impl_Sequence_impl_Sequence_ls := trivial
theorem slices_ContainsFunc__impl_Sequence_impl_Sequence_e : ∀ v, (evFn (mkCtx Go.K.Link.seat slices_ContainsFunc__impl_Sequence_impl_Sequence_c slices_ContainsFunc__impl_Sequence_impl_Sequence_tab) (sums slices_ContainsFunc__impl_Sequence_impl_Sequence_ls) 54 Go.Proofs.Try.f54 (encL slices_ContainsFunc__impl_Sequence_impl_Sequence_s.a v)).run = (slices_ContainsFunc__impl_Sequence_impl_Sequence_s.gen v).bind fun y => some (slices_ContainsFunc__impl_Sequence_impl_Sequence_s.out y) := by
  rintro ⟨s, ⟨⟨_, ⟨⟨_, _⟩, _⟩⟩, _⟩⟩
  show _ = (slices_ContainsFunc__impl_Sequence_impl_Sequence s).bind fun y : Bool => some (slices_ContainsFunc__impl_Sequence_impl_Sequence_s.out y)
  simp only [slices_ContainsFunc__impl_Sequence_impl_Sequence, kb_ite, kb_some, kb_none, kb_bind, kb_alt]
  kernel_rfl
theorem slices_ContainsFunc__impl_Sequence_impl_Sequence_is : FnIs (drI := drZ) Go.Proofs.Try.prog 54 (modeOf []) (phi [slices_ContainsFunc__impl_Sequence_impl_Sequence_s]) := spec_is (drI := drZ) (c := slices_ContainsFunc__impl_Sequence_impl_Sequence_c) seatOK slices_ContainsFunc__impl_Sequence_impl_Sequence_t Go.Proofs.Try.func54 rfl (code := slices_ContainsFunc__impl_Sequence_impl_Sequence_code) rfl rfl slices_ContainsFunc__impl_Sequence_impl_Sequence_rs slices_ContainsFunc__impl_Sequence_impl_Sequence_e
noncomputable def impl_areAll_impl_Sequence_s : Spec := ⟨[.v (.sl 28 (.pair (.str) (.pair (.str) (.unit)))) .fr, .fn 37 [] []], Bool, fun v => impl_areAll_impl_Sequence v.1, fun r => ([.v (.bool) .fr r], [])⟩
noncomputable def impl_areAll_impl_Sequence_ls : List LSum := []
noncomputable def impl_areAll_impl_Sequence_tab : List Row := [⟨54, [], [slices_ContainsFunc__impl_Sequence_impl_Sequence_s]⟩]
theorem impl_areAll_impl_Sequence_t : ∀ r, r ∈ impl_areAll_impl_Sequence_tab → RowIs (drI := drZ) Go.Proofs.Try.prog r := tab_cons (drI := drZ) (slices_ContainsFunc__impl_Sequence_impl_Sequence_is) (tab_nil (drI := drZ))
theorem impl_areAll_impl_Sequence_rs : RoundsOK (mkCtx Go.K.Link.seat impl_areAll_impl_Sequence_c impl_areAll_impl_Sequence_tab) (sums impl_areAll_impl_Sequence_ls) (loopsOf 0 impl_areAll_impl_Sequence_code) impl_areAll_impl_Sequence_ls := trivial
theorem impl_areAll_impl_Sequence_e : ∀ v, (evFn (mkCtx Go.K.Link.seat impl_areAll_impl_Sequence_c impl_areAll_impl_Sequence_tab) (sums impl_areAll_impl_Sequence_ls) 38 Go.Proofs.Try.f38 (encL impl_areAll_impl_Sequence_s.a v)).run = (impl_areAll_impl_Sequence_s.gen v).bind fun y => some (impl_areAll_impl_Sequence_s.out y) := by
  rintro ⟨list, ⟨⟨_, _⟩, _⟩⟩
  show _ = (impl_areAll_impl_Sequence list).bind fun y : Bool => some (impl_areAll_impl_Sequence_s.out y)
  simp only [impl_areAll_impl_Sequence, kb_ite, kb_some, kb_none, kb_bind, kb_alt]
  kernel_rfl
theorem impl_areAll_impl_Sequence_is : FnIs (drI := drZ) Go.Proofs.Try.prog 38 (modeOf []) (phi [impl_areAll_impl_Sequence_s]) := spec_is (drI := drZ) (c := impl_areAll_impl_Sequence_c) seatOK impl_areAll_impl_Sequence_t Go.Proofs.Try.func38 rfl (code := impl_areAll_impl_Sequence_code) rfl rfl impl_areAll_impl_Sequence_rs impl_areAll_impl_Sequence_e
noncomputable def impl_Sequence_isStar_code : Code := (Go.Proofs.Try.f39.body).getD .skip
def impl_Sequence_isStar_c : Cfg := ⟨39, [], [], [], [], []⟩
noncomputable def strings_IndexByte_s : Spec := ⟨[.v (.str) .fr, .v (.int .u8) .fr], Int, fun v => strings_IndexByte v.1 v.2.1, fun r => ([.v (.int .i64) .fr r], [])⟩
theorem strings_IndexByte_is : FnIs Go.Proofs.Try.prog 56 (modeOf []) (phi [strings_IndexByte_s]) := ix_is Go.Proofs.Try.ixbL ⟨_, Go.Proofs.Try.func56, rfl, rfl⟩
noncomputable def impl_Sequence_isStar_s : Spec := ⟨[.v (.pair (.str) (.pair (.str) (.unit))) .fr], Bool, fun v => impl_Sequence_isStar v.1, fun r => ([.v (.bool) .fr r], [])⟩
noncomputable def impl_Sequence_isStar_ls : List LSum := []
noncomputable def impl_Sequence_isStar_tab : List Row := [⟨56, [], [strings_IndexByte_s]⟩]
theorem impl_Sequence_isStar_t : ∀ r, r ∈ impl_Sequence_isStar_tab → RowIs Go.Proofs.Try.prog r := tab_cons (strings_IndexByte_is) (tab_nil)
theorem impl_Sequence_isStar_rs : RoundsOK (mkCtx Go.K.Link.seat impl_Sequence_isStar_c impl_Sequence_isStar_tab) (sums impl_Sequence_isStar_ls) (loopsOf 0 impl_Sequence_isStar_code) impl_Sequence_isStar_ls := trivial
theorem impl_Sequence_isStar_e : ∀ v, (evFn (mkCtx Go.K.Link.seat impl_Sequence_isStar_c impl_Sequence_isStar_tab) (sums impl_Sequence_isStar_ls) 39 Go.Proofs.Try.f39 (encL impl_Sequence_isStar_s.a v)).run = (impl_Sequence_isStar_s.gen v).bind fun y => some (impl_Sequence_isStar_s.out y) := by
  rintro ⟨s, _⟩
  show _ = (impl_Sequence_isStar s).bind fun y : Bool => some (impl_Sequence_isStar_s.out y)
  simp only [impl_Sequence_isStar, kb_ite, kb_some, kb_none, kb_bind, kb_alt]
  kernel_rfl
theorem impl_Sequence_isStar_is : FnIs Go.Proofs.Try.prog 39 (modeOf []) (phi [impl_Sequence_isStar_s]) := spec_is (c := impl_Sequence_isStar_c) seatOK impl_Sequence_isStar_t Go.Proofs.Try.func39 rfl (code := impl_Sequence_isStar_code) rfl rfl impl_Sequence_isStar_rs impl_Sequence_isStar_e
noncomputable def impl_areAll_impl_Sequence_v2_code : Code := (Go.Proofs.Try.f38.body).getD .skip
def impl_areAll_impl_Sequence_v2_c : Cfg := ⟨38, [], [], [], [], []⟩
noncomputable def slices_ContainsFunc__impl_Sequence_impl_Sequence_v2_code : Code := (Go.Proofs.Try.f54.body).getD .skip
def slices_ContainsFunc__impl_Sequence_impl_Sequence_v2_c : Cfg := ⟨54, [], [], [], [], []⟩
noncomputable def slices_IndexFunc__impl_Sequence_impl_Sequence_v2_code : Code := (Go.Proofs.Try.f72.body).getD .skip
def slices_IndexFunc__impl_Sequence_impl_Sequence_v2_c : Cfg := ⟨72, [], [[0, 1, 7, 8], [], [4]], [], [], []⟩
noncomputable def impl_areAll_impl_Sequence_f1_v2_code : Code := (Go.Proofs.Try.f55.body).getD .skip
def impl_areAll_impl_Sequence_f1_v2_c : Cfg := ⟨55, [], [], [], [], []⟩
noncomputable def impl_Sequence_isPoint_code : Code := (Go.Proofs.Try.f40.body).getD .skip
def impl_Sequence_isPoint_c : Cfg := ⟨40, [], [[2, 3, 12, 13], [], [4]], [], [], []⟩
noncomputable def impl_Sequence_shift_code : Code := (Go.Proofs.Try.f41.body).getD .skip
def impl_Sequence_shift_c : Cfg := ⟨41, [], [], [], [], []⟩
noncomputable def impl_Sequence_shift_s : Spec := ⟨[.v (.pair (.str) (.pair (.str) (.unit))) .fr], ((List UInt8) × ((List UInt8) × Unit)), fun v => impl_Sequence_shift v.1, fun r => ([.v (.pair (.str) (.pair (.str) (.unit))) .fr r], [])⟩
noncomputable def impl_Sequence_shift_ls : List LSum := []
noncomputable def impl_Sequence_shift_tab : List Row := []
theorem impl_Sequence_shift_t : ∀ r, r ∈ impl_Sequence_shift_tab → RowIs Go.Proofs.Try.prog r := tab_nil
theorem impl_Sequence_shift_rs : RoundsOK (mkCtx Go.K.Link.seat impl_Sequence_shift_c impl_Sequence_shift_tab) (sums impl_Sequence_shift_ls) (loopsOf 0 impl_Sequence_shift_code) impl_Sequence_shift_ls := trivial
theorem impl_Sequence_shift_e : ∀ v, (evFn (mkCtx Go.K.Link.seat impl_Sequence_shift_c impl_Sequence_shift_tab) (sums impl_Sequence_shift_ls) 41 Go.Proofs.Try.f41 (encL impl_Sequence_shift_s.a v)).run = (impl_Sequence_shift_s.gen v).bind fun y => some (impl_Sequence_shift_s.out y) := by
  rintro ⟨s, _⟩
  show _ = (impl_Sequence_shift s).bind fun y : ((List UInt8) × ((List UInt8) × Unit)) => some (impl_Sequence_shift_s.out y)
  simp only [impl_Sequence_shift, kb_ite, kb_some, kb_none, kb_bind, kb_alt]
  kernel_rfl
theorem impl_Sequence_shift_is : FnIs Go.Proofs.Try.prog 41 (modeOf []) (phi [impl_Sequence_shift_s]) := spec_is (c := impl_Sequence_shift_c) seatOK impl_Sequence_shift_t Go.Proofs.Try.func41 rfl (code := impl_Sequence_shift_code) rfl rfl impl_Sequence_shift_rs impl_Sequence_shift_e
noncomputable def impl_Sequence_at_code : Code := (Go.Proofs.Try.f57.body).getD .skip
def impl_Sequence_at_c : Cfg := ⟨57, [], [], [], [], []⟩
noncomputable def impl_Sequence_at_s : Spec := ⟨[.v (.pair (.str) (.pair (.str) (.unit))) .fr, .v (.int .i64) .fr], Int, fun v => impl_Sequence_at v.1 v.2.1, fun r => ([.v (.int .u8) .fr r], [])⟩
noncomputable def impl_Sequence_at_ls : List LSum := []
noncomputable def impl_Sequence_at_tab : List Row := []
theorem impl_Sequence_at_t : ∀ r, r ∈ impl_Sequence_at_tab → RowIs Go.Proofs.Try.prog r := tab_nil
theorem impl_Sequence_at_rs : RoundsOK (mkCtx Go.K.Link.seat impl_Sequence_at_c impl_Sequence_at_tab) (sums impl_Sequence_at_ls) (loopsOf 0 impl_Sequence_at_code) impl_Sequence_at_ls := trivial
theorem impl_Sequence_at_e : ∀ v, (evFn (mkCtx Go.K.Link.seat impl_Sequence_at_c impl_Sequence_at_tab) (sums impl_Sequence_at_ls) 57 Go.Proofs.Try.f57 (encL impl_Sequence_at_s.a v)).run = (impl_Sequence_at_s.gen v).bind fun y => some (impl_Sequence_at_s.out y) := by
  rintro ⟨s, ⟨k, _⟩⟩
  show _ = (impl_Sequence_at s k).bind fun y : Int => some (impl_Sequence_at_s.out y)
  simp only [impl_Sequence_at, kb_ite, kb_some, kb_none, kb_bind, kb_alt]
  kernel_rfl
theorem impl_Sequence_at_is : FnIs Go.Proofs.Try.prog 57 (modeOf []) (phi [impl_Sequence_at_s]) := spec_is (c := impl_Sequence_at_c) seatOK impl_Sequence_at_t Go.Proofs.Try.func57 rfl (code := impl_Sequence_at_code) rfl rfl impl_Sequence_at_rs impl_Sequence_at_e
noncomputable def impl_Sequence_isPoint_l0_s : LSum := ⟨0, ⟨[(2, .val (.ptr (.pair (.str) (.pair (.str) (.unit)))) (.own .fr)), (0, .val (.ptr (.pair (.str) (.pair (.str) (.unit)))) (.own .fr)), (8, .val (.int .i64) .fr), (0, .val (.int .i64) .fr)], 13⟩, (.ret, ⟨[(4, .val (.bool) .fr)], 22⟩), [(.exit 0, ⟨[], 27⟩)], impl_Sequence_isPoint_l0⟩
noncomputable def impl_Sequence_isPoint_s : Spec := ⟨[.v (.pair (.str) (.pair (.str) (.unit))) .fr, .v (.pair (.str) (.pair (.str) (.unit))) .fr], Bool, fun v => impl_Sequence_isPoint v.1 v.2.1, fun r => ([.v (.bool) .fr r], [])⟩
noncomputable def impl_Sequence_isPoint_ls : List LSum := [impl_Sequence_isPoint_l0_s]
noncomputable def impl_Sequence_isPoint_tab : List Row := [⟨41, [], [impl_Sequence_shift_s]⟩, ⟨57, [], [impl_Sequence_at_s]⟩]
theorem impl_Sequence_isPoint_t : ∀ r, r ∈ impl_Sequence_isPoint_tab → RowIs Go.Proofs.Try.prog r := tab_cons (impl_Sequence_shift_is) (tab_cons (impl_Sequence_at_is) (tab_nil))
theorem impl_Sequence_isPoint_l0_r : RoundIs (mkCtx Go.K.Link.seat impl_Sequence_isPoint_c impl_Sequence_isPoint_tab) (sums impl_Sequence_isPoint_ls) 0 (bodyAt (loopsOf 0 impl_Sequence_isPoint_code) 0) impl_Sequence_isPoint_l0_s := by
  rintro ⟨v, ⟨s, ⟨t12, ⟨t13, _⟩⟩⟩⟩
  show _ = (impl_Sequence_isPoint_l0 (v, (s, (t12, (t13, ()))))).bind fun r : (Ctl ((((List UInt8) × ((List UInt8) × Unit))) × (((List UInt8) × ((List UInt8) × Unit))) × Int × Int × Unit) ((Bool × Unit) ⊕ (Unit))) => some (ctlVal impl_Sequence_isPoint_l0_s r)
  simp only [impl_Sequence_isPoint_l0, kb_ite, kb_some, kb_none, kb_bind, kb_alt]
  kernel_rfl
theorem impl_Sequence_isPoint_rs : RoundsOK (mkCtx Go.K.Link.seat impl_Sequence_isPoint_c impl_Sequence_isPoint_tab) (sums impl_Sequence_isPoint_ls) (loopsOf 0 impl_Sequence_isPoint_code) impl_Sequence_isPoint_ls := ⟨⟨rfl, rfl, impl_Sequence_isPoint_l0_r⟩, trivial⟩
theorem impl_Sequence_isPoint_e : ∀ v, (evFn (mkCtx Go.K.Link.seat impl_Sequence_isPoint_c impl_Sequence_isPoint_tab) (sums impl_Sequence_isPoint_ls) 40 Go.Proofs.Try.f40 (encL impl_Sequence_isPoint_s.a v)).run = (impl_Sequence_isPoint_s.gen v).bind fun y => some (impl_Sequence_isPoint_s.out y) := by
  rintro ⟨v, ⟨s, _⟩⟩
  show _ = (impl_Sequence_isPoint v s).bind fun y : Bool => some (impl_Sequence_isPoint_s.out y)
  simp only [impl_Sequence_isPoint, kb_ite, kb_some, kb_none, kb_bind, kb_alt]
  kernel_rfl
theorem impl_Sequence_isPoint_is : FnIs Go.Proofs.Try.prog 40 (modeOf []) (phi [impl_Sequence_isPoint_s]) := spec_is (c := impl_Sequence_isPoint_c) seatOK impl_Sequence_isPoint_t Go.Proofs.Try.func40 rfl (code := impl_Sequence_isPoint_code) rfl rfl impl_Sequence_isPoint_rs impl_Sequence_isPoint_e
noncomputable def impl_areAll_impl_Sequence_f1_v2_s : Spec := ⟨[.v (.pair (.str) (.pair (.str) (.unit))) .fr, .pfn 40 [.v (.pair (.str) (.pair (.str) (.unit))) .fr] []], Bool, fun v => impl_areAll_impl_Sequence_f1_v2 v.1 v.2.1.1.1, fun r => ([.v (.bool) .fr r], [])⟩
noncomputable def impl_areAll_impl_Sequence_f1_v2_ls : List LSum := []
noncomputable def impl_areAll_impl_Sequence_f1_v2_tab : List Row := [⟨40, [], [impl_Sequence_isPoint_s]⟩]
theorem impl_areAll_impl_Sequence_f1_v2_t : ∀ r, r ∈ impl_areAll_impl_Sequence_f1_v2_tab → RowIs Go.Proofs.Try.prog r := tab_cons (impl_Sequence_isPoint_is) (tab_nil)
theorem impl_areAll_impl_Sequence_f1_v2_rs : RoundsOK (mkCtx Go.K.Link.seat impl_areAll_impl_Sequence_f1_v2_c impl_areAll_impl_Sequence_f1_v2_tab) (sums impl_areAll_impl_Sequence_f1_v2_ls) (loopsOf 0 impl_areAll_impl_Sequence_f1_v2_code) impl_areAll_impl_Sequence_f1_v2_ls := trivial
theorem impl_areAll_impl_Sequence_f1_v2_e : ∀ v, (evFn (mkCtx Go.K.Link.seat impl_areAll_impl_Sequence_f1_v2_c impl_areAll_impl_Sequence_f1_v2_tab) (sums impl_areAll_impl_Sequence_f1_v2_ls) 55 Go.Proofs.Try.f55 (encL impl_areAll_impl_Sequence_f1_v2_s.a v)).run = (impl_areAll_impl_Sequence_f1_v2_s.gen v).bind fun y => some (impl_areAll_impl_Sequence_f1_v2_s.out y) := by
  rintro ⟨x, ⟨⟨⟨t1_0, _⟩, _⟩, _⟩⟩
  show _ = (impl_areAll_impl_Sequence_f1_v2 x t1_0).bind fun y : Bool => some (impl_areAll_impl_Sequence_f1_v2_s.out y)
  simp only [impl_areAll_impl_Sequence_f1_v2, kb_ite, kb_some, kb_none, kb_bind, kb_alt]
  kernel_rfl
theorem impl_areAll_impl_Sequence_f1_v2_is : FnIs Go.Proofs.Try.prog 55 (modeOf []) (phi [impl_areAll_impl_Sequence_f1_v2_s]) := spec_is (c := impl_areAll_impl_Sequence_f1_v2_c) seatOK impl_areAll_impl_Sequence_f1_v2_t Go.Proofs.Try.func55 rfl (code := impl_areAll_impl_Sequence_f1_v2_code) rfl rfl impl_areAll_impl_Sequence_f1_v2_rs impl_areAll_impl_Sequence_f1_v2_e
noncomputable def slices_IndexFunc__impl_Sequence_impl_Sequence_v2_l0_s : LSum := ⟨0, ⟨[(0, .val (.sl 28 (.pair (.str) (.pair (.str) (.unit)))) .fr), (0, .fnl 55 [] [.arg (.pfn 40 [.v (.pair (.str) (.pair (.str) (.unit))) .fr] [])]), (5, .val (.int .i64) .fr), (0, .val (.int .i64) .fr)], 10⟩, (.ret, ⟨[(4, .val (.int .i64) .fr)], 14⟩), [(.exit 0, ⟨[], 19⟩)], slices_IndexFunc__impl_Sequence_impl_Sequence_v2_l0⟩
noncomputable def slices_IndexFunc__impl_Sequence_impl_Sequence_v2_s : Spec := ⟨[.v (.sl 28 (.pair (.str) (.pair (.str) (.unit)))) .fr, .fn 55 [] [.pfn 40 [.v (.pair (.str) (.pair (.str) (.unit))) .fr] []]], Int, fun v => slices_IndexFunc__impl_Sequence_impl_Sequence_v2 v.1 v.2.1.2.1.1.1, fun r => ([.v (.int .i64) .fr r], [])⟩
noncomputable def slices_IndexFunc__impl_Sequence_impl_Sequence_v2_ls : List LSum := [slices_IndexFunc__impl_Sequence_impl_Sequence_v2_l0_s]
noncomputable def slices_IndexFunc__impl_Sequence_impl_Sequence_v2_tab : List Row := [⟨55, [], [impl_areAll_impl_Sequence_f1_v2_s]⟩]
theorem slices_IndexFunc__impl_Sequence_impl_Sequence_v2_t : ∀ r, r ∈ slices_IndexFunc__impl_Sequence_impl_Sequence_v2_tab → RowIs Go.Proofs.Try.prog r := tab_cons (impl_areAll_impl_Sequence_f1_v2_is) (tab_nil)
theorem slices_IndexFunc__impl_Sequence_impl_Sequence_v2_l0_r : RoundIs (mkCtx Go.K.Link.seat slices_IndexFunc__impl_Sequence_impl_Sequence_v2_c slices_IndexFunc__impl_Sequence_impl_Sequence_v2_tab) (sums slices_IndexFunc__impl_Sequence_impl_Sequence_v2_ls) 0 (bodyAt (loopsOf 0 slices_IndexFunc__impl_Sequence_impl_Sequence_v2_code) 0) slices_IndexFunc__impl_Sequence_impl_Sequence_v2_l0_s := by
  rintro ⟨s, ⟨_, ⟨⟨⟨f, _⟩, _⟩, _⟩, ⟨t7, ⟨t8, _⟩⟩⟩⟩
  show _ = (slices_IndexFunc__impl_Sequence_impl_Sequence_v2_l0 (s, ((), (((f, ()), ()), ()), (t7, (t8, ()))))).bind fun r : (Ctl ((List ((List UInt8) × ((List UInt8) × Unit))) × Unit × (((((List UInt8) × ((List UInt8) × Unit)) × Unit) × Unit) × Unit) × Int × Int × Unit) ((Int × Unit) ⊕ (Unit))) => some (ctlVal slices_IndexFunc__impl_Sequence_impl_Sequence_v2_l0_s r)
  simp only [slices_IndexFunc__impl_Sequence_impl_Sequence_v2_l0, kb_ite, kb_some, kb_none, kb_bind, kb_alt]
  kernel_rfl
theorem slices_IndexFunc__impl_Sequence_impl_Sequence_v2_rs : RoundsOK (mkCtx Go.K.Link.seat slices_IndexFunc__impl_Sequence_impl_Sequence_v2_c slices_IndexFunc__impl_Sequence_impl_Sequence_v2_tab) (sums slices_IndexFunc__impl_Sequence_impl_Sequence_v2_ls) (loopsOf 0 slices_IndexFunc__impl_Sequence_impl_Sequence_v2_code) slices_IndexFunc__impl_Sequence_impl_Sequence_v2_ls := ⟨⟨rfl, rfl, slices_IndexFunc__impl_Sequence_impl_Sequence_v2_l0_r⟩, trivial⟩
theorem slices_IndexFunc__impl_Sequence_impl_Sequence_v2_e : ∀ v, (evFn (mkCtx Go.K.Link.seat slices_IndexFunc__impl_Sequence_impl_Sequence_v2_c slices_IndexFunc__impl_Sequence_impl_Sequence_v2_tab) (sums slices_IndexFunc__impl_Sequence_impl_Sequence_v2_ls) 72 Go.Proofs.Try.f72 (encL slices_IndexFunc__impl_Sequence_impl_Sequence_v2_s.a v)).run = (slices_IndexFunc__impl_Sequence_impl_Sequence_v2_s.gen v).bind fun y => some (slices_IndexFunc__impl_Sequence_impl_Sequence_v2_s.out y) := by
  rintro ⟨s, ⟨⟨_, ⟨⟨⟨f_0_1, _⟩, _⟩, _⟩⟩, _⟩⟩
  show _ = (slices_IndexFunc__impl_Sequence_impl_Sequence_v2 s f_0_1).bind fun y : Int => some (slices_IndexFunc__impl_Sequence_impl_Sequence_v2_s.out y)
  simp only [slices_IndexFunc__impl_Sequence_impl_Sequence_v2, kb_ite, kb_some, kb_none, kb_bind, kb_alt]
  kernel_rfl
theorem slices_IndexFunc__impl_Sequence_impl_Sequence_v2_is : FnIs Go.Proofs.Try.prog 72 (modeOf []) (phi [slices_IndexFunc__impl_Sequence_impl_Sequence_v2_s]) := spec_is (c := slices_IndexFunc__impl_Sequence_impl_Sequence_v2_c) seatOK slices_IndexFunc__impl_Sequence_impl_Sequence_v2_t Go.Proofs.Try.func72 rfl (code := slices_IndexFunc__impl_Sequence_impl_Sequence_v2_code) rfl rfl slices_IndexFunc__impl_Sequence_impl_Sequence_v2_rs slices_IndexFunc__impl_Sequence_impl_Sequence_v2_e
noncomputable def slices_ContainsFunc__impl_Sequence_impl_Sequence_v2_s : Spec := ⟨[.v (.sl 28 (.pair (.str) (.pair (.str) (.unit)))) .fr, .fn 55 [] [.pfn 40 [.v (.pair (.str) (.pair (.str) (.unit))) .fr] []]], Bool, fun v => slices_ContainsFunc__impl_Sequence_impl_Sequence_v2 v.1 v.2.1.2.1.1.1, fun r => ([.v (.bool) .fr r], [])⟩
noncomputable def slices_ContainsFunc__impl_Sequence_impl_Sequence_v2_ls : List LSum := []
noncomputable def slices_ContainsFunc__impl_Sequence_impl_Sequence_v2_tab : List Row := [⟨72, [], [slices_IndexFunc__impl_Sequence_impl_Sequence_v2_s]⟩]
theorem slices_ContainsFunc__impl_Sequence_impl_Sequence_v2_t : ∀ r, r ∈ slices_ContainsFunc__impl_Sequence_impl_Sequence_v2_tab → RowIs Go.Proofs.Try.prog r := tab_cons (slices_IndexFunc__impl_Sequence_impl_Sequence_v2_is) (tab_nil)
theorem slices_ContainsFunc__impl_Sequence_impl_Sequence_v2_rs : RoundsOK (mkCtx Go.K.Link.seat slices_ContainsFunc__impl_Sequence_impl_Sequence_v2_c slices_ContainsFunc__impl_Sequence_impl_Sequence_v2_tab) (sums slices_ContainsFunc__impl_Sequence_impl_Sequence_v2_ls) (loopsOf 0 slices_ContainsFunc__impl_Sequence_impl_Sequence_v2_code) slices_ContainsFunc__impl_Sequence_impl_Sequence_v2_ls := trivial
theorem slices_ContainsFunc__impl_Sequence_impl_Sequence_v2_e : ∀ v, (evFn (mkCtx Go.K.Link.seat slices_ContainsFunc__impl_Sequence_impl_Sequence_v2_c slices_ContainsFunc__impl_Sequence_impl_Sequence_v2_tab) (sums slices_ContainsFunc__impl_Sequence_impl_Sequence_v2_ls) 54 Go.Proofs.Try.f54 (encL slices_ContainsFunc__impl_Sequence_impl_Sequence_v2_s.a v)).run = (slices_ContainsFunc__impl_Sequence_impl_Sequence_v2_s.gen v).bind fun y => some (slices_ContainsFunc__impl_Sequence_impl_Sequence_v2_s.out y) := by
  rintro ⟨s, ⟨⟨_, ⟨⟨⟨f_0_1, _⟩, _⟩, _⟩⟩, _⟩⟩
  show _ = (slices_ContainsFunc__impl_Sequence_impl_Sequence_v2 s f_0_1).bind fun y : Bool => some (slices_ContainsFunc__impl_Sequence_impl_Sequence_v2_s.out y)
  simp only [slices_ContainsFunc__impl_Sequence_impl_Sequence_v2, kb_ite, kb_some, kb_none, kb_bind, kb_alt]
  kernel_rfl
theorem slices_ContainsFunc__impl_Sequence_impl_Sequence_v2_is : FnIs Go.Proofs.Try.prog 54 (modeOf []) (phi [slices_ContainsFunc__impl_Sequence_impl_Sequence_v2_s]) := spec_is (c := slices_ContainsFunc__impl_Sequence_impl_Sequence_v2_c) seatOK slices_ContainsFunc__impl_Sequence_impl_Sequence_v2_t Go.Proofs.Try.func54 rfl (code := slices_ContainsFunc__impl_Sequence_impl_Sequence_v2_code) rfl rfl slices_ContainsFunc__impl_Sequence_impl_Sequence_v2_rs slices_ContainsFunc__impl_Sequence_impl_Sequence_v2_e
noncomputable def impl_areAll_impl_Sequence_v2_s : Spec := ⟨[.v (.sl 28 (.pair (.str) (.pair (.str) (.unit)))) .fr, .fn 40 [.v (.pair (.str) (.pair (.str) (.unit))) .fr] []], Bool, fun v => impl_areAll_impl_Sequence_v2 v.1 v.2.1.1.1, fun r => ([.v (.bool) .fr r], [])⟩
noncomputable def impl_areAll_impl_Sequence_v2_ls : List LSum := []
noncomputable def impl_areAll_impl_Sequence_v2_tab : List Row := [⟨54, [], [slices_ContainsFunc__impl_Sequence_impl_Sequence_v2_s]⟩]
theorem impl_areAll_impl_Sequence_v2_t : ∀ r, r ∈ impl_areAll_impl_Sequence_v2_tab → RowIs Go.Proofs.Try.prog r := tab_cons (slices_ContainsFunc__impl_Sequence_impl_Sequence_v2_is) (tab_nil)
theorem impl_areAll_impl_Sequence_v2_rs : RoundsOK (mkCtx Go.K.Link.seat impl_areAll_impl_Sequence_v2_c impl_areAll_impl_Sequence_v2_tab) (sums impl_areAll_impl_Sequence_v2_ls) (loopsOf 0 impl_areAll_impl_Sequence_v2_code) impl_areAll_impl_Sequence_v2_ls := trivial
theorem impl_areAll_impl_Sequence_v2_e : ∀ v, (evFn (mkCtx Go.K.Link.seat impl_areAll_impl_Sequence_v2_c impl_areAll_impl_Sequence_v2_tab) (sums impl_areAll_impl_Sequence_v2_ls) 38 Go.Proofs.Try.f38 (encL impl_areAll_impl_Sequence_v2_s.a v)).run = (impl_areAll_impl_Sequence_v2_s.gen v).bind fun y => some (impl_areAll_impl_Sequence_v2_s.out y) := by
  rintro ⟨list, ⟨⟨⟨is'_0, _⟩, _⟩, _⟩⟩
  show _ = (impl_areAll_impl_Sequence_v2 list is'_0).bind fun y : Bool => some (impl_areAll_impl_Sequence_v2_s.out y)
  simp only [impl_areAll_impl_Sequence_v2, kb_ite, kb_some, kb_none, kb_bind, kb_alt]
  kernel_rfl
theorem impl_areAll_impl_Sequence_v2_is : FnIs Go.Proofs.Try.prog 38 (modeOf []) (phi [impl_areAll_impl_Sequence_v2_s]) := spec_is (c := impl_areAll_impl_Sequence_v2_c) seatOK impl_areAll_impl_Sequence_v2_t Go.Proofs.Try.func38 rfl (code := impl_areAll_impl_Sequence_v2_code) rfl rfl impl_areAll_impl_Sequence_v2_rs impl_areAll_impl_Sequence_v2_e
noncomputable def impl_starCode_s : Spec := ⟨[.v (.pair (.str) (.pair (.str) (.unit))) .fr, .v (.sl 28 (.pair (.str) (.pair (.str) (.unit)))) .fr], Int, fun v => impl_starCode v.1 v.2.1, fun r => ([.v (.int .i64) .fr r], [])⟩
noncomputable def impl_starCode_ls : List LSum := []
noncomputable def impl_starCode_tab : List Row := [⟨37, [], [impl_IsSequence_s]⟩, ⟨38, [], [impl_areAll_impl_Sequence_s, impl_areAll_impl_Sequence_v2_s]⟩, ⟨39, [], [impl_Sequence_isStar_s]⟩]
theorem impl_starCode_t : ∀ r, r ∈ impl_starCode_tab → RowIs (drI := drZ) Go.Proofs.Try.prog r := tab_cons (drI := drZ) (impl_IsSequence_is) (tab_cons (drI := drZ) (fnIs_cons (drI := drZ) impl_areAll_impl_Sequence_is ((weak_is impl_areAll_impl_Sequence_v2_is))) (tab_cons (drI := drZ) ((weak_is impl_Sequence_isStar_is)) (tab_nil (drI := drZ))))
theorem impl_starCode_rs : RoundsOK (mkCtx Go.K.Link.seat impl_starCode_c impl_starCode_tab) (sums impl_starCode_ls) (loopsOf 0 impl_starCode_code) impl_starCode_ls := trivial
theorem impl_starCode_e : ∀ v, (evFn (mkCtx Go.K.Link.seat impl_starCode_c impl_starCode_tab) (sums impl_starCode_ls) 21 Go.Proofs.Try.f21 (encL impl_starCode_s.a v)).run = (impl_starCode_s.gen v).bind fun y => some (impl_starCode_s.out y) := by
  rintro ⟨v, ⟨points, _⟩⟩
  show _ = (impl_starCode v points).bind fun y : Int => some (impl_starCode_s.out y)
  simp only [impl_starCode, kb_ite, kb_some, kb_none, kb_bind, kb_alt]
  kernel_rfl
theorem impl_starCode_is : FnIs (drI := drZ) Go.Proofs.Try.prog 21 (modeOf []) (phi [impl_starCode_s]) := spec_is (drI := drZ) (c := impl_starCode_c) seatOK impl_starCode_t Go.Proofs.Try.func21 rfl (code := impl_starCode_code) rfl rfl impl_starCode_rs impl_starCode_e
noncomputable def impl_treeCode_s : Spec := ⟨[.v (.pair (.str) (.pair (.str) (.unit))) .fr], Int, fun v => impl_treeCode v.1, fun r => ([.v (.int .i64) .fr r], [])⟩
noncomputable def impl_treeCode_ls : List LSum := []
noncomputable def impl_treeCode_tab : List Row := [⟨21, [], [impl_starCode_s]⟩]
theorem impl_treeCode_t : ∀ r, r ∈ impl_treeCode_tab → RowIs (drI := drZ) Go.Proofs.Try.prog r := tab_cons (drI := drZ) (impl_starCode_is) (tab_nil (drI := drZ))
theorem impl_treeCode_rs : RoundsOK (mkCtx Go.K.Link.seat impl_treeCode_c impl_treeCode_tab) (sums impl_treeCode_ls) (loopsOf 0 impl_treeCode_code) impl_treeCode_ls := trivial
theorem impl_treeCode_e : ∀ v, (evFn (mkCtx Go.K.Link.seat impl_treeCode_c impl_treeCode_tab) (sums impl_treeCode_ls) 13 Go.Proofs.Try.f13 (encL impl_treeCode_s.a v)).run = (impl_treeCode_s.gen v).bind fun y => some (impl_treeCode_s.out y) := by
  rintro ⟨v, _⟩
  show _ = (impl_treeCode v).bind fun y : Int => some (impl_treeCode_s.out y)
  simp only [impl_treeCode, kb_ite, kb_some, kb_none, kb_bind, kb_alt]
  kernel_rfl
theorem impl_treeCode_is : FnIs (drI := drZ) Go.Proofs.Try.prog 13 (modeOf []) (phi [impl_treeCode_s]) := spec_is (drI := drZ) (c := impl_treeCode_c) seatOK impl_treeCode_t Go.Proofs.Try.func13 rfl (code := impl_treeCode_code) rfl rfl impl_treeCode_rs impl_treeCode_e
noncomputable def impl_Sequence_branchPoints_code : Code := (Go.Proofs.Try.f14.body).getD .skip
def impl_Sequence_branchPoints_c : Cfg := ⟨14, [], [[1, 4, 5, 15, 16, 17, 18, 68, 75], [5, 68], [2, 3, 75], [], [], [], [1, 4, 5, 7, 15, 16, 17, 18, 23, 25, 26, 27, 68, 75], [1, 4, 5, 15, 16, 17, 18, 68, 75], [2, 3, 75], [], [], [], [1, 4, 5, 7, 9, 15, 16, 17, 18, 23, 25, 26, 27, 32, 34, 35, 36, 68, 75], [1, 4, 5, 7, 15, 16, 17, 18, 23, 25, 26, 27, 68, 75], [2, 3, 75]], [], [], []⟩
noncomputable def impl_Sequence_orbitPoints_code : Code := (Go.Proofs.Try.f22.body).getD .skip
def impl_Sequence_orbitPoints_c : Cfg := ⟨22, [], [[1, 3, 4, 17], [3, 17], [2, 3, 17, 19]], [], [], []⟩
noncomputable def impl_Sequence_orbitPoints_l0_s : LSum := ⟨0, ⟨[(1, .val (.ptr (.pair (.str) (.pair (.str) (.unit)))) (.own .fr)), (1, .val (.sl 28 (.pair (.str) (.pair (.str) (.unit)))) (.own .fr)), (0, .val (.ptr (.pair (.str) (.pair (.str) (.unit)))) (.own .fr))], 15⟩, (.exit 0, ⟨[(3, .val (.sl 28 (.pair (.str) (.pair (.str) (.unit)))) (.own .fr))], 16⟩), [], impl_Sequence_orbitPoints_l0⟩
noncomputable def impl_Sequence_orbitPoints_s : Spec := ⟨[.v (.pair (.str) (.pair (.str) (.unit))) .fr], (List ((List UInt8) × ((List UInt8) × Unit))), fun v => impl_Sequence_orbitPoints v.1, fun r => ([.v (.sl 28 (.pair (.str) (.pair (.str) (.unit)))) (.own .fr) r], [])⟩
noncomputable def impl_Sequence_orbitPoints_ls : List LSum := [impl_Sequence_orbitPoints_l0_s]
noncomputable def impl_Sequence_orbitPoints_tab : List Row := [⟨41, [], [impl_Sequence_shift_s]⟩]
theorem impl_Sequence_orbitPoints_t : ∀ r, r ∈ impl_Sequence_orbitPoints_tab → RowIs Go.Proofs.Try.prog r := tab_cons (impl_Sequence_shift_is) (tab_nil)
theorem impl_Sequence_orbitPoints_l0_r : RoundIs (mkCtx Go.K.Link.seat impl_Sequence_orbitPoints_c impl_Sequence_orbitPoints_tab) (sums impl_Sequence_orbitPoints_ls) 0 (bodyAt (loopsOf 0 impl_Sequence_orbitPoints_code) 0) impl_Sequence_orbitPoints_l0_s := by
  rintro ⟨v, ⟨out, ⟨s, _⟩⟩⟩
  show _ = (impl_Sequence_orbitPoints_l0 (v, (out, (s, ())))).bind fun r : (Ctl ((((List UInt8) × ((List UInt8) × Unit))) × (List ((List UInt8) × ((List UInt8) × Unit))) × (((List UInt8) × ((List UInt8) × Unit))) × Unit) (((List ((List UInt8) × ((List UInt8) × Unit))) × Unit))) => some (ctlVal impl_Sequence_orbitPoints_l0_s r)
  simp only [impl_Sequence_orbitPoints_l0, kb_ite, kb_some, kb_none, kb_bind, kb_alt]
  kernel_rfl
theorem impl_Sequence_orbitPoints_rs : RoundsOK (mkCtx Go.K.Link.seat impl_Sequence_orbitPoints_c impl_Sequence_orbitPoints_tab) (sums impl_Sequence_orbitPoints_ls) (loopsOf 0 impl_Sequence_orbitPoints_code) impl_Sequence_orbitPoints_ls := ⟨⟨rfl, rfl, impl_Sequence_orbitPoints_l0_r⟩, trivial⟩
theorem impl_Sequence_orbitPoints_e : ∀ v, (evFn (mkCtx Go.K.Link.seat impl_Sequence_orbitPoints_c impl_Sequence_orbitPoints_tab) (sums impl_Sequence_orbitPoints_ls) 22 Go.Proofs.Try.f22 (encL impl_Sequence_orbitPoints_s.a v)).run = (impl_Sequence_orbitPoints_s.gen v).bind fun y => some (impl_Sequence_orbitPoints_s.out y) := by
  rintro ⟨v, _⟩
  show _ = (impl_Sequence_orbitPoints v).bind fun y : (List ((List UInt8) × ((List UInt8) × Unit))) => some (impl_Sequence_orbitPoints_s.out y)
  simp only [impl_Sequence_orbitPoints, kb_ite, kb_some, kb_none, kb_bind, kb_alt]
  kernel_rfl
theorem impl_Sequence_orbitPoints_is : FnIs Go.Proofs.Try.prog 22 (modeOf []) (phi [impl_Sequence_orbitPoints_s]) := spec_is (c := impl_Sequence_orbitPoints_c) seatOK impl_Sequence_orbitPoints_t Go.Proofs.Try.func22 rfl (code := impl_Sequence_orbitPoints_code) rfl rfl impl_Sequence_orbitPoints_rs impl_Sequence_orbitPoints_e
noncomputable def impl_Sequence_middle_code : Code := (Go.Proofs.Try.f23.body).getD .skip
def impl_Sequence_middle_c : Cfg := ⟨23, [], [[2, 3, 4, 6, 7, 14], [], [4, 5]], [], [], []⟩
noncomputable def impl_three_twice_code : Code := (Go.Proofs.Try.f42.body).getD .skip
def impl_three_twice_c : Cfg := ⟨42, [], [], [], [], []⟩
noncomputable def impl_three_twice_s : Spec := ⟨[.v (.arr 3 (.pair (.str) (.pair (.str) (.unit)))) .fr], ((List UInt8) × ((List UInt8) × Unit)) × Bool, fun v => impl_three_twice v.1, fun r => ([.v (.pair (.str) (.pair (.str) (.unit))) .fr r.1, .v (.bool) .fr r.2], [])⟩
noncomputable def impl_three_twice_ls : List LSum := []
noncomputable def impl_three_twice_tab : List Row := []
theorem impl_three_twice_t : ∀ r, r ∈ impl_three_twice_tab → RowIs Go.Proofs.Try.prog r := tab_nil
theorem impl_three_twice_rs : RoundsOK (mkCtx Go.K.Link.seat impl_three_twice_c impl_three_twice_tab) (sums impl_three_twice_ls) (loopsOf 0 impl_three_twice_code) impl_three_twice_ls := trivial
theorem impl_three_twice_e : ∀ v, (evFn (mkCtx Go.K.Link.seat impl_three_twice_c impl_three_twice_tab) (sums impl_three_twice_ls) 42 Go.Proofs.Try.f42 (encL impl_three_twice_s.a v)).run = (impl_three_twice_s.gen v).bind fun y => some (impl_three_twice_s.out y) := by
  rintro ⟨p, _⟩
  show _ = (impl_three_twice p).bind fun y : ((List UInt8) × ((List UInt8) × Unit)) × Bool => some (impl_three_twice_s.out y)
  simp only [impl_three_twice, kb_ite, kb_some, kb_none, kb_bind, kb_alt]
  kernel_rfl
theorem impl_three_twice_is : FnIs Go.Proofs.Try.prog 42 (modeOf []) (phi [impl_three_twice_s]) := spec_is (c := impl_three_twice_c) seatOK impl_three_twice_t Go.Proofs.Try.func42 rfl (code := impl_three_twice_code) rfl rfl impl_three_twice_rs impl_three_twice_e
noncomputable def impl_short_code : Code := (Go.Proofs.Try.f43.body).getD .skip
def impl_short_c : Cfg := ⟨43, [], [], [], [], []⟩
noncomputable def impl_short_s : Spec := ⟨[.v (.pair (.str) (.pair (.str) (.unit))) .fr], ((List UInt8) × ((List UInt8) × Unit)) × Int, fun v => impl_short v.1, fun r => ([.v (.pair (.str) (.pair (.str) (.unit))) .fr r.1, .v (.int .i64) .fr r.2], [])⟩
noncomputable def impl_short_ls : List LSum := []
noncomputable def impl_short_tab : List Row := []
theorem impl_short_t : ∀ r, r ∈ impl_short_tab → RowIs Go.Proofs.Try.prog r := tab_nil
theorem impl_short_rs : RoundsOK (mkCtx Go.K.Link.seat impl_short_c impl_short_tab) (sums impl_short_ls) (loopsOf 0 impl_short_code) impl_short_ls := trivial
theorem impl_short_e : ∀ v, (evFn (mkCtx Go.K.Link.seat impl_short_c impl_short_tab) (sums impl_short_ls) 43 Go.Proofs.Try.f43 (encL impl_short_s.a v)).run = (impl_short_s.gen v).bind fun y => some (impl_short_s.out y) := by
  rintro ⟨s, _⟩
  show _ = (impl_short s).bind fun y : ((List UInt8) × ((List UInt8) × Unit)) × Int => some (impl_short_s.out y)
  simp only [impl_short, kb_ite, kb_some, kb_none, kb_bind, kb_alt]
  kernel_rfl
theorem impl_short_is : FnIs Go.Proofs.Try.prog 43 (modeOf []) (phi [impl_short_s]) := spec_is (c := impl_short_c) seatOK impl_short_t Go.Proofs.Try.func43 rfl (code := impl_short_code) rfl rfl impl_short_rs impl_short_e
noncomputable def impl_three_vote_code : Code := (Go.Proofs.Try.f45.body).getD .skip
def impl_three_vote_c : Cfg := ⟨45, [], [[4, 5, 6, 9, 10], [4, 5, 6], [2, 3]], [], [], []⟩
noncomputable def impl_three_vote_l0_s : LSum := ⟨0, ⟨[(4, .val (.int .i64) .fr), (0, .val (.int .i64) .fr), (0, .val (.int .i64) .fr), (2, .val (.arr 3 (.pair (.str) (.pair (.str) (.unit)))) .fr), (0, .val (.int .i64) .fr)], 22⟩, (.exit 0, ⟨[(4, .val (.int .i64) .fr), (0, .val (.int .i64) .fr), (0, .val (.int .i64) .fr)], 26⟩), [], impl_three_vote_l0⟩
noncomputable def impl_three_vote_s : Spec := ⟨[.v (.arr 3 (.pair (.str) (.pair (.str) (.unit)))) .fr], Int × Int, fun v => impl_three_vote v.1, fun r => ([.v (.int .u8) .fr r.1, .v (.int .i64) .fr r.2], [])⟩
noncomputable def impl_three_vote_ls : List LSum := [impl_three_vote_l0_s]
noncomputable def impl_three_vote_tab : List Row := [⟨57, [], [impl_Sequence_at_s]⟩]
theorem impl_three_vote_t : ∀ r, r ∈ impl_three_vote_tab → RowIs Go.Proofs.Try.prog r := tab_cons (impl_Sequence_at_is) (tab_nil)
theorem impl_three_vote_l0_r : RoundIs (mkCtx Go.K.Link.seat impl_three_vote_c impl_three_vote_tab) (sums impl_three_vote_ls) 0 (bodyAt (loopsOf 0 impl_three_vote_code) 0) impl_three_vote_l0_s := by
  rintro ⟨zeros, ⟨ones, ⟨star, ⟨t9, ⟨t10, _⟩⟩⟩⟩⟩
  show _ = (impl_three_vote_l0 (zeros, (ones, (star, (t9, (t10, ())))))).bind fun r : (Ctl (Int × Int × Int × (List ((List UInt8) × ((List UInt8) × Unit))) × Int × Unit) ((Int × Int × Int × Unit))) => some (ctlVal impl_three_vote_l0_s r)
  simp only [impl_three_vote_l0, kb_ite, kb_some, kb_none, kb_bind, kb_alt]
  kernel_rfl
theorem impl_three_vote_rs : RoundsOK (mkCtx Go.K.Link.seat impl_three_vote_c impl_three_vote_tab) (sums impl_three_vote_ls) (loopsOf 0 impl_three_vote_code) impl_three_vote_ls := ⟨⟨rfl, rfl, impl_three_vote_l0_r⟩, trivial⟩
theorem impl_three_vote_e : ∀ v, (evFn (mkCtx Go.K.Link.seat impl_three_vote_c impl_three_vote_tab) (sums impl_three_vote_ls) 45 Go.Proofs.Try.f45 (encL impl_three_vote_s.a v)).run = (impl_three_vote_s.gen v).bind fun y => some (impl_three_vote_s.out y) := by
  rintro ⟨p, _⟩
  show _ = (impl_three_vote p).bind fun y : Int × Int => some (impl_three_vote_s.out y)
  simp only [impl_three_vote, kb_ite, kb_some, kb_none, kb_bind, kb_alt]
  kernel_rfl
theorem impl_three_vote_is : FnIs Go.Proofs.Try.prog 45 (modeOf []) (phi [impl_three_vote_s]) := spec_is (c := impl_three_vote_c) seatOK impl_three_vote_t Go.Proofs.Try.func45 rfl (code := impl_three_vote_code) rfl rfl impl_three_vote_rs impl_three_vote_e
noncomputable def impl_Sequence_moved_code : Code := (Go.Proofs.Try.f46.body).getD .skip
def impl_Sequence_moved_c : Cfg := ⟨46, [], [[2, 3, 4, 6, 10, 11], [4, 6], [6]], [], [], []⟩
noncomputable def impl_Sequence_moved_l0_s : LSum := ⟨0, ⟨[(2, .val (.int .u8) .fr), (0, .val (.ptr (.pair (.str) (.pair (.str) (.unit)))) (.own .fr)), (0, .val (.ptr (.arr 3 (.pair (.str) (.pair (.str) (.unit))))) (.own .fr)), (1, .val (.ptr (.arr 3 (.pair (.str) (.pair (.str) (.unit))))) (.own .fr)), (3, .val (.arr 3 (.pair (.str) (.pair (.str) (.unit)))) .fr), (0, .val (.int .i64) .fr)], 21⟩, (.exit 0, ⟨[(4, .val (.ptr (.arr 3 (.pair (.str) (.pair (.str) (.unit))))) (.own .fr)), (1, .val (.ptr (.arr 3 (.pair (.str) (.pair (.str) (.unit))))) (.own .fr))], 26⟩), [], impl_Sequence_moved_l0⟩
noncomputable def impl_Sequence_moved_s : Spec := ⟨[.v (.pair (.str) (.pair (.str) (.unit))) .fr, .v (.arr 3 (.pair (.str) (.pair (.str) (.unit)))) .fr, .v (.int .u8) .fr], (List ((List UInt8) × ((List UInt8) × Unit))), fun v => impl_Sequence_moved v.1 v.2.1 v.2.2.1, fun r => ([.v (.arr 3 (.pair (.str) (.pair (.str) (.unit)))) .fr r], [])⟩
noncomputable def impl_Sequence_moved_ls : List LSum := [impl_Sequence_moved_l0_s]
noncomputable def impl_Sequence_moved_tab : List Row := [⟨41, [], [impl_Sequence_shift_s]⟩, ⟨57, [], [impl_Sequence_at_s]⟩]
theorem impl_Sequence_moved_t : ∀ r, r ∈ impl_Sequence_moved_tab → RowIs Go.Proofs.Try.prog r := tab_cons (impl_Sequence_shift_is) (tab_cons (impl_Sequence_at_is) (tab_nil))
theorem impl_Sequence_moved_l0_r : RoundIs (mkCtx Go.K.Link.seat impl_Sequence_moved_c impl_Sequence_moved_tab) (sums impl_Sequence_moved_ls) 0 (bodyAt (loopsOf 0 impl_Sequence_moved_code) 0) impl_Sequence_moved_l0_s := by
  rintro ⟨letter, ⟨v, ⟨p, ⟨t6, ⟨t10, ⟨t11, _⟩⟩⟩⟩⟩⟩
  show _ = (impl_Sequence_moved_l0 (letter, (v, (p, (t6, (t10, (t11, ()))))))).bind fun r : (Ctl (Int × (((List UInt8) × ((List UInt8) × Unit))) × (List ((List UInt8) × ((List UInt8) × Unit))) × (List ((List UInt8) × ((List UInt8) × Unit))) × (List ((List UInt8) × ((List UInt8) × Unit))) × Int × Unit) (((List ((List UInt8) × ((List UInt8) × Unit))) × (List ((List UInt8) × ((List UInt8) × Unit))) × Unit))) => some (ctlVal impl_Sequence_moved_l0_s r)
  simp only [impl_Sequence_moved_l0, kb_ite, kb_some, kb_none, kb_bind, kb_alt]
  kernel_rfl
theorem impl_Sequence_moved_rs : RoundsOK (mkCtx Go.K.Link.seat impl_Sequence_moved_c impl_Sequence_moved_tab) (sums impl_Sequence_moved_ls) (loopsOf 0 impl_Sequence_moved_code) impl_Sequence_moved_ls := ⟨⟨rfl, rfl, impl_Sequence_moved_l0_r⟩, trivial⟩
theorem impl_Sequence_moved_e : ∀ v, (evFn (mkCtx Go.K.Link.seat impl_Sequence_moved_c impl_Sequence_moved_tab) (sums impl_Sequence_moved_ls) 46 Go.Proofs.Try.f46 (encL impl_Sequence_moved_s.a v)).run = (impl_Sequence_moved_s.gen v).bind fun y => some (impl_Sequence_moved_s.out y) := by
  rintro ⟨v, ⟨p, ⟨letter, _⟩⟩⟩
  show _ = (impl_Sequence_moved v p letter).bind fun y : (List ((List UInt8) × ((List UInt8) × Unit))) => some (impl_Sequence_moved_s.out y)
  simp only [impl_Sequence_moved, kb_ite, kb_some, kb_none, kb_bind, kb_alt]
  kernel_rfl
theorem impl_Sequence_moved_is : FnIs Go.Proofs.Try.prog 46 (modeOf []) (phi [impl_Sequence_moved_s]) := spec_is (c := impl_Sequence_moved_c) seatOK impl_Sequence_moved_t Go.Proofs.Try.func46 rfl (code := impl_Sequence_moved_code) rfl rfl impl_Sequence_moved_rs impl_Sequence_moved_e
noncomputable def impl_Sequence_middle_l0_s : LSum := ⟨0, ⟨[(2, .val (.ptr (.pair (.str) (.pair (.str) (.unit)))) (.own .fr)), (0, .val (.ptr (.arr 3 (.pair (.str) (.pair (.str) (.unit))))) (.own .fr)), (0, .val (.ptr (.pair (.str) (.pair (.str) (.unit)))) (.own .fr)), (1, .val (.mp (.arr 3 (.pair (.str) (.pair (.str) (.unit)))) (.int .i64)) (.own .fr)), (0, .val (.str) .fr)], 77⟩, (.ret, ⟨[(4, .val (.ptr (.pair (.str) (.pair (.str) (.unit)))) (.own .fr)), (0, .val (.int .i64) .fr)], 79⟩), [], impl_Sequence_middle_l0⟩
noncomputable def impl_Sequence_middle_s : Spec := ⟨[.v (.pair (.str) (.pair (.str) (.unit))) .fr, .v (.arr 3 (.pair (.str) (.pair (.str) (.unit)))) .fr], ((List UInt8) × ((List UInt8) × Unit)) × Int, fun v => impl_Sequence_middle v.1 v.2.1, fun r => ([.v (.pair (.str) (.pair (.str) (.unit))) .fr r.1, .v (.int .i64) .fr r.2], [])⟩
noncomputable def impl_Sequence_middle_ls : List LSum := [impl_Sequence_middle_l0_s]
noncomputable def impl_Sequence_middle_tab : List Row := [⟨42, [], [impl_three_twice_s]⟩, ⟨43, [], [impl_short_s]⟩, ⟨44, [], [impl_sequence_s]⟩, ⟨45, [], [impl_three_vote_s]⟩, ⟨46, [], [impl_Sequence_moved_s]⟩]
theorem impl_Sequence_middle_t : ∀ r, r ∈ impl_Sequence_middle_tab → RowIs (drI := drZ) Go.Proofs.Try.prog r := tab_cons (drI := drZ) ((weak_is impl_three_twice_is)) (tab_cons (drI := drZ) ((weak_is impl_short_is)) (tab_cons (drI := drZ) (impl_sequence_is) (tab_cons (drI := drZ) ((weak_is impl_three_vote_is)) (tab_cons (drI := drZ) ((weak_is impl_Sequence_moved_is)) (tab_nil (drI := drZ))))))
theorem impl_Sequence_middle_l0_r : RoundIs (mkCtx Go.K.Link.seat impl_Sequence_middle_c impl_Sequence_middle_tab) (sums impl_Sequence_middle_ls) 0 (bodyAt (loopsOf 0 impl_Sequence_middle_code) 0) impl_Sequence_middle_l0_s := by
  rintro ⟨v, ⟨p, ⟨t4, ⟨seen, ⟨word', _⟩⟩⟩⟩⟩
  show _ = (impl_Sequence_middle_l0 (v, (p, (t4, (seen, (word', ())))))).bind fun r : (Ctl ((((List UInt8) × ((List UInt8) × Unit))) × (List ((List UInt8) × ((List UInt8) × Unit))) × (((List UInt8) × ((List UInt8) × Unit))) × (List ((List ((List UInt8) × ((List UInt8) × Unit))) × Int)) × (List UInt8) × Unit) (((((List UInt8) × ((List UInt8) × Unit))) × Int × Unit))) => some (ctlVal impl_Sequence_middle_l0_s r)
  simp only [impl_Sequence_middle_l0, kb_ite, kb_some, kb_none, kb_bind, kb_alt]
  kernel_rfl
theorem impl_Sequence_middle_rs : RoundsOK (mkCtx Go.K.Link.seat impl_Sequence_middle_c impl_Sequence_middle_tab) (sums impl_Sequence_middle_ls) (loopsOf 0 impl_Sequence_middle_code) impl_Sequence_middle_ls := ⟨⟨rfl, rfl, impl_Sequence_middle_l0_r⟩, trivial⟩
theorem impl_Sequence_middle_e : ∀ v, (evFn (mkCtx Go.K.Link.seat impl_Sequence_middle_c impl_Sequence_middle_tab) (sums impl_Sequence_middle_ls) 23 Go.Proofs.Try.f23 (encL impl_Sequence_middle_s.a v)).run = (impl_Sequence_middle_s.gen v).bind fun y => some (impl_Sequence_middle_s.out y) := by
  rintro ⟨v, ⟨p, _⟩⟩
  show _ = (impl_Sequence_middle v p).bind fun y : ((List UInt8) × ((List UInt8) × Unit)) × Int => some (impl_Sequence_middle_s.out y)
  simp only [impl_Sequence_middle, kb_ite, kb_some, kb_none, kb_bind, kb_alt]
  kernel_rfl
theorem impl_Sequence_middle_is : FnIs (drI := drZ) Go.Proofs.Try.prog 23 (modeOf []) (phi [impl_Sequence_middle_s]) := spec_is (drI := drZ) (c := impl_Sequence_middle_c) seatOK impl_Sequence_middle_t Go.Proofs.Try.func23 rfl (code := impl_Sequence_middle_code) rfl rfl impl_Sequence_middle_rs impl_Sequence_middle_e
noncomputable def impl_Sequence_branchPoints_l2_s : LSum := ⟨4, ⟨[(1, .val (.ptr (.pair (.str) (.pair (.str) (.unit)))) (.own .fr)), (2, .val (.sl 28 (.pair (.str) (.pair (.str) (.unit)))) (.own .fr)), (0, .val (.sl 28 (.pair (.str) (.pair (.str) (.unit)))) (.own .fr)), (1, .val (.ptr (.pair (.str) (.pair (.str) (.unit)))) (.own .fr)), (1, .val (.ptr (.pair (.str) (.pair (.str) (.unit)))) (.own .fr)), (6, .sref 4 []), (0, .val (.int .i64) .fr), (0, .val (.int .i64) .fr), (4, .sref 4 []), (1, .win 4 []), (0, .val (.int .i64) .fr), (0, .val (.int .i64) .fr), (4, .sref 4 []), (1, .win 4 []), (0, .val (.int .i64) .fr), (0, .val (.int .i64) .fr)], 39⟩, (.ret, ⟨[(2, .val (.sl 28 (.pair (.str) (.pair (.str) (.unit)))) (.own .fr)), (0, .val (.int .i64) .fr)], 72⟩), [(.exit 4, ⟨[(1, .val (.ptr (.pair (.str) (.pair (.str) (.unit)))) (.own .fr)), (2, .val (.sl 28 (.pair (.str) (.pair (.str) (.unit)))) (.own .fr)), (0, .val (.sl 28 (.pair (.str) (.pair (.str) (.unit)))) (.own .fr)), (1, .val (.ptr (.pair (.str) (.pair (.str) (.unit)))) (.own .fr)), (8, .sref 4 []), (0, .val (.int .i64) .fr), (0, .val (.int .i64) .fr), (4, .sref 4 []), (1, .win 4 []), (0, .val (.int .i64) .fr), (0, .val (.int .i64) .fr)], 48⟩)], impl_Sequence_branchPoints_l2⟩
noncomputable def impl_Sequence_branchPoints_l1_s : LSum := ⟨2, ⟨[(1, .val (.ptr (.pair (.str) (.pair (.str) (.unit)))) (.own .fr)), (2, .val (.sl 28 (.pair (.str) (.pair (.str) (.unit)))) (.own .fr)), (0, .val (.sl 28 (.pair (.str) (.pair (.str) (.unit)))) (.own .fr)), (1, .val (.ptr (.pair (.str) (.pair (.str) (.unit)))) (.own .fr)), (8, .sref 4 []), (0, .val (.int .i64) .fr), (0, .val (.int .i64) .fr), (4, .sref 4 []), (1, .win 4 []), (0, .val (.int .i64) .fr), (0, .val (.int .i64) .fr)], 48⟩, (.ret, ⟨[(2, .val (.sl 28 (.pair (.str) (.pair (.str) (.unit)))) (.own .fr)), (0, .val (.int .i64) .fr)], 72⟩), [(.exit 2, ⟨[(1, .val (.ptr (.pair (.str) (.pair (.str) (.unit)))) (.own .fr)), (2, .val (.sl 28 (.pair (.str) (.pair (.str) (.unit)))) (.own .fr)), (0, .val (.sl 28 (.pair (.str) (.pair (.str) (.unit)))) (.own .fr)), (10, .sref 4 []), (0, .val (.int .i64) .fr), (0, .val (.int .i64) .fr)], 57⟩)], impl_Sequence_branchPoints_l1⟩
noncomputable def impl_Sequence_branchPoints_l0_s : LSum := ⟨0, ⟨[(1, .val (.ptr (.pair (.str) (.pair (.str) (.unit)))) (.own .fr)), (2, .val (.sl 28 (.pair (.str) (.pair (.str) (.unit)))) (.own .fr)), (0, .val (.sl 28 (.pair (.str) (.pair (.str) (.unit)))) (.own .fr)), (10, .sref 4 []), (0, .val (.int .i64) .fr), (0, .val (.int .i64) .fr)], 57⟩, (.ret, ⟨[(2, .val (.sl 28 (.pair (.str) (.pair (.str) (.unit)))) (.own .fr)), (0, .val (.int .i64) .fr)], 72⟩), [(.exit 0, ⟨[(5, .val (.sl 28 (.pair (.str) (.pair (.str) (.unit)))) (.own .fr))], 70⟩)], impl_Sequence_branchPoints_l0⟩
noncomputable def impl_Sequence_branchPoints_f1_code : Code := (Go.Proofs.Try.f25.body).getD .skip
def impl_Sequence_branchPoints_f1_c : Cfg := ⟨25, [], [], [], [], []⟩
noncomputable def impl_Sequence_text_code : Code := (Go.Proofs.Try.f27.body).getD .skip
def impl_Sequence_text_c : Cfg := ⟨27, [], [], [], [], []⟩
noncomputable def impl_Sequence_text_s : Spec := ⟨[.v (.pair (.str) (.pair (.str) (.unit))) .fr], (List UInt8), fun v => impl_Sequence_text v.1, fun r => ([.v (.str) .fr r], [])⟩
noncomputable def impl_Sequence_text_ls : List LSum := []
noncomputable def impl_Sequence_text_tab : List Row := []
theorem impl_Sequence_text_t : ∀ r, r ∈ impl_Sequence_text_tab → RowIs Go.Proofs.Try.prog r := tab_nil
theorem impl_Sequence_text_rs : RoundsOK (mkCtx Go.K.Link.seat impl_Sequence_text_c impl_Sequence_text_tab) (sums impl_Sequence_text_ls) (loopsOf 0 impl_Sequence_text_code) impl_Sequence_text_ls := trivial
theorem impl_Sequence_text_e : ∀ v, (evFn (mkCtx Go.K.Link.seat impl_Sequence_text_c impl_Sequence_text_tab) (sums impl_Sequence_text_ls) 27 Go.Proofs.Try.f27 (encL impl_Sequence_text_s.a v)).run = (impl_Sequence_text_s.gen v).bind fun y => some (impl_Sequence_text_s.out y) := by
  rintro ⟨s, _⟩
  show _ = (impl_Sequence_text s).bind fun y : (List UInt8) => some (impl_Sequence_text_s.out y)
  simp only [impl_Sequence_text, kb_ite, kb_some, kb_none, kb_bind, kb_alt]
  kernel_rfl
theorem impl_Sequence_text_is : FnIs Go.Proofs.Try.prog 27 (modeOf []) (phi [impl_Sequence_text_s]) := spec_is (c := impl_Sequence_text_c) seatOK impl_Sequence_text_t Go.Proofs.Try.func27 rfl (code := impl_Sequence_text_code) rfl rfl impl_Sequence_text_rs impl_Sequence_text_e
noncomputable def strings_Compare_s : Spec := ⟨[.v (.str) .fr, .v (.str) .fr], Int, fun v => strings_Compare v.1 v.2.1, fun r => ([.v (.int .i64) .fr r], [])⟩
theorem strings_Compare_is : FnIs Go.Proofs.Try.prog 26 (modeOf []) (phi [strings_Compare_s]) := cmp_is Go.Proofs.Try.cmpL ⟨_, Go.Proofs.Try.func26, rfl, rfl⟩
noncomputable def impl_Sequence_branchPoints_f1_s : Spec := ⟨[.v (.pair (.str) (.pair (.str) (.unit))) .fr, .v (.pair (.str) (.pair (.str) (.unit))) .fr], Int, fun v => impl_Sequence_branchPoints_f1 v.1 v.2.1, fun r => ([.v (.int .i64) .fr r], [])⟩
noncomputable def impl_Sequence_branchPoints_f1_ls : List LSum := []
noncomputable def impl_Sequence_branchPoints_f1_tab : List Row := [⟨26, [], [strings_Compare_s]⟩, ⟨27, [], [impl_Sequence_text_s]⟩]
theorem impl_Sequence_branchPoints_f1_t : ∀ r, r ∈ impl_Sequence_branchPoints_f1_tab → RowIs Go.Proofs.Try.prog r := tab_cons (strings_Compare_is) (tab_cons (impl_Sequence_text_is) (tab_nil))
theorem impl_Sequence_branchPoints_f1_rs : RoundsOK (mkCtx Go.K.Link.seat impl_Sequence_branchPoints_f1_c impl_Sequence_branchPoints_f1_tab) (sums impl_Sequence_branchPoints_f1_ls) (loopsOf 0 impl_Sequence_branchPoints_f1_code) impl_Sequence_branchPoints_f1_ls := trivial
theorem impl_Sequence_branchPoints_f1_e : ∀ v, (evFn (mkCtx Go.K.Link.seat impl_Sequence_branchPoints_f1_c impl_Sequence_branchPoints_f1_tab) (sums impl_Sequence_branchPoints_f1_ls) 25 Go.Proofs.Try.f25 (encL impl_Sequence_branchPoints_f1_s.a v)).run = (impl_Sequence_branchPoints_f1_s.gen v).bind fun y => some (impl_Sequence_branchPoints_f1_s.out y) := by
  rintro ⟨s, ⟨t, _⟩⟩
  show _ = (impl_Sequence_branchPoints_f1 s t).bind fun y : Int => some (impl_Sequence_branchPoints_f1_s.out y)
  simp only [impl_Sequence_branchPoints_f1, kb_ite, kb_some, kb_none, kb_bind, kb_alt]
  kernel_rfl
theorem impl_Sequence_branchPoints_f1_is : FnIs Go.Proofs.Try.prog 25 (modeOf []) (phi [impl_Sequence_branchPoints_f1_s]) := spec_is (c := impl_Sequence_branchPoints_f1_c) seatOK impl_Sequence_branchPoints_f1_t Go.Proofs.Try.func25 rfl (code := impl_Sequence_branchPoints_f1_code) rfl rfl impl_Sequence_branchPoints_f1_rs impl_Sequence_branchPoints_f1_e
noncomputable def slices_SortFunc__impl_Sequence_impl_Sequence_s : Spec := ⟨[.v (.sl 28 (.pair (.str) (.pair (.str) (.unit)))) (.own .fr), .fn 25 [] []], List ((List UInt8) × ((List UInt8) × Unit)), fun v => slices_SortFunc__impl_Sequence_impl_Sequence v.1, fun r => ([], [.v (.sl 28 (.pair (.str) (.pair (.str) (.unit)))) (.own .fr) r])⟩
theorem slices_SortFunc__impl_Sequence_impl_Sequence_is : FnIs Go.Proofs.Try.prog 24 (modeOf [.mut]) (phi [slices_SortFunc__impl_Sequence_impl_Sequence_s]) := sortFunc_is (cs := []) (cf := fun c x y => impl_Sequence_branchPoints_f1 x y ) Go.Proofs.Try.sortL24 ⟨_, Go.Proofs.Try.func24, rfl, rfl⟩ (T := 28) (e := (.pair (.str) (.pair (.str) (.unit)))) rfl rfl Go.Proofs.Try.isAgg28 Go.Proofs.Try.sizeOf28 impl_Sequence_branchPoints_f1_is (fun c x y r h => by
  have e : (phi [impl_Sequence_branchPoints_f1_s] (.v (.pair (.str) (.pair (.str) (.unit))) .fr x :: .v (.pair (.str) (.pair (.str) (.unit))) .fr y :: encL [] c)).run = (impl_Sequence_branchPoints_f1 x y ).bind fun r => some ([.v (.int .i64) .fr r], []) := by kernel_rfl
  rw [e]
  show (impl_Sequence_branchPoints_f1 x y ).bind _ = _
  rw [show impl_Sequence_branchPoints_f1 x y  = some r from h]
  rfl)
noncomputable def slices_Compact__impl_Sequence_impl_Sequence_code : Code := (Go.Proofs.Try.f28.body).getD .skip
def slices_Compact__impl_Sequence_impl_Sequence_c : Cfg := ⟨28, [.own], [[0, 3, 9, 57, 59, 60], [0, 9, 57, 59], [0, 2, 9, 57, 59, 60], [], [], [], [0, 3, 4, 5, 9, 26, 28, 60], [0, 3, 9, 60], [0, 2, 9, 57, 59, 60]], [], [], []⟩
noncomputable def slices_Compact__impl_Sequence_impl_Sequence_l1_s : LSum := ⟨2, ⟨[(0, .val (.sl 28 (.pair (.str) (.pair (.str) (.unit)))) (.own .fr)), (2, .val (.int .i64) .fr), (0, .win 0 []), (0, .val (.int .i64) .fr), (20, .sref 0 []), (1, .win 0 [])], 32⟩, (.exit 2, ⟨[(0, .val (.sl 28 (.pair (.str) (.pair (.str) (.unit)))) (.own .fr)), (2, .val (.int .i64) .fr)], 57⟩), [], slices_Compact__impl_Sequence_impl_Sequence_l1⟩
noncomputable def slices_Compact__impl_Sequence_impl_Sequence_l0_s : LSum := ⟨0, ⟨[(0, .val (.sl 28 (.pair (.str) (.pair (.str) (.unit)))) (.own .fr)), (2, .val (.int .i64) .fr)], 57⟩, (.ret, ⟨[(0, .val (.sl 28 (.pair (.str) (.pair (.str) (.unit)))) (.own .fr)), (1, .win 0 []), (54, .sref 0 []), (1, .win 0 [])], 1⟩), [(.exit 0, ⟨[(0, .val (.sl 28 (.pair (.str) (.pair (.str) (.unit)))) (.own .fr))], 60⟩)], slices_Compact__impl_Sequence_impl_Sequence_l0⟩
noncomputable def slices_Compact__impl_Sequence_impl_Sequence_s : Spec := ⟨[.v (.sl 28 (.pair (.str) (.pair (.str) (.unit)))) (.own .fr)], (List ((List UInt8) × ((List UInt8) × Unit))), fun v => slices_Compact__impl_Sequence_impl_Sequence v.1, fun r => ([.v (.sl 28 (.pair (.str) (.pair (.str) (.unit)))) (.own .fr) r], [])⟩
noncomputable def slices_Compact__impl_Sequence_impl_Sequence_ls : List LSum := [slices_Compact__impl_Sequence_impl_Sequence_l0_s, slices_Compact__impl_Sequence_impl_Sequence_l1_s]
noncomputable def slices_Compact__impl_Sequence_impl_Sequence_tab : List Row := []
theorem slices_Compact__impl_Sequence_impl_Sequence_t : ∀ r, r ∈ slices_Compact__impl_Sequence_impl_Sequence_tab → RowIs Go.Proofs.Try.prog r := tab_nil
theorem slices_Compact__impl_Sequence_impl_Sequence_l0_r : RoundIs (mkCtx Go.K.Link.seat slices_Compact__impl_Sequence_impl_Sequence_c slices_Compact__impl_Sequence_impl_Sequence_tab) (sums slices_Compact__impl_Sequence_impl_Sequence_ls) 0 (bodyAt (loopsOf 0 slices_Compact__impl_Sequence_impl_Sequence_code) 0) slices_Compact__impl_Sequence_impl_Sequence_l0_s := by
  rintro ⟨s, ⟨k, _⟩⟩
  show _ = (slices_Compact__impl_Sequence_impl_Sequence_l0 (s, (k, ()))).bind fun r : (Ctl ((List ((List UInt8) × ((List UInt8) × Unit))) × Int × Unit) (((List ((List UInt8) × ((List UInt8) × Unit))) × Nat × Nat × Nat × Nat × Unit) ⊕ ((List ((List UInt8) × ((List UInt8) × Unit))) × Unit))) => some (ctlVal slices_Compact__impl_Sequence_impl_Sequence_l0_s r)
  simp only [slices_Compact__impl_Sequence_impl_Sequence_l0, kb_ite, kb_some, kb_none, kb_bind, kb_alt]
  kernel_rfl
theorem slices_Compact__impl_Sequence_impl_Sequence_l1_r : RoundIs (mkCtx Go.K.Link.seat slices_Compact__impl_Sequence_impl_Sequence_c slices_Compact__impl_Sequence_impl_Sequence_tab) (sums slices_Compact__impl_Sequence_impl_Sequence_ls) 2 (bodyAt (loopsOf 0 slices_Compact__impl_Sequence_impl_Sequence_code) 1) slices_Compact__impl_Sequence_impl_Sequence_l1_s := by
  rintro ⟨s, ⟨k, ⟨s2_0, s2_1, ⟨k2, ⟨t28_0, t28_1, _⟩⟩⟩⟩⟩
  show _ = (slices_Compact__impl_Sequence_impl_Sequence_l1 (s, (k, (s2_0, s2_1, (k2, (t28_0, t28_1, ())))))).bind fun r : (Ctl ((List ((List UInt8) × ((List UInt8) × Unit))) × Int × Nat × Nat × Int × Nat × Nat × Unit) (((List ((List UInt8) × ((List UInt8) × Unit))) × Int × Unit))) => some (ctlVal slices_Compact__impl_Sequence_impl_Sequence_l1_s r)
  simp only [slices_Compact__impl_Sequence_impl_Sequence_l1, kb_ite, kb_some, kb_none, kb_bind, kb_alt]
  kernel_rfl
theorem slices_Compact__impl_Sequence_impl_Sequence_rs : RoundsOK (mkCtx Go.K.Link.seat slices_Compact__impl_Sequence_impl_Sequence_c slices_Compact__impl_Sequence_impl_Sequence_tab) (sums slices_Compact__impl_Sequence_impl_Sequence_ls) (loopsOf 0 slices_Compact__impl_Sequence_impl_Sequence_code) slices_Compact__impl_Sequence_impl_Sequence_ls := ⟨⟨rfl, rfl, slices_Compact__impl_Sequence_impl_Sequence_l0_r⟩, ⟨⟨rfl, rfl, slices_Compact__impl_Sequence_impl_Sequence_l1_r⟩, trivial⟩⟩
theorem slices_Compact__impl_Sequence_impl_Sequence_e : ∀ v, (evFn (mkCtx Go.K.Link.seat slices_Compact__impl_Sequence_impl_Sequence_c slices_Compact__impl_Sequence_impl_Sequence_tab) (sums slices_Compact__impl_Sequence_impl_Sequence_ls) 28 Go.Proofs.Try.f28 (encL slices_Compact__impl_Sequence_impl_Sequence_s.a v)).run = (slices_Compact__impl_Sequence_impl_Sequence_s.gen v).bind fun y => some (slices_Compact__impl_Sequence_impl_Sequence_s.out y) := by
  rintro ⟨s, _⟩
  show _ = (slices_Compact__impl_Sequence_impl_Sequence s).bind fun y : (List ((List UInt8) × ((List UInt8) × Unit))) => some (slices_Compact__impl_Sequence_impl_Sequence_s.out y)
  simp only [slices_Compact__impl_Sequence_impl_Sequence, kb_ite, kb_some, kb_none, kb_bind, kb_alt]
  kernel_rfl
theorem slices_Compact__impl_Sequence_impl_Sequence_is : FnIs Go.Proofs.Try.prog 28 (modeOf [.own]) (phi [slices_Compact__impl_Sequence_impl_Sequence_s]) := spec_is (c := slices_Compact__impl_Sequence_impl_Sequence_c) seatOK slices_Compact__impl_Sequence_impl_Sequence_t Go.Proofs.Try.func28 rfl (code := slices_Compact__impl_Sequence_impl_Sequence_code) rfl rfl slices_Compact__impl_Sequence_impl_Sequence_rs slices_Compact__impl_Sequence_impl_Sequence_e
noncomputable def impl_Sequence_branchPoints_s : Spec := ⟨[.v (.pair (.str) (.pair (.str) (.unit))) .fr], (List ((List UInt8) × ((List UInt8) × Unit))) × Int, fun v => impl_Sequence_branchPoints v.1, fun r => ([.v (.sl 28 (.pair (.str) (.pair (.str) (.unit)))) (.own .fr) r.1, .v (.int .i64) .fr r.2], [])⟩
noncomputable def impl_Sequence_branchPoints_ls : List LSum := [impl_Sequence_branchPoints_l0_s, impl_Sequence_branchPoints_l1_s, impl_Sequence_branchPoints_l2_s]
noncomputable def impl_Sequence_branchPoints_tab : List Row := [⟨22, [], [impl_Sequence_orbitPoints_s]⟩, ⟨23, [], [impl_Sequence_middle_s]⟩, ⟨24, [.mut], [slices_SortFunc__impl_Sequence_impl_Sequence_s]⟩, ⟨28, [.own], [slices_Compact__impl_Sequence_impl_Sequence_s]⟩]
theorem impl_Sequence_branchPoints_t : ∀ r, r ∈ impl_Sequence_branchPoints_tab → RowIs (drI := drZ) Go.Proofs.Try.prog r := tab_cons (drI := drZ) ((weak_is impl_Sequence_orbitPoints_is)) (tab_cons (drI := drZ) (impl_Sequence_middle_is) (tab_cons (drI := drZ) ((weak_is slices_SortFunc__impl_Sequence_impl_Sequence_is)) (tab_cons (drI := drZ) ((weak_is slices_Compact__impl_Sequence_impl_Sequence_is)) (tab_nil (drI := drZ)))))
theorem impl_Sequence_branchPoints_l0_r : RoundIs (mkCtx Go.K.Link.seat impl_Sequence_branchPoints_c impl_Sequence_branchPoints_tab) (sums impl_Sequence_branchPoints_ls) 0 (bodyAt (loopsOf 0 impl_Sequence_branchPoints_code) 0) impl_Sequence_branchPoints_l0_s := by
  rintro ⟨v, ⟨points, ⟨out, ⟨t17, ⟨t18, _⟩⟩⟩⟩⟩
  show _ = (impl_Sequence_branchPoints_l0 (v, (points, (out, (t17, (t18, ())))))).bind fun r : (Ctl ((((List UInt8) × ((List UInt8) × Unit))) × (List ((List UInt8) × ((List UInt8) × Unit))) × (List ((List UInt8) × ((List UInt8) × Unit))) × Int × Int × Unit) (((List ((List UInt8) × ((List UInt8) × Unit))) × Int × Unit) ⊕ ((List ((List UInt8) × ((List UInt8) × Unit))) × Unit))) => some (ctlVal impl_Sequence_branchPoints_l0_s r)
  simp only [impl_Sequence_branchPoints_l0, kb_ite, kb_some, kb_none, kb_bind, kb_alt]
  kernel_rfl
theorem impl_Sequence_branchPoints_l1_r : RoundIs (mkCtx Go.K.Link.seat impl_Sequence_branchPoints_c impl_Sequence_branchPoints_tab) (sums impl_Sequence_branchPoints_ls) 2 (bodyAt (loopsOf 0 impl_Sequence_branchPoints_code) 1) impl_Sequence_branchPoints_l1_s := by
  rintro ⟨v, ⟨points, ⟨out, ⟨s, ⟨t17, ⟨t18, ⟨t25_0, t25_1, ⟨t26, ⟨t27, _⟩⟩⟩⟩⟩⟩⟩⟩⟩
  show _ = (impl_Sequence_branchPoints_l1 (v, (points, (out, (s, (t17, (t18, (t25_0, t25_1, (t26, (t27, ())))))))))).bind fun r : (Ctl ((((List UInt8) × ((List UInt8) × Unit))) × (List ((List UInt8) × ((List UInt8) × Unit))) × (List ((List UInt8) × ((List UInt8) × Unit))) × (((List UInt8) × ((List UInt8) × Unit))) × Int × Int × Nat × Nat × Int × Int × Unit) (((List ((List UInt8) × ((List UInt8) × Unit))) × Int × Unit) ⊕ ((((List UInt8) × ((List UInt8) × Unit))) × (List ((List UInt8) × ((List UInt8) × Unit))) × (List ((List UInt8) × ((List UInt8) × Unit))) × Int × Int × Unit))) => some (ctlVal impl_Sequence_branchPoints_l1_s r)
  simp only [impl_Sequence_branchPoints_l1, kb_ite, kb_some, kb_none, kb_bind, kb_alt]
  kernel_rfl
theorem impl_Sequence_branchPoints_l2_r : RoundIs (mkCtx Go.K.Link.seat impl_Sequence_branchPoints_c impl_Sequence_branchPoints_tab) (sums impl_Sequence_branchPoints_ls) 4 (bodyAt (loopsOf 0 impl_Sequence_branchPoints_code) 2) impl_Sequence_branchPoints_l2_s := by
  rintro ⟨v, ⟨points, ⟨out, ⟨s, ⟨t, ⟨t17, ⟨t18, ⟨t25_0, t25_1, ⟨t26, ⟨t27, ⟨t34_0, t34_1, ⟨t35, ⟨t36, _⟩⟩⟩⟩⟩⟩⟩⟩⟩⟩⟩⟩⟩
  show _ = (impl_Sequence_branchPoints_l2 (v, (points, (out, (s, (t, (t17, (t18, (t25_0, t25_1, (t26, (t27, (t34_0, t34_1, (t35, (t36, ())))))))))))))).bind fun r : (Ctl ((((List UInt8) × ((List UInt8) × Unit))) × (List ((List UInt8) × ((List UInt8) × Unit))) × (List ((List UInt8) × ((List UInt8) × Unit))) × (((List UInt8) × ((List UInt8) × Unit))) × (((List UInt8) × ((List UInt8) × Unit))) × Int × Int × Nat × Nat × Int × Int × Nat × Nat × Int × Int × Unit) (((List ((List UInt8) × ((List UInt8) × Unit))) × Int × Unit) ⊕ ((((List UInt8) × ((List UInt8) × Unit))) × (List ((List UInt8) × ((List UInt8) × Unit))) × (List ((List UInt8) × ((List UInt8) × Unit))) × (((List UInt8) × ((List UInt8) × Unit))) × Int × Int × Nat × Nat × Int × Int × Unit))) => some (ctlVal impl_Sequence_branchPoints_l2_s r)
  simp only [impl_Sequence_branchPoints_l2, kb_ite, kb_some, kb_none, kb_bind, kb_alt]
  kernel_rfl
theorem impl_Sequence_branchPoints_rs : RoundsOK (mkCtx Go.K.Link.seat impl_Sequence_branchPoints_c impl_Sequence_branchPoints_tab) (sums impl_Sequence_branchPoints_ls) (loopsOf 0 impl_Sequence_branchPoints_code) impl_Sequence_branchPoints_ls := ⟨⟨rfl, rfl, impl_Sequence_branchPoints_l0_r⟩, ⟨⟨rfl, rfl, impl_Sequence_branchPoints_l1_r⟩, ⟨⟨rfl, rfl, impl_Sequence_branchPoints_l2_r⟩, trivial⟩⟩⟩
theorem impl_Sequence_branchPoints_e : ∀ v, (evFn (mkCtx Go.K.Link.seat impl_Sequence_branchPoints_c impl_Sequence_branchPoints_tab) (sums impl_Sequence_branchPoints_ls) 14 Go.Proofs.Try.f14 (encL impl_Sequence_branchPoints_s.a v)).run = (impl_Sequence_branchPoints_s.gen v).bind fun y => some (impl_Sequence_branchPoints_s.out y) := by
  rintro ⟨v, _⟩
  show _ = (impl_Sequence_branchPoints v).bind fun y : (List ((List UInt8) × ((List UInt8) × Unit))) × Int => some (impl_Sequence_branchPoints_s.out y)
  simp only [impl_Sequence_branchPoints, kb_ite, kb_some, kb_none, kb_bind, kb_alt]
  kernel_rfl
theorem impl_Sequence_branchPoints_is : FnIs (drI := drZ) Go.Proofs.Try.prog 14 (modeOf []) (phi [impl_Sequence_branchPoints_s]) := spec_is (drI := drZ) (c := impl_Sequence_branchPoints_c) seatOK impl_Sequence_branchPoints_t Go.Proofs.Try.func14 rfl (code := impl_Sequence_branchPoints_code) rfl rfl impl_Sequence_branchPoints_rs impl_Sequence_branchPoints_e
noncomputable def impl_BranchPoints_s : Spec := ⟨[.v (.pair (.str) (.pair (.str) (.unit))) .fr], (List ((List UInt8) × ((List UInt8) × Unit))) × Int, fun v => impl_BranchPoints v.1, fun r => ([.v (.sl 28 (.pair (.str) (.pair (.str) (.unit)))) (.own .fr) r.1, .v (.int .i64) .fr r.2], [])⟩
noncomputable def impl_BranchPoints_ls : List LSum := []
noncomputable def impl_BranchPoints_tab : List Row := [⟨13, [], [impl_treeCode_s]⟩, ⟨14, [], [impl_Sequence_branchPoints_s]⟩]
theorem impl_BranchPoints_t : ∀ r, r ∈ impl_BranchPoints_tab → RowIs (drI := drZ) Go.Proofs.Try.prog r := tab_cons (drI := drZ) (impl_treeCode_is) (tab_cons (drI := drZ) (impl_Sequence_branchPoints_is) (tab_nil (drI := drZ)))
theorem impl_BranchPoints_rs : RoundsOK (mkCtx Go.K.Link.seat impl_BranchPoints_c impl_BranchPoints_tab) (sums impl_BranchPoints_ls) (loopsOf 0 impl_BranchPoints_code) impl_BranchPoints_ls := trivial
theorem impl_BranchPoints_e : ∀ v, (evFn (mkCtx Go.K.Link.seat impl_BranchPoints_c impl_BranchPoints_tab) (sums impl_BranchPoints_ls) 7 Go.Proofs.Try.f7 (encL impl_BranchPoints_s.a v)).run = (impl_BranchPoints_s.gen v).bind fun y => some (impl_BranchPoints_s.out y) := by
  rintro ⟨v, _⟩
  show _ = (impl_BranchPoints v).bind fun y : (List ((List UInt8) × ((List UInt8) × Unit))) × Int => some (impl_BranchPoints_s.out y)
  simp only [impl_BranchPoints, kb_ite, kb_some, kb_none, kb_bind, kb_alt]
  kernel_rfl
theorem impl_BranchPoints_is : FnIs (drI := drZ) Go.Proofs.Try.prog 7 (modeOf []) (phi [impl_BranchPoints_s]) := spec_is (drI := drZ) (c := impl_BranchPoints_c) seatOK impl_BranchPoints_t Go.Proofs.Try.func7 rfl (code := impl_BranchPoints_code) rfl rfl impl_BranchPoints_rs impl_BranchPoints_e
noncomputable def laws_eqSequenceS_code : Code := (Go.Proofs.Try.f8.body).getD .skip
def laws_eqSequenceS_c : Cfg := ⟨8, [], [[0, 1, 5], [], [4]], [], [], []⟩
noncomputable def laws_eqSequence_code : Code := (Go.Proofs.Try.f15.body).getD .skip
def laws_eqSequence_c : Cfg := ⟨15, [], [], [], [], []⟩
noncomputable def laws_eqSequence_s : Spec := ⟨[.v (.pair (.str) (.pair (.str) (.unit))) .fr, .v (.pair (.str) (.pair (.str) (.unit))) .fr], Bool, fun v => laws_eqSequence v.1 v.2.1, fun r => ([.v (.bool) .fr r], [])⟩
noncomputable def laws_eqSequence_ls : List LSum := []
noncomputable def laws_eqSequence_tab : List Row := []
theorem laws_eqSequence_t : ∀ r, r ∈ laws_eqSequence_tab → RowIs Go.Proofs.Try.prog r := tab_nil
theorem laws_eqSequence_rs : RoundsOK (mkCtx Go.K.Link.seat laws_eqSequence_c laws_eqSequence_tab) (sums laws_eqSequence_ls) (loopsOf 0 laws_eqSequence_code) laws_eqSequence_ls := trivial
theorem laws_eqSequence_e : ∀ v, (evFn (mkCtx Go.K.Link.seat laws_eqSequence_c laws_eqSequence_tab) (sums laws_eqSequence_ls) 15 Go.Proofs.Try.f15 (encL laws_eqSequence_s.a v)).run = (laws_eqSequence_s.gen v).bind fun y => some (laws_eqSequence_s.out y) := by
  rintro ⟨a, ⟨b, _⟩⟩
  show _ = (laws_eqSequence a b).bind fun y : Bool => some (laws_eqSequence_s.out y)
  simp only [laws_eqSequence, kb_ite, kb_some, kb_none, kb_bind, kb_alt]
  kernel_rfl
theorem laws_eqSequence_is : FnIs Go.Proofs.Try.prog 15 (modeOf []) (phi [laws_eqSequence_s]) := spec_is (c := laws_eqSequence_c) seatOK laws_eqSequence_t Go.Proofs.Try.func15 rfl (code := laws_eqSequence_code) rfl rfl laws_eqSequence_rs laws_eqSequence_e
noncomputable def laws_eqSequenceS_l0_s : LSum := ⟨0, ⟨[(0, .val (.sl 28 (.pair (.str) (.pair (.str) (.unit)))) .fr), (0, .val (.sl 28 (.pair (.str) (.pair (.str) (.unit)))) .fr), (3, .val (.int .i64) .fr)], 21⟩, (.ret, ⟨[(4, .val (.bool) .fr)], 22⟩), [(.exit 0, ⟨[], 27⟩)], laws_eqSequenceS_l0⟩
noncomputable def laws_eqSequenceS_s : Spec := ⟨[.v (.sl 28 (.pair (.str) (.pair (.str) (.unit)))) .fr, .v (.sl 28 (.pair (.str) (.pair (.str) (.unit)))) .fr], Bool, fun v => laws_eqSequenceS v.1 v.2.1, fun r => ([.v (.bool) .fr r], [])⟩
noncomputable def laws_eqSequenceS_ls : List LSum := [laws_eqSequenceS_l0_s]
noncomputable def laws_eqSequenceS_tab : List Row := [⟨15, [], [laws_eqSequence_s]⟩]
theorem laws_eqSequenceS_t : ∀ r, r ∈ laws_eqSequenceS_tab → RowIs Go.Proofs.Try.prog r := tab_cons (laws_eqSequence_is) (tab_nil)
theorem laws_eqSequenceS_l0_r : RoundIs (mkCtx Go.K.Link.seat laws_eqSequenceS_c laws_eqSequenceS_tab) (sums laws_eqSequenceS_ls) 0 (bodyAt (loopsOf 0 laws_eqSequenceS_code) 0) laws_eqSequenceS_l0_s := by
  rintro ⟨a, ⟨b, ⟨i, _⟩⟩⟩
  show _ = (laws_eqSequenceS_l0 (a, (b, (i, ())))).bind fun r : (Ctl ((List ((List UInt8) × ((List UInt8) × Unit))) × (List ((List UInt8) × ((List UInt8) × Unit))) × Int × Unit) ((Bool × Unit) ⊕ (Unit))) => some (ctlVal laws_eqSequenceS_l0_s r)
  simp only [laws_eqSequenceS_l0, kb_ite, kb_some, kb_none, kb_bind, kb_alt]
  kernel_rfl
theorem laws_eqSequenceS_rs : RoundsOK (mkCtx Go.K.Link.seat laws_eqSequenceS_c laws_eqSequenceS_tab) (sums laws_eqSequenceS_ls) (loopsOf 0 laws_eqSequenceS_code) laws_eqSequenceS_ls := ⟨⟨rfl, rfl, laws_eqSequenceS_l0_r⟩, trivial⟩
theorem laws_eqSequenceS_e : ∀ v, (evFn (mkCtx Go.K.Link.seat laws_eqSequenceS_c laws_eqSequenceS_tab) (sums laws_eqSequenceS_ls) 8 Go.Proofs.Try.f8 (encL laws_eqSequenceS_s.a v)).run = (laws_eqSequenceS_s.gen v).bind fun y => some (laws_eqSequenceS_s.out y) := by
  rintro ⟨a, ⟨b, _⟩⟩
  show _ = (laws_eqSequenceS a b).bind fun y : Bool => some (laws_eqSequenceS_s.out y)
  simp only [laws_eqSequenceS, kb_ite, kb_some, kb_none, kb_bind, kb_alt]
  kernel_rfl
theorem laws_eqSequenceS_is : FnIs Go.Proofs.Try.prog 8 (modeOf []) (phi [laws_eqSequenceS_s]) := spec_is (c := laws_eqSequenceS_c) seatOK laws_eqSequenceS_t Go.Proofs.Try.func8 rfl (code := laws_eqSequenceS_code) rfl rfl laws_eqSequenceS_rs laws_eqSequenceS_e
noncomputable def laws_markSequenceS_code : Code := (Go.Proofs.Try.f9.body).getD .skip
def laws_markSequenceS_c : Cfg := ⟨9, [.mut], [[0, 1, 5], [0, 1], [0, 4]], [], [], []⟩
noncomputable def laws_markText_code : Code := (Go.Proofs.Try.f16.body).getD .skip
def laws_markText_c : Cfg := ⟨16, [], [[0, 3], [3], [2]], [], [], []⟩
noncomputable def laws_markText_l0_s : LSum := ⟨0, ⟨[(0, .val (.int .i64) .fr), (2, .val (.str) .fr)], 16⟩, (.exit 0, ⟨[(3, .val (.str) .fr)], 16⟩), [], laws_markText_l0⟩
noncomputable def laws_markText_s : Spec := ⟨[.v (.int .i64) .fr], (List UInt8), fun v => laws_markText v.1, fun r => ([.v (.str) .fr r], [])⟩
noncomputable def laws_markText_ls : List LSum := [laws_markText_l0_s]
noncomputable def laws_markText_tab : List Row := []
theorem laws_markText_t : ∀ r, r ∈ laws_markText_tab → RowIs Go.Proofs.Try.prog r := tab_nil
theorem laws_markText_l0_r : RoundIs (mkCtx Go.K.Link.seat laws_markText_c laws_markText_tab) (sums laws_markText_ls) 0 (bodyAt (loopsOf 0 laws_markText_code) 0) laws_markText_l0_s := by
  rintro ⟨k, ⟨out, _⟩⟩
  show _ = (laws_markText_l0 (k, (out, ()))).bind fun r : (Ctl (Int × (List UInt8) × Unit) (((List UInt8) × Unit))) => some (ctlVal laws_markText_l0_s r)
  simp only [laws_markText_l0, kb_ite, kb_some, kb_none, kb_bind, kb_alt]
  kernel_rfl
theorem laws_markText_rs : RoundsOK (mkCtx Go.K.Link.seat laws_markText_c laws_markText_tab) (sums laws_markText_ls) (loopsOf 0 laws_markText_code) laws_markText_ls := ⟨⟨rfl, rfl, laws_markText_l0_r⟩, trivial⟩
theorem laws_markText_e : ∀ v, (evFn (mkCtx Go.K.Link.seat laws_markText_c laws_markText_tab) (sums laws_markText_ls) 16 Go.Proofs.Try.f16 (encL laws_markText_s.a v)).run = (laws_markText_s.gen v).bind fun y => some (laws_markText_s.out y) := by
  rintro ⟨k, _⟩
  show _ = (laws_markText k).bind fun y : (List UInt8) => some (laws_markText_s.out y)
  simp only [laws_markText, kb_ite, kb_some, kb_none, kb_bind, kb_alt]
  kernel_rfl
theorem laws_markText_is : FnIs Go.Proofs.Try.prog 16 (modeOf []) (phi [laws_markText_s]) := spec_is (c := laws_markText_c) seatOK laws_markText_t Go.Proofs.Try.func16 rfl (code := laws_markText_code) rfl rfl laws_markText_rs laws_markText_e
noncomputable def laws_markSequenceS_l0_s : LSum := ⟨0, ⟨[(0, .val (.sl 28 (.pair (.str) (.pair (.str) (.unit)))) (.own .fr)), (0, .val (.int .i64) .fr), (3, .val (.int .i64) .fr)], 23⟩, (.exit 0, ⟨[(0, .val (.sl 28 (.pair (.str) (.pair (.str) (.unit)))) (.own .fr)), (0, .val (.int .i64) .fr)], 27⟩), [], laws_markSequenceS_l0⟩
noncomputable def laws_markSequenceS_s : Spec := ⟨[.v (.sl 28 (.pair (.str) (.pair (.str) (.unit)))) (.own .fr), .v (.int .i64) .fr], Int × (List ((List UInt8) × ((List UInt8) × Unit))), fun v => laws_markSequenceS v.1 v.2.1, fun r => ([.v (.int .i64) .fr r.1], [.v (.sl 28 (.pair (.str) (.pair (.str) (.unit)))) (.own .fr) r.2])⟩
noncomputable def laws_markSequenceS_ls : List LSum := [laws_markSequenceS_l0_s]
noncomputable def laws_markSequenceS_tab : List Row := [⟨16, [], [laws_markText_s]⟩]
theorem laws_markSequenceS_t : ∀ r, r ∈ laws_markSequenceS_tab → RowIs Go.Proofs.Try.prog r := tab_cons (laws_markText_is) (tab_nil)
theorem laws_markSequenceS_l0_r : RoundIs (mkCtx Go.K.Link.seat laws_markSequenceS_c laws_markSequenceS_tab) (sums laws_markSequenceS_ls) 0 (bodyAt (loopsOf 0 laws_markSequenceS_code) 0) laws_markSequenceS_l0_s := by
  rintro ⟨a, ⟨k, ⟨i, _⟩⟩⟩
  show _ = (laws_markSequenceS_l0 (a, (k, (i, ())))).bind fun r : (Ctl ((List ((List UInt8) × ((List UInt8) × Unit))) × Int × Int × Unit) (((List ((List UInt8) × ((List UInt8) × Unit))) × Int × Unit))) => some (ctlVal laws_markSequenceS_l0_s r)
  simp only [laws_markSequenceS_l0, kb_ite, kb_some, kb_none, kb_bind, kb_alt]
  kernel_rfl
theorem laws_markSequenceS_rs : RoundsOK (mkCtx Go.K.Link.seat laws_markSequenceS_c laws_markSequenceS_tab) (sums laws_markSequenceS_ls) (loopsOf 0 laws_markSequenceS_code) laws_markSequenceS_ls := ⟨⟨rfl, rfl, laws_markSequenceS_l0_r⟩, trivial⟩
theorem laws_markSequenceS_e : ∀ v, (evFn (mkCtx Go.K.Link.seat laws_markSequenceS_c laws_markSequenceS_tab) (sums laws_markSequenceS_ls) 9 Go.Proofs.Try.f9 (encL laws_markSequenceS_s.a v)).run = (laws_markSequenceS_s.gen v).bind fun y => some (laws_markSequenceS_s.out y) := by
  rintro ⟨a, ⟨k, _⟩⟩
  show _ = (laws_markSequenceS a k).bind fun y : Int × (List ((List UInt8) × ((List UInt8) × Unit))) => some (laws_markSequenceS_s.out y)
  simp only [laws_markSequenceS, kb_ite, kb_some, kb_none, kb_bind, kb_alt]
  kernel_rfl
theorem laws_markSequenceS_is : FnIs Go.Proofs.Try.prog 9 (modeOf [.mut]) (phi [laws_markSequenceS_s]) := spec_is (c := laws_markSequenceS_c) seatOK laws_markSequenceS_t Go.Proofs.Try.func9 rfl (code := laws_markSequenceS_code) rfl rfl laws_markSequenceS_rs laws_markSequenceS_e
noncomputable def laws_heldSequenceS_code : Code := (Go.Proofs.Try.f10.body).getD .skip
def laws_heldSequenceS_c : Cfg := ⟨10, [], [[0, 1, 5], [1], [4]], [], [], []⟩
noncomputable def laws_heldSequenceS_l0_s : LSum := ⟨0, ⟨[(0, .val (.sl 28 (.pair (.str) (.pair (.str) (.unit)))) .fr), (0, .val (.int .i64) .fr), (3, .val (.int .i64) .fr)], 27⟩, (.ret, ⟨[(4, .val (.int .i64) .fr)], 28⟩), [(.exit 0, ⟨[(1, .val (.int .i64) .fr)], 31⟩)], laws_heldSequenceS_l0⟩
noncomputable def laws_heldSequenceS_s : Spec := ⟨[.v (.sl 28 (.pair (.str) (.pair (.str) (.unit)))) .fr, .v (.int .i64) .fr], Int, fun v => laws_heldSequenceS v.1 v.2.1, fun r => ([.v (.int .i64) .fr r], [])⟩
noncomputable def laws_heldSequenceS_ls : List LSum := [laws_heldSequenceS_l0_s]
noncomputable def laws_heldSequenceS_tab : List Row := [⟨16, [], [laws_markText_s]⟩]
theorem laws_heldSequenceS_t : ∀ r, r ∈ laws_heldSequenceS_tab → RowIs Go.Proofs.Try.prog r := tab_cons (laws_markText_is) (tab_nil)
theorem laws_heldSequenceS_l0_r : RoundIs (mkCtx Go.K.Link.seat laws_heldSequenceS_c laws_heldSequenceS_tab) (sums laws_heldSequenceS_ls) 0 (bodyAt (loopsOf 0 laws_heldSequenceS_code) 0) laws_heldSequenceS_l0_s := by
  rintro ⟨a, ⟨k, ⟨i, _⟩⟩⟩
  show _ = (laws_heldSequenceS_l0 (a, (k, (i, ())))).bind fun r : (Ctl ((List ((List UInt8) × ((List UInt8) × Unit))) × Int × Int × Unit) ((Int × Unit) ⊕ (Int × Unit))) => some (ctlVal laws_heldSequenceS_l0_s r)
  simp only [laws_heldSequenceS_l0, kb_ite, kb_some, kb_none, kb_bind, kb_alt]
  kernel_rfl
theorem laws_heldSequenceS_rs : RoundsOK (mkCtx Go.K.Link.seat laws_heldSequenceS_c laws_heldSequenceS_tab) (sums laws_heldSequenceS_ls) (loopsOf 0 laws_heldSequenceS_code) laws_heldSequenceS_ls := ⟨⟨rfl, rfl, laws_heldSequenceS_l0_r⟩, trivial⟩
theorem laws_heldSequenceS_e : ∀ v, (evFn (mkCtx Go.K.Link.seat laws_heldSequenceS_c laws_heldSequenceS_tab) (sums laws_heldSequenceS_ls) 10 Go.Proofs.Try.f10 (encL laws_heldSequenceS_s.a v)).run = (laws_heldSequenceS_s.gen v).bind fun y => some (laws_heldSequenceS_s.out y) := by
  rintro ⟨a, ⟨k, _⟩⟩
  show _ = (laws_heldSequenceS a k).bind fun y : Int => some (laws_heldSequenceS_s.out y)
  simp only [laws_heldSequenceS, kb_ite, kb_some, kb_none, kb_bind, kb_alt]
  kernel_rfl
theorem laws_heldSequenceS_is : FnIs Go.Proofs.Try.prog 10 (modeOf []) (phi [laws_heldSequenceS_s]) := spec_is (c := laws_heldSequenceS_c) seatOK laws_heldSequenceS_t Go.Proofs.Try.func10 rfl (code := laws_heldSequenceS_code) rfl rfl laws_heldSequenceS_rs laws_heldSequenceS_e
noncomputable def laws_FnExactBranchPoints_s : Spec := ⟨[.v (.pair (.str) (.pair (.str) (.unit))) .fr], Bool, fun v => laws_FnExactBranchPoints v.1, fun r => ([.v (.bool) .fr r], [])⟩
noncomputable def laws_FnExactBranchPoints_ls : List LSum := []
noncomputable def laws_FnExactBranchPoints_tab : List Row := [⟨4, [], [laws_szSequence_s]⟩, ⟨5, [], [spec_BranchPoints_s]⟩, ⟨6, [], [laws_toSequence_s]⟩, ⟨7, [], [impl_BranchPoints_s]⟩, ⟨8, [], [laws_eqSequenceS_s]⟩, ⟨9, [.mut], [laws_markSequenceS_s]⟩, ⟨10, [], [laws_heldSequenceS_s]⟩]
theorem laws_FnExactBranchPoints_t : ∀ r, r ∈ laws_FnExactBranchPoints_tab → RowIs (drI := drZ) Go.Proofs.Try.prog r := tab_cons (drI := drZ) ((weak_is laws_szSequence_is)) (tab_cons (drI := drZ) ((weak_is spec_BranchPoints_is)) (tab_cons (drI := drZ) ((weak_is laws_toSequence_is)) (tab_cons (drI := drZ) (impl_BranchPoints_is) (tab_cons (drI := drZ) ((weak_is laws_eqSequenceS_is)) (tab_cons (drI := drZ) ((weak_is laws_markSequenceS_is)) (tab_cons (drI := drZ) ((weak_is laws_heldSequenceS_is)) (tab_nil (drI := drZ))))))))
theorem laws_FnExactBranchPoints_rs : RoundsOK (mkCtx Go.K.Link.seat laws_FnExactBranchPoints_c laws_FnExactBranchPoints_tab) (sums laws_FnExactBranchPoints_ls) (loopsOf 0 laws_FnExactBranchPoints_code) laws_FnExactBranchPoints_ls := trivial
theorem laws_FnExactBranchPoints_e : ∀ v, (evFn (mkCtx Go.K.Link.seat laws_FnExactBranchPoints_c laws_FnExactBranchPoints_tab) (sums laws_FnExactBranchPoints_ls) 3 Go.Proofs.Try.f3 (encL laws_FnExactBranchPoints_s.a v)).run = (laws_FnExactBranchPoints_s.gen v).bind fun y => some (laws_FnExactBranchPoints_s.out y) := by
  rintro ⟨aV, _⟩
  show _ = (laws_FnExactBranchPoints aV).bind fun y : Bool => some (laws_FnExactBranchPoints_s.out y)
  simp only [laws_FnExactBranchPoints, kb_ite, kb_some, kb_none, kb_bind, kb_alt]
  kernel_rfl
theorem laws_FnExactBranchPoints_is : FnIs (drI := drZ) Go.Proofs.Try.prog 3 (modeOf []) (phi [laws_FnExactBranchPoints_s]) := spec_is (drI := drZ) (c := laws_FnExactBranchPoints_c) seatOK laws_FnExactBranchPoints_t Go.Proofs.Try.func3 rfl (code := laws_FnExactBranchPoints_code) rfl rfl laws_FnExactBranchPoints_rs laws_FnExactBranchPoints_e
end Go.K.Link
namespace Go.Proofs.Ytnknjfjbihogoaa
open Go.K Go.K.Link Go.RowKit
theorem Try.own : ownKnob Try.prog.godebug = none := by kernel_rfl
theorem Try.laidOut : laidOutB Try.prog = true := by kernel_rfl
end Go.Proofs.Ytnknjfjbihogoaa

