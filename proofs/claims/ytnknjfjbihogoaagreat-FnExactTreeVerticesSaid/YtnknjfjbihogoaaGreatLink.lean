/- What each function of the program gives, as a plain function, with the proof that it gives it; no condition. -/
import Derived.Test.YtnknjfjbihogoaaGreatP1
import Derived.Test.YtnknjfjbihogoaaGreatS1
import Derived.Test.YtnknjfjbihogoaaGreatK3
import Derived.Test.YtnknjfjbihogoaaGreatRows
import Derived.Shelf.Lay
import Derived.Ground.SlsfProg
import Derived.Ground.NamesProg
set_option linter.all false
set_option maxRecDepth 100000
set_option maxHeartbeats 4000000
set_option linter.all false
namespace Go.Proofs
open Go.Shelf Go.RowKit
def Tryz.repL_ren : Go.Shelf.Ren := ⟨fun | 105 => 130 | 212 => 143 | 99 => 144 | 165 => 145 | 166 => 146 | 170 => 147 | 169 => 148 | 263 => 154 | 264 => 155 | 206 => 156 | 240 => 157 | 241 => 158 | 276 => 160 | 277 => 161 | n => n, fun | 9 => 9 | 3 => 3 | 4 => 4 | 20 => 20 | 0 => 0 | 46 => 116 | 109 => 160 | 5 => 5 | 72 => 164 | 76 => 168 | 51 => 137 | 146 => 175 | 53 => 139 | 148 => 177 | 70 => 162 | 37 => 84 | 75 => 167 | 127 => 179 | 164 => 181 | 80 => 103 | n => n, fun | n => n⟩
theorem Tryz.repL : Go.Proofs.Lays.n105 Tryz.prog Tryz.repL_ren := {
  mixed := by kernel_rfl
  f99 := Tryz.func144.trans (congrArg some (by kernel_rfl))
  f105 := Tryz.func130.trans (congrArg some (by kernel_rfl))
  f165 := Tryz.func145.trans (congrArg some (by kernel_rfl))
  f166 := Tryz.func146.trans (congrArg some (by kernel_rfl))
  f169 := Tryz.func148.trans (congrArg some (by kernel_rfl))
  f170 := Tryz.func147.trans (congrArg some (by kernel_rfl))
  f206 := Tryz.func156.trans (congrArg some (by kernel_rfl))
  f212 := Tryz.func143.trans (congrArg some (by kernel_rfl))
  f240 := Tryz.func157.trans (congrArg some (by kernel_rfl))
  f241 := Tryz.func158.trans (congrArg some (by kernel_rfl))
  f263 := Tryz.func154.trans (congrArg some (by kernel_rfl))
  f264 := Tryz.func155.trans (congrArg some (by kernel_rfl))
  f276 := Tryz.func160.trans (congrArg some (by kernel_rfl))
  f277 := Tryz.func161.trans (congrArg some (by kernel_rfl))
  t0 := Tryz.underlying0
  a0 := Tryz.isAgg0
  z0 := Tryz.sizeOf0
  v0 := Tryz.zeroValue0
  t3 := Tryz.underlying3
  a3 := Tryz.isAgg3
  z3 := Tryz.sizeOf3
  v3 := Tryz.zeroValue3
  t4 := Tryz.underlying4
  a4 := Tryz.isAgg4
  z4 := Tryz.sizeOf4
  v4 := Tryz.zeroValue4
  t5 := Tryz.underlying5
  a5 := Tryz.isAgg5
  z5 := Tryz.sizeOf5
  v5 := Tryz.zeroValue5
  t9 := Tryz.underlying9
  a9 := Tryz.isAgg9
  z9 := Tryz.sizeOf9
  v9 := Tryz.zeroValue9
  t20 := Tryz.underlying20
  a20 := Tryz.isAgg20
  z20 := Tryz.sizeOf20
  v20 := Tryz.zeroValue20
  t37 := Tryz.underlying84
  a37 := Tryz.isAgg84
  z37 := Tryz.sizeOf84
  v37 := Tryz.zeroValue84
  t46 := Tryz.underlying116
  a46 := Tryz.isAgg116
  z46 := Tryz.sizeOf116
  v46 := Tryz.zeroValue116
  t51 := Tryz.underlying137
  a51 := Tryz.isAgg137
  z51 := Tryz.sizeOf137
  v51 := Tryz.zeroValue137
  t53 := Tryz.underlying139
  a53 := Tryz.isAgg139
  z53 := Tryz.sizeOf139
  v53 := Tryz.zeroValue139
  t70 := Tryz.underlying162
  a70 := Tryz.isAgg162
  z70 := Tryz.sizeOf162
  v70 := Tryz.zeroValue162
  t72 := Tryz.underlying164
  a72 := Tryz.isAgg164
  z72 := Tryz.sizeOf164
  v72 := Tryz.zeroValue164
  t75 := Tryz.underlying167
  a75 := Tryz.isAgg167
  z75 := Tryz.sizeOf167
  v75 := Tryz.zeroValue167
  t76 := Tryz.underlying168
  a76 := Tryz.isAgg168
  z76 := Tryz.sizeOf168
  v76 := Tryz.zeroValue168
  t109 := Tryz.underlying160
  a109 := Tryz.isAgg160
  z109 := Tryz.sizeOf160
  v109 := Tryz.zeroValue160
  t127 := Tryz.underlying179
  a127 := Tryz.isAgg179
  z127 := Tryz.sizeOf179
  v127 := Tryz.zeroValue179
  t146 := Tryz.underlying175
  a146 := Tryz.isAgg175
  z146 := Tryz.sizeOf175
  v146 := Tryz.zeroValue175
  t148 := Tryz.underlying177
  a148 := Tryz.isAgg177
  z148 := Tryz.sizeOf177
  v148 := Tryz.zeroValue177
  t164 := Tryz.underlying181
  a164 := Tryz.isAgg181
  z164 := Tryz.sizeOf181
  v164 := Tryz.zeroValue181 }
theorem Tryz.repX : Builder.Extra Tryz.prog Tryz.repL_ren := {
  sizeBuilder := by kernel_rfl
  liesBuilder := by kernel_rfl
  t5 := Tryz.repL.t5
  a5 := Tryz.repL.a5
  z5 := Tryz.repL.z5
  v5 := Tryz.repL.v5
  infoByte := by kernel_rfl
  cellsByte := by kernel_rfl
  sizeByte := by kernel_rfl
  neB5 := by decide }
def Tryz.sortL79_ren : Go.Shelf.Ren := ⟨fun | 6 => 79 | 15 => 90 | 14 => 102 | 28 => 114 | 29 => 115 | 20 => 121 | 21 => 122 | 22 => 123 | 23 => 124 | 24 => 125 | 25 => 126 | 26 => 127 | 27 => 128 | 46 => 140 | 47 => 132 | 48 => 133 | 49 => 141 | 50 => 142 | 57 => 153 | n => n, fun | 22 => 25 | 24 => 28 | 25 => 104 | 3 => 3 | 39 => 116 | 0 => 0 | 53 => 137 | 55 => 139 | 4 => 4 | 46 => 131 | 45 => 130 | 50 => 110 | 5 => 5 | 9 => 9 | 66 => 149 | 70 => 153 | 76 => 171 | 77 => 172 | n => n, fun | n => n⟩
theorem Tryz.sortL79 : Go.Proofs.SlLaysF0.n6 Tryz.prog Tryz.sortL79_ren := {
  mixed := by kernel_rfl
  f6 := ⟨ "slices.SortFunc[[]loop.example/g01234/impl.Sequence,loop.example/g01234/impl.Sequence]", by decide, Tryz.func79.trans (congrArg some (by kernel_rfl))⟩
  f14 := ⟨ "slices.pdqsortCmpFunc[loop.example/g01234/impl.Sequence]", by decide, Tryz.func102.trans (congrArg some (by kernel_rfl))⟩
  f15 := Tryz.func90.trans (congrArg some (by kernel_rfl))
  f20 := ⟨ "slices.insertionSortCmpFunc[loop.example/g01234/impl.Sequence]", by decide, Tryz.func121.trans (congrArg some (by kernel_rfl))⟩
  f21 := ⟨ "slices.heapSortCmpFunc[loop.example/g01234/impl.Sequence]", by decide, Tryz.func122.trans (congrArg some (by kernel_rfl))⟩
  f22 := ⟨ "slices.breakPatternsCmpFunc[loop.example/g01234/impl.Sequence]", by decide, Tryz.func123.trans (congrArg some (by kernel_rfl))⟩
  f23 := ⟨ "slices.choosePivotCmpFunc[loop.example/g01234/impl.Sequence]", by decide, Tryz.func124.trans (congrArg some (by kernel_rfl))⟩
  f24 := ⟨ "slices.reverseRangeCmpFunc[loop.example/g01234/impl.Sequence]", by decide, Tryz.func125.trans (congrArg some (by kernel_rfl))⟩
  f25 := ⟨ "slices.partialInsertionSortCmpFunc[loop.example/g01234/impl.Sequence]", by decide, Tryz.func126.trans (congrArg some (by kernel_rfl))⟩
  f26 := ⟨ "slices.partitionEqualCmpFunc[loop.example/g01234/impl.Sequence]", by decide, Tryz.func127.trans (congrArg some (by kernel_rfl))⟩
  f27 := ⟨ "slices.partitionCmpFunc[loop.example/g01234/impl.Sequence]", by decide, Tryz.func128.trans (congrArg some (by kernel_rfl))⟩
  f28 := Tryz.func114.trans (congrArg some (by kernel_rfl))
  f29 := Tryz.func115.trans (congrArg some (by kernel_rfl))
  f46 := ⟨ "slices.siftDownCmpFunc[loop.example/g01234/impl.Sequence]", by decide, Tryz.func140.trans (congrArg some (by kernel_rfl))⟩
  f47 := Tryz.func132.trans (congrArg some (by kernel_rfl))
  f48 := Tryz.func133.trans (congrArg some (by kernel_rfl))
  f49 := ⟨ "slices.medianAdjacentCmpFunc[loop.example/g01234/impl.Sequence]", by decide, Tryz.func141.trans (congrArg some (by kernel_rfl))⟩
  f50 := ⟨ "slices.medianCmpFunc[loop.example/g01234/impl.Sequence]", by decide, Tryz.func142.trans (congrArg some (by kernel_rfl))⟩
  f57 := ⟨ "slices.order2CmpFunc[loop.example/g01234/impl.Sequence]", by decide, Tryz.func153.trans (congrArg some (by kernel_rfl))⟩
  t0 := Tryz.underlying0
  a0 := Tryz.isAgg0
  z0 := Tryz.sizeOf0
  v0 := Tryz.zeroValue0
  t3 := Tryz.underlying3
  a3 := Tryz.isAgg3
  z3 := Tryz.sizeOf3
  v3 := Tryz.zeroValue3
  t4 := Tryz.underlying4
  a4 := Tryz.isAgg4
  z4 := Tryz.sizeOf4
  v4 := Tryz.zeroValue4
  t5 := Tryz.underlying5
  a5 := Tryz.isAgg5
  z5 := Tryz.sizeOf5
  v5 := Tryz.zeroValue5
  t9 := Tryz.underlying9
  a9 := Tryz.isAgg9
  z9 := Tryz.sizeOf9
  v9 := Tryz.zeroValue9
  t22 := Tryz.underlying25
  a22 := Tryz.isAgg25
  z22 := Tryz.sizeOf25
  v22 := Tryz.zeroValue25
  t25 := Tryz.underlying104
  a25 := Tryz.isAgg104
  z25 := Tryz.sizeOf104
  v25 := Tryz.zeroValue104
  t39 := Tryz.underlying116
  a39 := Tryz.isAgg116
  z39 := Tryz.sizeOf116
  v39 := Tryz.zeroValue116
  t45 := Tryz.underlying130
  a45 := Tryz.isAgg130
  z45 := Tryz.sizeOf130
  v45 := Tryz.zeroValue130
  t46 := Tryz.underlying131
  a46 := Tryz.isAgg131
  z46 := Tryz.sizeOf131
  v46 := Tryz.zeroValue131
  t50 := Tryz.underlying110
  a50 := Tryz.isAgg110
  z50 := Tryz.sizeOf110
  v50 := Tryz.zeroValue110
  t53 := Tryz.underlying137
  a53 := Tryz.isAgg137
  z53 := Tryz.sizeOf137
  v53 := Tryz.zeroValue137
  t55 := Tryz.underlying139
  a55 := Tryz.isAgg139
  z55 := Tryz.sizeOf139
  v55 := Tryz.zeroValue139
  t66 := Tryz.underlying149
  a66 := Tryz.isAgg149
  z66 := Tryz.sizeOf149
  v66 := Tryz.zeroValue149
  t70 := Tryz.underlying153
  a70 := Tryz.isAgg153
  z70 := Tryz.sizeOf153
  v70 := Tryz.zeroValue153
  t76 := Tryz.underlying171
  a76 := Tryz.isAgg171
  z76 := Tryz.sizeOf171
  v76 := Tryz.zeroValue171
  t77 := Tryz.underlying172
  a77 := Tryz.isAgg172
  z77 := Tryz.sizeOf172
  v77 := Tryz.zeroValue172 }
def Tryz.ixbL_ren : Go.Shelf.Ren := ⟨fun | 137 => 120 | 217 => 139 | 266 => 152 | n => n, fun | 9 => 9 | 5 => 5 | 3 => 3 | n => n, fun | n => n⟩
theorem Tryz.ixbL : Go.Proofs.Lays.n137 Tryz.prog Tryz.ixbL_ren := {
  mixed := by kernel_rfl
  f137 := Tryz.func120.trans (congrArg some (by kernel_rfl))
  f217 := Tryz.func139.trans (congrArg some (by kernel_rfl))
  f266 := Tryz.func152.trans (congrArg some (by kernel_rfl))
  t3 := Tryz.underlying3
  a3 := Tryz.isAgg3
  z3 := Tryz.sizeOf3
  v3 := Tryz.zeroValue3
  t5 := Tryz.underlying5
  a5 := Tryz.isAgg5
  z5 := Tryz.sizeOf5
  v5 := Tryz.zeroValue5
  t9 := Tryz.underlying9
  a9 := Tryz.isAgg9
  z9 := Tryz.sizeOf9
  v9 := Tryz.zeroValue9 }
def Tryz.cmpL_ren : Go.Shelf.Ren := ⟨fun | 106 => 81 | 213 => 103 | 265 => 129 | n => n, fun | 9 => 9 | 3 => 3 | n => n, fun | n => n⟩
theorem Tryz.cmpL : Go.Proofs.Lays.n106 Tryz.prog Tryz.cmpL_ren := {
  mixed := by kernel_rfl
  f106 := Tryz.func81.trans (congrArg some (by kernel_rfl))
  f213 := Tryz.func103.trans (congrArg some (by kernel_rfl))
  f265 := Tryz.func129.trans (congrArg some (by kernel_rfl))
  t3 := Tryz.underlying3
  a3 := Tryz.isAgg3
  z3 := Tryz.sizeOf3
  v3 := Tryz.zeroValue3
  t9 := Tryz.underlying9
  a9 := Tryz.isAgg9
  z9 := Tryz.sizeOf9
  v9 := Tryz.zeroValue9 }
end Go.Proofs
namespace Go.K.Link
open Go.K.Pure
def tyList : List (Nat × Ty) := [(2, .int .i64), (3, .int .i64), (4, .bool), (5, .int .u8), (6, .int .u8), (7, .pair (.int .i64) (.pair (.int .i64) (.pair (.bool) (.pair (.int .u8) (.unit))))), (8, .pair (.int .i64) (.pair (.int .i64) (.pair (.bool) (.pair (.int .u8) (.unit))))), (9, .str), (10, .str), (11, .str), (12, .int .u64), (21, .int .i32), (22, .pair (.str) (.pair (.str) (.unit))), (23, .pair (.str) (.pair (.str) (.unit))), (25, .sl 28 (.pair (.str) (.pair (.str) (.unit)))), (28, .pair (.str) (.pair (.str) (.unit))), (36, .sl 2 (.int .i64)), (41, .sl 36 (.sl 2 (.int .i64))), (55, .sl 67 (.sl 4 (.bool))), (61, .ptr (.pair (.sl 28 (.pair (.str) (.pair (.str) (.unit)))) (.pair (.sl 41 (.sl 36 (.sl 2 (.int .i64)))) (.pair (.sl 36 (.sl 2 (.int .i64))) (.unit))))), (67, .sl 4 (.bool)), (70, .sl 41 (.sl 36 (.sl 2 (.int .i64)))), (71, .pair (.sl 28 (.pair (.str) (.pair (.str) (.unit)))) (.pair (.sl 41 (.sl 36 (.sl 2 (.int .i64)))) (.pair (.sl 36 (.sl 2 (.int .i64))) (.unit)))), (72, .pair (.sl 28 (.pair (.str) (.pair (.str) (.unit)))) (.pair (.sl 41 (.sl 36 (.sl 2 (.int .i64)))) (.pair (.sl 36 (.sl 2 (.int .i64))) (.unit)))), (81, .sl 25 (.sl 28 (.pair (.str) (.pair (.str) (.unit))))), (84, .sl 5 (.int .u8)), (89, .arr 3 (.pair (.str) (.pair (.str) (.unit)))), (90, .arr 3 (.pair (.str) (.pair (.str) (.unit)))), (106, .mp (.arr 3 (.pair (.str) (.pair (.str) (.unit)))) (.int .i64)), (116, .int .u64), (120, .sl 89 (.arr 3 (.pair (.str) (.pair (.str) (.unit))))), (130, .int .i64), (137, .int .u32), (139, .int .u64), (140, .arr 2 (.int .i64)), (149, .int .u64), (153, .ptr (.int .i64)), (171, .ptr (.int .u64)), (179, .ptr (.int .u8)), (189, .int .u8), (190, .int .u8), (192, .int .i32), (193, .int .i32)]
def byList : List (Nat × Nat) := [(25, 32), (36, 8), (41, 24), (55, 24), (67, 1), (70, 24), (81, 24), (84, 1), (120, 96)]
def ftyList : List Nat := [1, 24, 27, 29, 30, 31, 32, 34, 35, 38, 39, 40, 43, 44, 45, 46, 47, 48, 50, 51, 52, 53, 54, 57, 58, 59, 60, 63, 64, 65, 66, 68, 69, 73, 74, 75, 76, 77, 78, 79, 80, 82, 83, 86, 88, 91, 92, 93, 94, 95, 96, 97, 99, 100, 101, 102, 103, 104, 105, 107, 108, 109, 112, 113, 114, 115, 117, 118, 119, 121, 122, 123, 124, 125, 126, 127, 128, 129, 132, 133, 134, 135, 136, 138, 141, 142, 143, 144, 145, 146, 147, 148, 150, 151, 152, 154, 155, 156, 157, 158, 159, 161, 165, 169, 170, 173, 174, 176, 178, 180, 182, 183, 191]
def etList : List (Nat × Nat) := [(25, 28), (36, 2), (41, 36), (55, 67), (67, 4), (70, 41), (81, 25), (84, 5), (120, 89)]
def fieldList : List (Nat × List Nat) := [(7, [2, 3, 4, 6]), (8, [2, 3, 4, 6]), (13, [9, 12]), (14, [9, 12]), (18, [17]), (19, [17]), (22, [9, 9]), (23, [9, 9]), (28, [9, 9]), (71, [25, 70, 41]), (72, [25, 70, 41]), (163, [162, 84]), (164, [162, 84]), (184, [17, 17, 17, 9]), (185, [17, 17, 17, 9]), (187, [186]), (188, [186]), (194, [12, 12, 137, 189, 5, 5, 190, 191, 179, 192, 193]), (195, [12, 12, 137, 189, 5, 5, 190, 191, 179, 192, 193])]
def seat : Seat := seatOf tyList byList ftyList fieldList etList
theorem seatOK : SeatOK Go.Proofs.Tryz.prog seat := seat_ok (by kernel_rfl) (by kernel_rfl) (by kernel_rfl) (by kernel_rfl)
noncomputable def laws_FnExactTreeVertices_code : Code := (Go.Proofs.Tryz.f3.body).getD .skip
def laws_FnExactTreeVertices_c : Cfg := ⟨3, [], [], [], [], []⟩
noncomputable def laws_szSequence_code : Code := (Go.Proofs.Tryz.f10.body).getD .skip
def laws_szSequence_c : Cfg := ⟨10, [], [], [], [], []⟩
noncomputable def laws_szSequence_s : Spec := ⟨[.v (.pair (.str) (.pair (.str) (.unit))) .fr, .v (.int .i64) .fr], Int, fun v => laws_szSequence v.1 v.2.1, fun r => ([.v (.int .i64) .fr r], [])⟩
noncomputable def laws_szSequence_ls : List LSum := []
noncomputable def laws_szSequence_tab : List Row := []
theorem laws_szSequence_t : ∀ r, r ∈ laws_szSequence_tab → RowIs Go.Proofs.Tryz.prog r := tab_nil
theorem laws_szSequence_rs : RoundsOK (mkCtx Go.K.Link.seat laws_szSequence_c laws_szSequence_tab) (sums laws_szSequence_ls) (loopsOf 0 laws_szSequence_code) laws_szSequence_ls := trivial
theorem laws_szSequence_e : ∀ v, (evFn (mkCtx Go.K.Link.seat laws_szSequence_c laws_szSequence_tab) (sums laws_szSequence_ls) 10 Go.Proofs.Tryz.f10 (encL laws_szSequence_s.a v)).run = (laws_szSequence_s.gen v).bind fun y => some (laws_szSequence_s.out y) := by
  rintro ⟨a, ⟨left, _⟩⟩
  show _ = (laws_szSequence a left).bind fun y : Int => some (laws_szSequence_s.out y)
  simp only [laws_szSequence, kb_ite, kb_some, kb_none, kb_bind, kb_alt]
  kernel_rfl
theorem laws_szSequence_is : FnIs Go.Proofs.Tryz.prog 10 (modeOf []) (phi [laws_szSequence_s]) := spec_is (c := laws_szSequence_c) seatOK laws_szSequence_t Go.Proofs.Tryz.func10 rfl (code := laws_szSequence_code) rfl rfl laws_szSequence_rs laws_szSequence_e
noncomputable def laws_toSequence_code : Code := (Go.Proofs.Tryz.f12.body).getD .skip
def laws_toSequence_c : Cfg := ⟨12, [], [], [], [], []⟩
noncomputable def laws_toSequence_s : Spec := ⟨[.v (.pair (.str) (.pair (.str) (.unit))) .fr], ((List UInt8) × ((List UInt8) × Unit)), fun v => laws_toSequence v.1, fun r => ([.v (.pair (.str) (.pair (.str) (.unit))) .fr r], [])⟩
noncomputable def laws_toSequence_ls : List LSum := []
noncomputable def laws_toSequence_tab : List Row := []
theorem laws_toSequence_t : ∀ r, r ∈ laws_toSequence_tab → RowIs Go.Proofs.Tryz.prog r := tab_nil
theorem laws_toSequence_rs : RoundsOK (mkCtx Go.K.Link.seat laws_toSequence_c laws_toSequence_tab) (sums laws_toSequence_ls) (loopsOf 0 laws_toSequence_code) laws_toSequence_ls := trivial
theorem laws_toSequence_e : ∀ v, (evFn (mkCtx Go.K.Link.seat laws_toSequence_c laws_toSequence_tab) (sums laws_toSequence_ls) 12 Go.Proofs.Tryz.f12 (encL laws_toSequence_s.a v)).run = (laws_toSequence_s.gen v).bind fun y => some (laws_toSequence_s.out y) := by
  rintro ⟨a, _⟩
  show _ = (laws_toSequence a).bind fun y : ((List UInt8) × ((List UInt8) × Unit)) => some (laws_toSequence_s.out y)
  simp only [laws_toSequence, kb_ite, kb_some, kb_none, kb_bind, kb_alt]
  kernel_rfl
theorem laws_toSequence_is : FnIs Go.Proofs.Tryz.prog 12 (modeOf []) (phi [laws_toSequence_s]) := spec_is (c := laws_toSequence_c) seatOK laws_toSequence_t Go.Proofs.Tryz.func12 rfl (code := laws_toSequence_code) rfl rfl laws_toSequence_rs laws_toSequence_e
noncomputable def spec_TreeVertices_code : Code := (Go.Proofs.Tryz.f11.body).getD .skip
def spec_TreeVertices_c : Cfg := ⟨11, [], [], [], [], []⟩
noncomputable def spec_l06Tree_code : Code := (Go.Proofs.Tryz.f35.body).getD .skip
def spec_l06Tree_c : Cfg := ⟨35, [], [], [], [], []⟩
noncomputable def spec_l06Code_code : Code := (Go.Proofs.Tryz.f56.body).getD .skip
def spec_l06Code_c : Cfg := ⟨56, [], [[1, 2, 5], [1, 2], [4], [], [], [], [1, 2, 6], [], [4]], [], [], []⟩
noncomputable def spec_l01Seq_code : Code := (Go.Proofs.Tryz.f73.body).getD .skip
def spec_l01Seq_c : Cfg := ⟨73, [], [], [], [], []⟩
noncomputable def spec_l01Letters_code : Code := (Go.Proofs.Tryz.f92.body).getD .skip
def spec_l01Letters_c : Cfg := ⟨92, [], [[0, 3], [], [2]], [], [], []⟩
noncomputable def spec_l01Letters_l0_s : LSum := ⟨0, ⟨[(0, .val (.str) .fr), (2, .val (.int .i64) .fr)], 22⟩, (.ret, ⟨[(2, .val (.bool) .fr)], 23⟩), [(.exit 0, ⟨[], 26⟩)], spec_l01Letters_l0⟩
noncomputable def spec_l01Letters_s : Spec := ⟨[.v (.str) .fr], Bool, fun v => spec_l01Letters v.1, fun r => ([.v (.bool) .fr r], [])⟩
noncomputable def spec_l01Letters_ls : List LSum := [spec_l01Letters_l0_s]
noncomputable def spec_l01Letters_tab : List Row := []
theorem spec_l01Letters_t : ∀ r, r ∈ spec_l01Letters_tab → RowIs Go.Proofs.Tryz.prog r := tab_nil
theorem spec_l01Letters_l0_r : RoundIs (mkCtx Go.K.Link.seat spec_l01Letters_c spec_l01Letters_tab) (sums spec_l01Letters_ls) 0 (bodyAt (loopsOf 0 spec_l01Letters_code) 0) spec_l01Letters_l0_s := by
  rintro ⟨text, ⟨i, _⟩⟩
  show _ = (spec_l01Letters_l0 (text, (i, ()))).bind fun r : (Ctl ((List UInt8) × Int × Unit) ((Bool × Unit) ⊕ (Unit))) => some (ctlVal spec_l01Letters_l0_s r)
  simp only [spec_l01Letters_l0, kb_ite, kb_some, kb_none, kb_bind, kb_alt]
  kernel_rfl
theorem spec_l01Letters_rs : RoundsOK (mkCtx Go.K.Link.seat spec_l01Letters_c spec_l01Letters_tab) (sums spec_l01Letters_ls) (loopsOf 0 spec_l01Letters_code) spec_l01Letters_ls := ⟨⟨rfl, rfl, spec_l01Letters_l0_r⟩, trivial⟩
theorem spec_l01Letters_e : ∀ v, (evFn (mkCtx Go.K.Link.seat spec_l01Letters_c spec_l01Letters_tab) (sums spec_l01Letters_ls) 92 Go.Proofs.Tryz.f92 (encL spec_l01Letters_s.a v)).run = (spec_l01Letters_s.gen v).bind fun y => some (spec_l01Letters_s.out y) := by
  rintro ⟨text, _⟩
  show _ = (spec_l01Letters text).bind fun y : Bool => some (spec_l01Letters_s.out y)
  simp only [spec_l01Letters, kb_ite, kb_some, kb_none, kb_bind, kb_alt]
  kernel_rfl
theorem spec_l01Letters_is : FnIs Go.Proofs.Tryz.prog 92 (modeOf []) (phi [spec_l01Letters_s]) := spec_is (c := spec_l01Letters_c) seatOK spec_l01Letters_t Go.Proofs.Tryz.func92 rfl (code := spec_l01Letters_code) rfl rfl spec_l01Letters_rs spec_l01Letters_e
noncomputable def spec_l01Canonical_code : Code := (Go.Proofs.Tryz.f93.body).getD .skip
def spec_l01Canonical_c : Cfg := ⟨93, [], [[0, 1, 4, 5, 6], [0, 1, 4], [4], [], [], [], [0, 1, 4, 5, 6, 7, 8], [0, 1, 4, 5, 6, 7], [4], [], [], [], [0, 1, 4], [0, 1, 4], [4]], [], [], []⟩
noncomputable def spec_l01Canonical_l1_s : LSum := ⟨2, ⟨[(0, .val (.str) .fr), (0, .val (.str) .fr), (2, .val (.ptr (.pair (.str) (.pair (.str) (.unit)))) (.own .fr)), (0, .val (.int .i64) .fr), (0, .val (.int .i64) .fr), (0, .val (.bool) .fr), (0, .val (.int .i64) .fr)], 70⟩, (.exit 2, ⟨[(0, .val (.str) .fr), (0, .val (.str) .fr), (2, .val (.ptr (.pair (.str) (.pair (.str) (.unit)))) (.own .fr)), (0, .val (.int .i64) .fr), (0, .val (.int .i64) .fr), (0, .val (.bool) .fr)], 71⟩), [], spec_l01Canonical_l1⟩
noncomputable def spec_l01Canonical_l0_s : LSum := ⟨0, ⟨[(0, .val (.str) .fr), (0, .val (.str) .fr), (2, .val (.ptr (.pair (.str) (.pair (.str) (.unit)))) (.own .fr)), (0, .val (.int .i64) .fr), (0, .val (.int .i64) .fr)], 72⟩, (.exit 0, ⟨[(0, .val (.str) .fr), (0, .val (.str) .fr), (2, .val (.ptr (.pair (.str) (.pair (.str) (.unit)))) (.own .fr))], 74⟩), [], spec_l01Canonical_l0⟩
noncomputable def spec_l01Canonical_l2_s : LSum := ⟨4, ⟨[(0, .val (.str) .fr), (0, .val (.str) .fr), (2, .val (.ptr (.pair (.str) (.pair (.str) (.unit)))) (.own .fr))], 74⟩, (.exit 4, ⟨[(0, .val (.str) .fr), (0, .val (.str) .fr), (2, .val (.ptr (.pair (.str) (.pair (.str) (.unit)))) (.own .fr))], 74⟩), [], spec_l01Canonical_l2⟩
noncomputable def spec_l01Canonical_s : Spec := ⟨[.v (.str) .fr, .v (.str) .fr], ((List UInt8) × ((List UInt8) × Unit)), fun v => spec_l01Canonical v.1 v.2.1, fun r => ([.v (.pair (.str) (.pair (.str) (.unit))) .fr r], [])⟩
noncomputable def spec_l01Canonical_ls : List LSum := [spec_l01Canonical_l0_s, spec_l01Canonical_l1_s, spec_l01Canonical_l2_s]
noncomputable def spec_l01Canonical_tab : List Row := []
theorem spec_l01Canonical_t : ∀ r, r ∈ spec_l01Canonical_tab → RowIs Go.Proofs.Tryz.prog r := tab_nil
theorem spec_l01Canonical_l0_r : RoundIs (mkCtx Go.K.Link.seat spec_l01Canonical_c spec_l01Canonical_tab) (sums spec_l01Canonical_ls) 0 (bodyAt (loopsOf 0 spec_l01Canonical_code) 0) spec_l01Canonical_l0_s := by
  rintro ⟨pre, ⟨per, ⟨t4, ⟨n, ⟨k, _⟩⟩⟩⟩⟩
  show _ = (spec_l01Canonical_l0 (pre, (per, (t4, (n, (k, ())))))).bind fun r : (Ctl ((List UInt8) × (List UInt8) × (((List UInt8) × ((List UInt8) × Unit))) × Int × Int × Unit) (((List UInt8) × (List UInt8) × (((List UInt8) × ((List UInt8) × Unit))) × Unit))) => some (ctlVal spec_l01Canonical_l0_s r)
  simp only [spec_l01Canonical_l0, kb_ite, kb_some, kb_none, kb_bind, kb_alt]
  kernel_rfl
theorem spec_l01Canonical_l1_r : RoundIs (mkCtx Go.K.Link.seat spec_l01Canonical_c spec_l01Canonical_tab) (sums spec_l01Canonical_ls) 2 (bodyAt (loopsOf 0 spec_l01Canonical_code) 1) spec_l01Canonical_l1_s := by
  rintro ⟨pre, ⟨per, ⟨t4, ⟨n, ⟨k, ⟨same, ⟨i, _⟩⟩⟩⟩⟩⟩⟩
  show _ = (spec_l01Canonical_l1 (pre, (per, (t4, (n, (k, (same, (i, ())))))))).bind fun r : (Ctl ((List UInt8) × (List UInt8) × (((List UInt8) × ((List UInt8) × Unit))) × Int × Int × Bool × Int × Unit) (((List UInt8) × (List UInt8) × (((List UInt8) × ((List UInt8) × Unit))) × Int × Int × Bool × Unit))) => some (ctlVal spec_l01Canonical_l1_s r)
  simp only [spec_l01Canonical_l1, kb_ite, kb_some, kb_none, kb_bind, kb_alt]
  kernel_rfl
theorem spec_l01Canonical_l2_r : RoundIs (mkCtx Go.K.Link.seat spec_l01Canonical_c spec_l01Canonical_tab) (sums spec_l01Canonical_ls) 4 (bodyAt (loopsOf 0 spec_l01Canonical_code) 2) spec_l01Canonical_l2_s := by
  rintro ⟨pre, ⟨per, ⟨t4, _⟩⟩⟩
  show _ = (spec_l01Canonical_l2 (pre, (per, (t4, ())))).bind fun r : (Ctl ((List UInt8) × (List UInt8) × (((List UInt8) × ((List UInt8) × Unit))) × Unit) (((List UInt8) × (List UInt8) × (((List UInt8) × ((List UInt8) × Unit))) × Unit))) => some (ctlVal spec_l01Canonical_l2_s r)
  simp only [spec_l01Canonical_l2, kb_ite, kb_some, kb_none, kb_bind, kb_alt]
  kernel_rfl
theorem spec_l01Canonical_rs : RoundsOK (mkCtx Go.K.Link.seat spec_l01Canonical_c spec_l01Canonical_tab) (sums spec_l01Canonical_ls) (loopsOf 0 spec_l01Canonical_code) spec_l01Canonical_ls := ⟨⟨rfl, rfl, spec_l01Canonical_l0_r⟩, ⟨⟨rfl, rfl, spec_l01Canonical_l1_r⟩, ⟨⟨rfl, rfl, spec_l01Canonical_l2_r⟩, trivial⟩⟩⟩
theorem spec_l01Canonical_e : ∀ v, (evFn (mkCtx Go.K.Link.seat spec_l01Canonical_c spec_l01Canonical_tab) (sums spec_l01Canonical_ls) 93 Go.Proofs.Tryz.f93 (encL spec_l01Canonical_s.a v)).run = (spec_l01Canonical_s.gen v).bind fun y => some (spec_l01Canonical_s.out y) := by
  rintro ⟨pre, ⟨per, _⟩⟩
  show _ = (spec_l01Canonical pre per).bind fun y : ((List UInt8) × ((List UInt8) × Unit)) => some (spec_l01Canonical_s.out y)
  simp only [spec_l01Canonical, kb_ite, kb_some, kb_none, kb_bind, kb_alt]
  kernel_rfl
theorem spec_l01Canonical_is : FnIs Go.Proofs.Tryz.prog 93 (modeOf []) (phi [spec_l01Canonical_s]) := spec_is (c := spec_l01Canonical_c) seatOK spec_l01Canonical_t Go.Proofs.Tryz.func93 rfl (code := spec_l01Canonical_code) rfl rfl spec_l01Canonical_rs spec_l01Canonical_e
noncomputable def spec_l01Seq_s : Spec := ⟨[.v (.pair (.str) (.pair (.str) (.unit))) .fr], Bool, fun v => spec_l01Seq v.1, fun r => ([.v (.bool) .fr r], [])⟩
noncomputable def spec_l01Seq_ls : List LSum := []
noncomputable def spec_l01Seq_tab : List Row := [⟨92, [], [spec_l01Letters_s]⟩, ⟨93, [], [spec_l01Canonical_s]⟩]
theorem spec_l01Seq_t : ∀ r, r ∈ spec_l01Seq_tab → RowIs Go.Proofs.Tryz.prog r := tab_cons (spec_l01Letters_is) (tab_cons (spec_l01Canonical_is) (tab_nil))
theorem spec_l01Seq_rs : RoundsOK (mkCtx Go.K.Link.seat spec_l01Seq_c spec_l01Seq_tab) (sums spec_l01Seq_ls) (loopsOf 0 spec_l01Seq_code) spec_l01Seq_ls := trivial
theorem spec_l01Seq_e : ∀ v, (evFn (mkCtx Go.K.Link.seat spec_l01Seq_c spec_l01Seq_tab) (sums spec_l01Seq_ls) 73 Go.Proofs.Tryz.f73 (encL spec_l01Seq_s.a v)).run = (spec_l01Seq_s.gen v).bind fun y => some (spec_l01Seq_s.out y) := by
  rintro ⟨s, _⟩
  show _ = (spec_l01Seq s).bind fun y : Bool => some (spec_l01Seq_s.out y)
  simp only [spec_l01Seq, kb_ite, kb_some, kb_none, kb_bind, kb_alt]
  kernel_rfl
theorem spec_l01Seq_is : FnIs Go.Proofs.Tryz.prog 73 (modeOf []) (phi [spec_l01Seq_s]) := spec_is (c := spec_l01Seq_c) seatOK spec_l01Seq_t Go.Proofs.Tryz.func73 rfl (code := spec_l01Seq_code) rfl rfl spec_l01Seq_rs spec_l01Seq_e
noncomputable def spec_l06Code_l0_s : LSum := ⟨0, ⟨[(1, .val (.sl 28 (.pair (.str) (.pair (.str) (.unit)))) .fr), (0, .val (.ptr (.pair (.str) (.pair (.str) (.unit)))) (.own .fr)), (2, .val (.int .i64) .fr)], 32⟩, (.ret, ⟨[(4, .val (.int .i64) .fr)], 33⟩), [(.exit 0, ⟨[(1, .val (.sl 28 (.pair (.str) (.pair (.str) (.unit)))) .fr), (0, .val (.ptr (.pair (.str) (.pair (.str) (.unit)))) (.own .fr))], 35⟩)], spec_l06Code_l0⟩
noncomputable def spec_l02Star_code : Code := (Go.Proofs.Tryz.f74.body).getD .skip
def spec_l02Star_c : Cfg := ⟨74, [], [[1, 3, 4], [], [2]], [], [], []⟩
noncomputable def spec_l02Star_l0_s : LSum := ⟨0, ⟨[(1, .val (.ptr (.pair (.str) (.pair (.str) (.unit)))) (.own .fr)), (1, .val (.int .i64) .fr), (0, .val (.int .i64) .fr)], 35⟩, (.ret, ⟨[(2, .val (.bool) .fr)], 37⟩), [(.exit 0, ⟨[], 40⟩)], spec_l02Star_l0⟩
noncomputable def spec_l02Star_s : Spec := ⟨[.v (.pair (.str) (.pair (.str) (.unit))) .fr], Bool, fun v => spec_l02Star v.1, fun r => ([.v (.bool) .fr r], [])⟩
noncomputable def spec_l02Star_ls : List LSum := [spec_l02Star_l0_s]
noncomputable def spec_l02Star_tab : List Row := []
theorem spec_l02Star_t : ∀ r, r ∈ spec_l02Star_tab → RowIs Go.Proofs.Tryz.prog r := tab_nil
theorem spec_l02Star_l0_r : RoundIs (mkCtx Go.K.Link.seat spec_l02Star_c spec_l02Star_tab) (sums spec_l02Star_ls) 0 (bodyAt (loopsOf 0 spec_l02Star_code) 0) spec_l02Star_l0_s := by
  rintro ⟨s, ⟨n, ⟨i, _⟩⟩⟩
  show _ = (spec_l02Star_l0 (s, (n, (i, ())))).bind fun r : (Ctl ((((List UInt8) × ((List UInt8) × Unit))) × Int × Int × Unit) ((Bool × Unit) ⊕ (Unit))) => some (ctlVal spec_l02Star_l0_s r)
  simp only [spec_l02Star_l0, kb_ite, kb_some, kb_none, kb_bind, kb_alt]
  kernel_rfl
theorem spec_l02Star_rs : RoundsOK (mkCtx Go.K.Link.seat spec_l02Star_c spec_l02Star_tab) (sums spec_l02Star_ls) (loopsOf 0 spec_l02Star_code) spec_l02Star_ls := ⟨⟨rfl, rfl, spec_l02Star_l0_r⟩, trivial⟩
theorem spec_l02Star_e : ∀ v, (evFn (mkCtx Go.K.Link.seat spec_l02Star_c spec_l02Star_tab) (sums spec_l02Star_ls) 74 Go.Proofs.Tryz.f74 (encL spec_l02Star_s.a v)).run = (spec_l02Star_s.gen v).bind fun y => some (spec_l02Star_s.out y) := by
  rintro ⟨s, _⟩
  show _ = (spec_l02Star s).bind fun y : Bool => some (spec_l02Star_s.out y)
  simp only [spec_l02Star, kb_ite, kb_some, kb_none, kb_bind, kb_alt]
  kernel_rfl
theorem spec_l02Star_is : FnIs Go.Proofs.Tryz.prog 74 (modeOf []) (phi [spec_l02Star_s]) := spec_is (c := spec_l02Star_c) seatOK spec_l02Star_t Go.Proofs.Tryz.func74 rfl (code := spec_l02Star_code) rfl rfl spec_l02Star_rs spec_l02Star_e
noncomputable def spec_l06Point_code : Code := (Go.Proofs.Tryz.f75.body).getD .skip
def spec_l06Point_c : Cfg := ⟨75, [], [[2, 3, 5, 6], [], [4]], [], [], []⟩
noncomputable def spec_l01Shift_code : Code := (Go.Proofs.Tryz.f45.body).getD .skip
def spec_l01Shift_c : Cfg := ⟨45, [], [], [], [], []⟩
noncomputable def spec_l01Shift_s : Spec := ⟨[.v (.pair (.str) (.pair (.str) (.unit))) .fr], ((List UInt8) × ((List UInt8) × Unit)), fun v => spec_l01Shift v.1, fun r => ([.v (.pair (.str) (.pair (.str) (.unit))) .fr r], [])⟩
noncomputable def spec_l01Shift_ls : List LSum := []
noncomputable def spec_l01Shift_tab : List Row := []
theorem spec_l01Shift_t : ∀ r, r ∈ spec_l01Shift_tab → RowIs Go.Proofs.Tryz.prog r := tab_nil
theorem spec_l01Shift_rs : RoundsOK (mkCtx Go.K.Link.seat spec_l01Shift_c spec_l01Shift_tab) (sums spec_l01Shift_ls) (loopsOf 0 spec_l01Shift_code) spec_l01Shift_ls := trivial
theorem spec_l01Shift_e : ∀ v, (evFn (mkCtx Go.K.Link.seat spec_l01Shift_c spec_l01Shift_tab) (sums spec_l01Shift_ls) 45 Go.Proofs.Tryz.f45 (encL spec_l01Shift_s.a v)).run = (spec_l01Shift_s.gen v).bind fun y => some (spec_l01Shift_s.out y) := by
  rintro ⟨s, _⟩
  show _ = (spec_l01Shift s).bind fun y : ((List UInt8) × ((List UInt8) × Unit)) => some (spec_l01Shift_s.out y)
  simp only [spec_l01Shift, kb_ite, kb_some, kb_none, kb_bind, kb_alt]
  kernel_rfl
theorem spec_l01Shift_is : FnIs Go.Proofs.Tryz.prog 45 (modeOf []) (phi [spec_l01Shift_s]) := spec_is (c := spec_l01Shift_c) seatOK spec_l01Shift_t Go.Proofs.Tryz.func45 rfl (code := spec_l01Shift_code) rfl rfl spec_l01Shift_rs spec_l01Shift_e
noncomputable def spec_l01At_code : Code := (Go.Proofs.Tryz.f94.body).getD .skip
def spec_l01At_c : Cfg := ⟨94, [], [], [], [], []⟩
noncomputable def spec_l01At_s : Spec := ⟨[.v (.pair (.str) (.pair (.str) (.unit))) .fr, .v (.int .i64) .fr], Int, fun v => spec_l01At v.1 v.2.1, fun r => ([.v (.int .u8) .fr r], [])⟩
noncomputable def spec_l01At_ls : List LSum := []
noncomputable def spec_l01At_tab : List Row := []
theorem spec_l01At_t : ∀ r, r ∈ spec_l01At_tab → RowIs Go.Proofs.Tryz.prog r := tab_nil
theorem spec_l01At_rs : RoundsOK (mkCtx Go.K.Link.seat spec_l01At_c spec_l01At_tab) (sums spec_l01At_ls) (loopsOf 0 spec_l01At_code) spec_l01At_ls := trivial
theorem spec_l01At_e : ∀ v, (evFn (mkCtx Go.K.Link.seat spec_l01At_c spec_l01At_tab) (sums spec_l01At_ls) 94 Go.Proofs.Tryz.f94 (encL spec_l01At_s.a v)).run = (spec_l01At_s.gen v).bind fun y => some (spec_l01At_s.out y) := by
  rintro ⟨s, ⟨k, _⟩⟩
  show _ = (spec_l01At s k).bind fun y : Int => some (spec_l01At_s.out y)
  simp only [spec_l01At, kb_ite, kb_some, kb_none, kb_bind, kb_alt]
  kernel_rfl
theorem spec_l01At_is : FnIs Go.Proofs.Tryz.prog 94 (modeOf []) (phi [spec_l01At_s]) := spec_is (c := spec_l01At_c) seatOK spec_l01At_t Go.Proofs.Tryz.func94 rfl (code := spec_l01At_code) rfl rfl spec_l01At_rs spec_l01At_e
noncomputable def spec_l06Point_l0_s : LSum := ⟨0, ⟨[(2, .val (.ptr (.pair (.str) (.pair (.str) (.unit)))) (.own .fr)), (0, .val (.ptr (.pair (.str) (.pair (.str) (.unit)))) (.own .fr)), (1, .val (.ptr (.pair (.str) (.pair (.str) (.unit)))) (.own .fr)), (0, .val (.int .i64) .fr)], 24⟩, (.ret, ⟨[(4, .val (.bool) .fr)], 26⟩), [(.exit 0, ⟨[], 31⟩)], spec_l06Point_l0⟩
noncomputable def spec_l06Point_s : Spec := ⟨[.v (.pair (.str) (.pair (.str) (.unit))) .fr, .v (.pair (.str) (.pair (.str) (.unit))) .fr], Bool, fun v => spec_l06Point v.1 v.2.1, fun r => ([.v (.bool) .fr r], [])⟩
noncomputable def spec_l06Point_ls : List LSum := [spec_l06Point_l0_s]
noncomputable def spec_l06Point_tab : List Row := [⟨45, [], [spec_l01Shift_s]⟩, ⟨94, [], [spec_l01At_s]⟩]
theorem spec_l06Point_t : ∀ r, r ∈ spec_l06Point_tab → RowIs Go.Proofs.Tryz.prog r := tab_cons (spec_l01Shift_is) (tab_cons (spec_l01At_is) (tab_nil))
theorem spec_l06Point_l0_r : RoundIs (mkCtx Go.K.Link.seat spec_l06Point_c spec_l06Point_tab) (sums spec_l06Point_ls) 0 (bodyAt (loopsOf 0 spec_l06Point_code) 0) spec_l06Point_l0_s := by
  rintro ⟨v, ⟨s, ⟨now, ⟨k, _⟩⟩⟩⟩
  show _ = (spec_l06Point_l0 (v, (s, (now, (k, ()))))).bind fun r : (Ctl ((((List UInt8) × ((List UInt8) × Unit))) × (((List UInt8) × ((List UInt8) × Unit))) × (((List UInt8) × ((List UInt8) × Unit))) × Int × Unit) ((Bool × Unit) ⊕ (Unit))) => some (ctlVal spec_l06Point_l0_s r)
  simp only [spec_l06Point_l0, kb_ite, kb_some, kb_none, kb_bind, kb_alt]
  kernel_rfl
theorem spec_l06Point_rs : RoundsOK (mkCtx Go.K.Link.seat spec_l06Point_c spec_l06Point_tab) (sums spec_l06Point_ls) (loopsOf 0 spec_l06Point_code) spec_l06Point_ls := ⟨⟨rfl, rfl, spec_l06Point_l0_r⟩, trivial⟩
theorem spec_l06Point_e : ∀ v, (evFn (mkCtx Go.K.Link.seat spec_l06Point_c spec_l06Point_tab) (sums spec_l06Point_ls) 75 Go.Proofs.Tryz.f75 (encL spec_l06Point_s.a v)).run = (spec_l06Point_s.gen v).bind fun y => some (spec_l06Point_s.out y) := by
  rintro ⟨v, ⟨s, _⟩⟩
  show _ = (spec_l06Point v s).bind fun y : Bool => some (spec_l06Point_s.out y)
  simp only [spec_l06Point, kb_ite, kb_some, kb_none, kb_bind, kb_alt]
  kernel_rfl
theorem spec_l06Point_is : FnIs Go.Proofs.Tryz.prog 75 (modeOf []) (phi [spec_l06Point_s]) := spec_is (c := spec_l06Point_c) seatOK spec_l06Point_t Go.Proofs.Tryz.func75 rfl (code := spec_l06Point_code) rfl rfl spec_l06Point_rs spec_l06Point_e
noncomputable def spec_l06Code_l1_s : LSum := ⟨2, ⟨[(1, .val (.sl 28 (.pair (.str) (.pair (.str) (.unit)))) .fr), (0, .val (.ptr (.pair (.str) (.pair (.str) (.unit)))) (.own .fr)), (3, .val (.int .i64) .fr)], 31⟩, (.ret, ⟨[(4, .val (.int .i64) .fr)], 33⟩), [(.exit 2, ⟨[], 38⟩)], spec_l06Code_l1⟩
noncomputable def spec_l06Code_s : Spec := ⟨[.v (.pair (.str) (.pair (.str) (.unit))) .fr, .v (.sl 28 (.pair (.str) (.pair (.str) (.unit)))) .fr], Int, fun v => spec_l06Code v.1 v.2.1, fun r => ([.v (.int .i64) .fr r], [])⟩
noncomputable def spec_l06Code_ls : List LSum := [spec_l06Code_l0_s, spec_l06Code_l1_s]
noncomputable def spec_l06Code_tab : List Row := [⟨73, [], [spec_l01Seq_s]⟩, ⟨74, [], [spec_l02Star_s]⟩, ⟨75, [], [spec_l06Point_s]⟩]
theorem spec_l06Code_t : ∀ r, r ∈ spec_l06Code_tab → RowIs Go.Proofs.Tryz.prog r := tab_cons (spec_l01Seq_is) (tab_cons (spec_l02Star_is) (tab_cons (spec_l06Point_is) (tab_nil)))
theorem spec_l06Code_l0_r : RoundIs (mkCtx Go.K.Link.seat spec_l06Code_c spec_l06Code_tab) (sums spec_l06Code_ls) 0 (bodyAt (loopsOf 0 spec_l06Code_code) 0) spec_l06Code_l0_s := by
  rintro ⟨points, ⟨v, ⟨i, _⟩⟩⟩
  show _ = (spec_l06Code_l0 (points, (v, (i, ())))).bind fun r : (Ctl ((List ((List UInt8) × ((List UInt8) × Unit))) × (((List UInt8) × ((List UInt8) × Unit))) × Int × Unit) ((Int × Unit) ⊕ ((List ((List UInt8) × ((List UInt8) × Unit))) × (((List UInt8) × ((List UInt8) × Unit))) × Unit))) => some (ctlVal spec_l06Code_l0_s r)
  simp only [spec_l06Code_l0, kb_ite, kb_some, kb_none, kb_bind, kb_alt]
  kernel_rfl
theorem spec_l06Code_l1_r : RoundIs (mkCtx Go.K.Link.seat spec_l06Code_c spec_l06Code_tab) (sums spec_l06Code_ls) 2 (bodyAt (loopsOf 0 spec_l06Code_code) 1) spec_l06Code_l1_s := by
  rintro ⟨points, ⟨v, ⟨i, _⟩⟩⟩
  show _ = (spec_l06Code_l1 (points, (v, (i, ())))).bind fun r : (Ctl ((List ((List UInt8) × ((List UInt8) × Unit))) × (((List UInt8) × ((List UInt8) × Unit))) × Int × Unit) ((Int × Unit) ⊕ (Unit))) => some (ctlVal spec_l06Code_l1_s r)
  simp only [spec_l06Code_l1, kb_ite, kb_some, kb_none, kb_bind, kb_alt]
  kernel_rfl
theorem spec_l06Code_rs : RoundsOK (mkCtx Go.K.Link.seat spec_l06Code_c spec_l06Code_tab) (sums spec_l06Code_ls) (loopsOf 0 spec_l06Code_code) spec_l06Code_ls := ⟨⟨rfl, rfl, spec_l06Code_l0_r⟩, ⟨⟨rfl, rfl, spec_l06Code_l1_r⟩, trivial⟩⟩
theorem spec_l06Code_e : ∀ v, (evFn (mkCtx Go.K.Link.seat spec_l06Code_c spec_l06Code_tab) (sums spec_l06Code_ls) 56 Go.Proofs.Tryz.f56 (encL spec_l06Code_s.a v)).run = (spec_l06Code_s.gen v).bind fun y => some (spec_l06Code_s.out y) := by
  rintro ⟨v, ⟨points, _⟩⟩
  show _ = (spec_l06Code v points).bind fun y : Int => some (spec_l06Code_s.out y)
  simp only [spec_l06Code, kb_ite, kb_some, kb_none, kb_bind, kb_alt]
  kernel_rfl
theorem spec_l06Code_is : FnIs Go.Proofs.Tryz.prog 56 (modeOf []) (phi [spec_l06Code_s]) := spec_is (c := spec_l06Code_c) seatOK spec_l06Code_t Go.Proofs.Tryz.func56 rfl (code := spec_l06Code_code) rfl rfl spec_l06Code_rs spec_l06Code_e
noncomputable def spec_l06Tree_s : Spec := ⟨[.v (.pair (.str) (.pair (.str) (.unit))) .fr], Int, fun v => spec_l06Tree v.1, fun r => ([.v (.int .i64) .fr r], [])⟩
noncomputable def spec_l06Tree_ls : List LSum := []
noncomputable def spec_l06Tree_tab : List Row := [⟨56, [], [spec_l06Code_s]⟩]
theorem spec_l06Tree_t : ∀ r, r ∈ spec_l06Tree_tab → RowIs Go.Proofs.Tryz.prog r := tab_cons (spec_l06Code_is) (tab_nil)
theorem spec_l06Tree_rs : RoundsOK (mkCtx Go.K.Link.seat spec_l06Tree_c spec_l06Tree_tab) (sums spec_l06Tree_ls) (loopsOf 0 spec_l06Tree_code) spec_l06Tree_ls := trivial
theorem spec_l06Tree_e : ∀ v, (evFn (mkCtx Go.K.Link.seat spec_l06Tree_c spec_l06Tree_tab) (sums spec_l06Tree_ls) 35 Go.Proofs.Tryz.f35 (encL spec_l06Tree_s.a v)).run = (spec_l06Tree_s.gen v).bind fun y => some (spec_l06Tree_s.out y) := by
  rintro ⟨v, _⟩
  show _ = (spec_l06Tree v).bind fun y : Int => some (spec_l06Tree_s.out y)
  simp only [spec_l06Tree, kb_ite, kb_some, kb_none, kb_bind, kb_alt]
  kernel_rfl
theorem spec_l06Tree_is : FnIs Go.Proofs.Tryz.prog 35 (modeOf []) (phi [spec_l06Tree_s]) := spec_is (c := spec_l06Tree_c) seatOK spec_l06Tree_t Go.Proofs.Tryz.func35 rfl (code := spec_l06Tree_code) rfl rfl spec_l06Tree_rs spec_l06Tree_e
noncomputable def spec_l06Vertices_code : Code := (Go.Proofs.Tryz.f36.body).getD .skip
def spec_l06Vertices_c : Cfg := ⟨36, [], [], [], [], []⟩
noncomputable def spec_l06Branches_code : Code := (Go.Proofs.Tryz.f57.body).getD .skip
def spec_l06Branches_c : Cfg := ⟨57, [], [[1, 4, 5, 6, 14, 15, 120, 121], [5, 15, 120], [2, 3, 5, 15, 120, 121], [], [], [], [1, 4, 5, 6, 7, 14, 15, 120, 121], [1, 4, 5, 6, 14, 15, 120, 121], [2, 3, 5, 15, 120, 121], [], [], [], [1, 4, 5, 6, 7, 8, 14, 15, 120, 121], [1, 4, 5, 6, 7, 14, 15, 120, 121], [2, 3, 5, 15, 120, 121], [], [], [], [1, 4, 5, 6, 7, 8, 9, 11, 14, 15, 120, 121], [1, 4, 5, 6, 7, 8, 9, 11, 14, 15, 120, 121], [2, 3, 5, 15, 120, 121]], [], [], []⟩
noncomputable def spec_l06Orbit_code : Code := (Go.Proofs.Tryz.f58.body).getD .skip
def spec_l06Orbit_c : Cfg := ⟨58, [], [[1, 3, 4, 5, 6, 18], [3, 6, 18], [2, 3, 6, 18, 21]], [], [], []⟩
noncomputable def spec_l06Orbit_l0_s : LSum := ⟨0, ⟨[(1, .val (.ptr (.pair (.str) (.pair (.str) (.unit)))) (.own .fr)), (1, .val (.sl 28 (.pair (.str) (.pair (.str) (.unit)))) (.own .fr)), (0, .val (.ptr (.pair (.str) (.pair (.str) (.unit)))) (.own .fr)), (0, .val (.int .i64) .fr)], 16⟩, (.exit 0, ⟨[(3, .val (.sl 28 (.pair (.str) (.pair (.str) (.unit)))) (.own .fr))], 18⟩), [], spec_l06Orbit_l0⟩
noncomputable def spec_l06Orbit_s : Spec := ⟨[.v (.pair (.str) (.pair (.str) (.unit))) .fr], (List ((List UInt8) × ((List UInt8) × Unit))), fun v => spec_l06Orbit v.1, fun r => ([.v (.sl 28 (.pair (.str) (.pair (.str) (.unit)))) (.own .fr) r], [])⟩
noncomputable def spec_l06Orbit_ls : List LSum := [spec_l06Orbit_l0_s]
noncomputable def spec_l06Orbit_tab : List Row := [⟨45, [], [spec_l01Shift_s]⟩]
theorem spec_l06Orbit_t : ∀ r, r ∈ spec_l06Orbit_tab → RowIs Go.Proofs.Tryz.prog r := tab_cons (spec_l01Shift_is) (tab_nil)
theorem spec_l06Orbit_l0_r : RoundIs (mkCtx Go.K.Link.seat spec_l06Orbit_c spec_l06Orbit_tab) (sums spec_l06Orbit_ls) 0 (bodyAt (loopsOf 0 spec_l06Orbit_code) 0) spec_l06Orbit_l0_s := by
  rintro ⟨v, ⟨out, ⟨now, ⟨k, _⟩⟩⟩⟩
  show _ = (spec_l06Orbit_l0 (v, (out, (now, (k, ()))))).bind fun r : (Ctl ((((List UInt8) × ((List UInt8) × Unit))) × (List ((List UInt8) × ((List UInt8) × Unit))) × (((List UInt8) × ((List UInt8) × Unit))) × Int × Unit) (((List ((List UInt8) × ((List UInt8) × Unit))) × Unit))) => some (ctlVal spec_l06Orbit_l0_s r)
  simp only [spec_l06Orbit_l0, kb_ite, kb_some, kb_none, kb_bind, kb_alt]
  kernel_rfl
theorem spec_l06Orbit_rs : RoundsOK (mkCtx Go.K.Link.seat spec_l06Orbit_c spec_l06Orbit_tab) (sums spec_l06Orbit_ls) (loopsOf 0 spec_l06Orbit_code) spec_l06Orbit_ls := ⟨⟨rfl, rfl, spec_l06Orbit_l0_r⟩, trivial⟩
theorem spec_l06Orbit_e : ∀ v, (evFn (mkCtx Go.K.Link.seat spec_l06Orbit_c spec_l06Orbit_tab) (sums spec_l06Orbit_ls) 58 Go.Proofs.Tryz.f58 (encL spec_l06Orbit_s.a v)).run = (spec_l06Orbit_s.gen v).bind fun y => some (spec_l06Orbit_s.out y) := by
  rintro ⟨v, _⟩
  show _ = (spec_l06Orbit v).bind fun y : (List ((List UInt8) × ((List UInt8) × Unit))) => some (spec_l06Orbit_s.out y)
  simp only [spec_l06Orbit, kb_ite, kb_some, kb_none, kb_bind, kb_alt]
  kernel_rfl
theorem spec_l06Orbit_is : FnIs Go.Proofs.Tryz.prog 58 (modeOf []) (phi [spec_l06Orbit_s]) := spec_is (c := spec_l06Orbit_c) seatOK spec_l06Orbit_t Go.Proofs.Tryz.func58 rfl (code := spec_l06Orbit_code) rfl rfl spec_l06Orbit_rs spec_l06Orbit_e
noncomputable def spec_l06Middle_code : Code := (Go.Proofs.Tryz.f76.body).getD .skip
def spec_l06Middle_c : Cfg := ⟨76, [], [[2, 3, 4, 6, 7, 8, 16, 17, 85, 89], [4], [4, 5], [], [], [], [2, 3, 4, 6, 7, 8, 11, 13, 16, 17, 85, 89], [2, 3, 4, 6, 7, 8, 11, 16, 17, 85, 89], [4, 5], [], [], [], [2, 3, 4, 6, 7, 8, 11, 14, 16, 17, 85, 89], [2, 3, 4, 6, 7, 8, 16, 17, 85, 89], [4, 5]], [], [], []⟩
noncomputable def spec_l06Same_code : Code := (Go.Proofs.Tryz.f95.body).getD .skip
def spec_l06Same_c : Cfg := ⟨95, [], [], [], [], []⟩
noncomputable def spec_l06Same_s : Spec := ⟨[.v (.arr 3 (.pair (.str) (.pair (.str) (.unit)))) .fr], ((List UInt8) × ((List UInt8) × Unit)) × Bool, fun v => spec_l06Same v.1, fun r => ([.v (.pair (.str) (.pair (.str) (.unit))) .fr r.1, .v (.bool) .fr r.2], [])⟩
noncomputable def spec_l06Same_ls : List LSum := []
noncomputable def spec_l06Same_tab : List Row := []
theorem spec_l06Same_t : ∀ r, r ∈ spec_l06Same_tab → RowIs Go.Proofs.Tryz.prog r := tab_nil
theorem spec_l06Same_rs : RoundsOK (mkCtx Go.K.Link.seat spec_l06Same_c spec_l06Same_tab) (sums spec_l06Same_ls) (loopsOf 0 spec_l06Same_code) spec_l06Same_ls := trivial
theorem spec_l06Same_e : ∀ v, (evFn (mkCtx Go.K.Link.seat spec_l06Same_c spec_l06Same_tab) (sums spec_l06Same_ls) 95 Go.Proofs.Tryz.f95 (encL spec_l06Same_s.a v)).run = (spec_l06Same_s.gen v).bind fun y => some (spec_l06Same_s.out y) := by
  rintro ⟨p, _⟩
  show _ = (spec_l06Same p).bind fun y : ((List UInt8) × ((List UInt8) × Unit)) × Bool => some (spec_l06Same_s.out y)
  simp only [spec_l06Same, kb_ite, kb_some, kb_none, kb_bind, kb_alt]
  kernel_rfl
theorem spec_l06Same_is : FnIs Go.Proofs.Tryz.prog 95 (modeOf []) (phi [spec_l06Same_s]) := spec_is (c := spec_l06Same_c) seatOK spec_l06Same_t Go.Proofs.Tryz.func95 rfl (code := spec_l06Same_code) rfl rfl spec_l06Same_rs spec_l06Same_e
noncomputable def spec_l06Told_code : Code := (Go.Proofs.Tryz.f96.body).getD .skip
def spec_l06Told_c : Cfg := ⟨96, [], [], [], [], []⟩
noncomputable def spec_l06Told_s : Spec := ⟨[.v (.str) .fr, .v (.str) .fr], ((List UInt8) × ((List UInt8) × Unit)) × Bool, fun v => spec_l06Told v.1 v.2.1, fun r => ([.v (.pair (.str) (.pair (.str) (.unit))) .fr r.1, .v (.bool) .fr r.2], [])⟩
noncomputable def spec_l06Told_ls : List LSum := []
noncomputable def spec_l06Told_tab : List Row := [⟨93, [], [spec_l01Canonical_s]⟩]
theorem spec_l06Told_t : ∀ r, r ∈ spec_l06Told_tab → RowIs Go.Proofs.Tryz.prog r := tab_cons (spec_l01Canonical_is) (tab_nil)
theorem spec_l06Told_rs : RoundsOK (mkCtx Go.K.Link.seat spec_l06Told_c spec_l06Told_tab) (sums spec_l06Told_ls) (loopsOf 0 spec_l06Told_code) spec_l06Told_ls := trivial
theorem spec_l06Told_e : ∀ v, (evFn (mkCtx Go.K.Link.seat spec_l06Told_c spec_l06Told_tab) (sums spec_l06Told_ls) 96 Go.Proofs.Tryz.f96 (encL spec_l06Told_s.a v)).run = (spec_l06Told_s.gen v).bind fun y => some (spec_l06Told_s.out y) := by
  rintro ⟨pre, ⟨per, _⟩⟩
  show _ = (spec_l06Told pre per).bind fun y : ((List UInt8) × ((List UInt8) × Unit)) × Bool => some (spec_l06Told_s.out y)
  simp only [spec_l06Told, kb_ite, kb_some, kb_none, kb_bind, kb_alt]
  kernel_rfl
theorem spec_l06Told_is : FnIs Go.Proofs.Tryz.prog 96 (modeOf []) (phi [spec_l06Told_s]) := spec_is (c := spec_l06Told_c) seatOK spec_l06Told_t Go.Proofs.Tryz.func96 rfl (code := spec_l06Told_code) rfl rfl spec_l06Told_rs spec_l06Told_e
noncomputable def spec_l06Letters_code : Code := (Go.Proofs.Tryz.f97.body).getD .skip
def spec_l06Letters_c : Cfg := ⟨97, [], [[1, 4, 5, 6], [4, 5], [2, 3]], [], [], []⟩
noncomputable def spec_l06Letters_l0_s : LSum := ⟨0, ⟨[(1, .val (.ptr (.arr 3 (.pair (.str) (.pair (.str) (.unit))))) (.own .fr)), (2, .val (.ptr (.arr 2 (.int .i64))) (.own .fr)), (0, .val (.int .i64) .fr), (0, .val (.int .i64) .fr)], 38⟩, (.exit 0, ⟨[(4, .val (.ptr (.arr 2 (.int .i64))) (.own .fr)), (0, .val (.int .i64) .fr)], 39⟩), [], spec_l06Letters_l0⟩
noncomputable def spec_l06Letters_s : Spec := ⟨[.v (.arr 3 (.pair (.str) (.pair (.str) (.unit)))) .fr], Int × Int, fun v => spec_l06Letters v.1, fun r => ([.v (.int .u8) .fr r.1, .v (.int .i64) .fr r.2], [])⟩
noncomputable def spec_l06Letters_ls : List LSum := [spec_l06Letters_l0_s]
noncomputable def spec_l06Letters_tab : List Row := [⟨94, [], [spec_l01At_s]⟩]
theorem spec_l06Letters_t : ∀ r, r ∈ spec_l06Letters_tab → RowIs Go.Proofs.Tryz.prog r := tab_cons (spec_l01At_is) (tab_nil)
theorem spec_l06Letters_l0_r : RoundIs (mkCtx Go.K.Link.seat spec_l06Letters_c spec_l06Letters_tab) (sums spec_l06Letters_ls) 0 (bodyAt (loopsOf 0 spec_l06Letters_code) 0) spec_l06Letters_l0_s := by
  rintro ⟨p, ⟨counts, ⟨star, ⟨i, _⟩⟩⟩⟩
  show _ = (spec_l06Letters_l0 (p, (counts, (star, (i, ()))))).bind fun r : (Ctl ((List ((List UInt8) × ((List UInt8) × Unit))) × (List Int) × Int × Int × Unit) (((List Int) × Int × Unit))) => some (ctlVal spec_l06Letters_l0_s r)
  simp only [spec_l06Letters_l0, kb_ite, kb_some, kb_none, kb_bind, kb_alt]
  kernel_rfl
theorem spec_l06Letters_rs : RoundsOK (mkCtx Go.K.Link.seat spec_l06Letters_c spec_l06Letters_tab) (sums spec_l06Letters_ls) (loopsOf 0 spec_l06Letters_code) spec_l06Letters_ls := ⟨⟨rfl, rfl, spec_l06Letters_l0_r⟩, trivial⟩
theorem spec_l06Letters_e : ∀ v, (evFn (mkCtx Go.K.Link.seat spec_l06Letters_c spec_l06Letters_tab) (sums spec_l06Letters_ls) 97 Go.Proofs.Tryz.f97 (encL spec_l06Letters_s.a v)).run = (spec_l06Letters_s.gen v).bind fun y => some (spec_l06Letters_s.out y) := by
  rintro ⟨p, _⟩
  show _ = (spec_l06Letters p).bind fun y : Int × Int => some (spec_l06Letters_s.out y)
  simp only [spec_l06Letters, kb_ite, kb_some, kb_none, kb_bind, kb_alt]
  kernel_rfl
theorem spec_l06Letters_is : FnIs Go.Proofs.Tryz.prog 97 (modeOf []) (phi [spec_l06Letters_s]) := spec_is (c := spec_l06Letters_c) seatOK spec_l06Letters_t Go.Proofs.Tryz.func97 rfl (code := spec_l06Letters_code) rfl rfl spec_l06Letters_rs spec_l06Letters_e
noncomputable def spec_l06Middle_l1_s : LSum := ⟨2, ⟨[(2, .val (.ptr (.pair (.str) (.pair (.str) (.unit)))) (.own .fr)), (0, .val (.ptr (.arr 3 (.pair (.str) (.pair (.str) (.unit))))) (.own .fr)), (0, .val (.ptr (.pair (.str) (.pair (.str) (.unit)))) (.own .fr)), (1, .val (.sl 5 (.int .u8)) (.own .fr)), (0, .val (.sl 89 (.arr 3 (.pair (.str) (.pair (.str) (.unit))))) (.own .fr)), (0, .val (.int .i64) .fr), (2, .val (.int .u8) .fr), (1, .val (.int .i64) .fr)], 101⟩, (.ret, ⟨[(4, .val (.ptr (.pair (.str) (.pair (.str) (.unit)))) (.own .fr)), (0, .val (.bool) .fr)], 109⟩), [(.exit 2, ⟨[(2, .val (.ptr (.pair (.str) (.pair (.str) (.unit)))) (.own .fr)), (0, .val (.ptr (.arr 3 (.pair (.str) (.pair (.str) (.unit))))) (.own .fr)), (0, .val (.ptr (.pair (.str) (.pair (.str) (.unit)))) (.own .fr)), (1, .val (.sl 5 (.int .u8)) (.own .fr)), (0, .val (.sl 89 (.arr 3 (.pair (.str) (.pair (.str) (.unit))))) (.own .fr)), (0, .val (.int .i64) .fr), (2, .val (.int .u8) .fr)], 103⟩)], spec_l06Middle_l1⟩
noncomputable def spec_l06Middle_l2_s : LSum := ⟨4, ⟨[(2, .val (.ptr (.pair (.str) (.pair (.str) (.unit)))) (.own .fr)), (0, .val (.ptr (.arr 3 (.pair (.str) (.pair (.str) (.unit))))) (.own .fr)), (0, .val (.ptr (.pair (.str) (.pair (.str) (.unit)))) (.own .fr)), (1, .val (.sl 5 (.int .u8)) (.own .fr)), (0, .val (.sl 89 (.arr 3 (.pair (.str) (.pair (.str) (.unit))))) (.own .fr)), (0, .val (.int .i64) .fr), (2, .val (.int .u8) .fr), (2, .val (.int .i64) .fr)], 100⟩, (.exit 4, ⟨[(2, .val (.ptr (.pair (.str) (.pair (.str) (.unit)))) (.own .fr)), (0, .val (.ptr (.arr 3 (.pair (.str) (.pair (.str) (.unit))))) (.own .fr)), (0, .val (.ptr (.pair (.str) (.pair (.str) (.unit)))) (.own .fr)), (1, .val (.sl 5 (.int .u8)) (.own .fr)), (0, .val (.sl 89 (.arr 3 (.pair (.str) (.pair (.str) (.unit))))) (.own .fr)), (0, .val (.int .i64) .fr)], 106⟩), [], spec_l06Middle_l2⟩
noncomputable def spec_l06Middle_l0_s : LSum := ⟨0, ⟨[(2, .val (.ptr (.pair (.str) (.pair (.str) (.unit)))) (.own .fr)), (0, .val (.ptr (.arr 3 (.pair (.str) (.pair (.str) (.unit))))) (.own .fr)), (0, .val (.ptr (.pair (.str) (.pair (.str) (.unit)))) (.own .fr)), (1, .val (.sl 5 (.int .u8)) (.own .fr)), (0, .val (.sl 89 (.arr 3 (.pair (.str) (.pair (.str) (.unit))))) (.own .fr)), (0, .val (.int .i64) .fr)], 106⟩, (.ret, ⟨[(4, .val (.ptr (.pair (.str) (.pair (.str) (.unit)))) (.own .fr)), (0, .val (.bool) .fr)], 109⟩), [(.exit 0, ⟨[(4, .val (.ptr (.pair (.str) (.pair (.str) (.unit)))) (.own .fr))], 110⟩)], spec_l06Middle_l0⟩
noncomputable def spec_l06Middle_s : Spec := ⟨[.v (.pair (.str) (.pair (.str) (.unit))) .fr, .v (.arr 3 (.pair (.str) (.pair (.str) (.unit)))) .fr], ((List UInt8) × ((List UInt8) × Unit)) × Bool, fun v => spec_l06Middle v.1 v.2.1, fun r => ([.v (.pair (.str) (.pair (.str) (.unit))) .fr r.1, .v (.bool) .fr r.2], [])⟩
noncomputable def spec_l06Middle_ls : List LSum := [spec_l06Middle_l0_s, spec_l06Middle_l1_s, spec_l06Middle_l2_s]
noncomputable def spec_l06Middle_tab : List Row := [⟨96, [], [spec_l06Told_s]⟩, ⟨97, [], [spec_l06Letters_s]⟩, ⟨45, [], [spec_l01Shift_s]⟩, ⟨94, [], [spec_l01At_s]⟩, ⟨95, [], [spec_l06Same_s]⟩]
theorem spec_l06Middle_t : ∀ r, r ∈ spec_l06Middle_tab → RowIs Go.Proofs.Tryz.prog r := tab_cons (spec_l06Told_is) (tab_cons (spec_l06Letters_is) (tab_cons (spec_l01Shift_is) (tab_cons (spec_l01At_is) (tab_cons (spec_l06Same_is) (tab_nil)))))
theorem spec_l06Middle_l0_r : RoundIs (mkCtx Go.K.Link.seat spec_l06Middle_c spec_l06Middle_tab) (sums spec_l06Middle_ls) 0 (bodyAt (loopsOf 0 spec_l06Middle_code) 0) spec_l06Middle_l0_s := by
  rintro ⟨v, ⟨p, ⟨t4, ⟨word', ⟨seen, ⟨step, _⟩⟩⟩⟩⟩⟩
  show _ = (spec_l06Middle_l0 (v, (p, (t4, (word', (seen, (step, ()))))))).bind fun r : (Ctl ((((List UInt8) × ((List UInt8) × Unit))) × (List ((List UInt8) × ((List UInt8) × Unit))) × (((List UInt8) × ((List UInt8) × Unit))) × (List Int) × (List (List ((List UInt8) × ((List UInt8) × Unit)))) × Int × Unit) (((((List UInt8) × ((List UInt8) × Unit))) × Bool × Unit) ⊕ ((((List UInt8) × ((List UInt8) × Unit))) × Unit))) => some (ctlVal spec_l06Middle_l0_s r)
  simp only [spec_l06Middle_l0, kb_ite, kb_some, kb_none, kb_bind, kb_alt]
  kernel_rfl
theorem spec_l06Middle_l1_r : RoundIs (mkCtx Go.K.Link.seat spec_l06Middle_c spec_l06Middle_tab) (sums spec_l06Middle_ls) 2 (bodyAt (loopsOf 0 spec_l06Middle_code) 1) spec_l06Middle_l1_s := by
  rintro ⟨v, ⟨p, ⟨t4, ⟨word', ⟨seen, ⟨step, ⟨letter, ⟨i, _⟩⟩⟩⟩⟩⟩⟩⟩
  show _ = (spec_l06Middle_l1 (v, (p, (t4, (word', (seen, (step, (letter, (i, ()))))))))).bind fun r : (Ctl ((((List UInt8) × ((List UInt8) × Unit))) × (List ((List UInt8) × ((List UInt8) × Unit))) × (((List UInt8) × ((List UInt8) × Unit))) × (List Int) × (List (List ((List UInt8) × ((List UInt8) × Unit)))) × Int × Int × Int × Unit) (((((List UInt8) × ((List UInt8) × Unit))) × Bool × Unit) ⊕ ((((List UInt8) × ((List UInt8) × Unit))) × (List ((List UInt8) × ((List UInt8) × Unit))) × (((List UInt8) × ((List UInt8) × Unit))) × (List Int) × (List (List ((List UInt8) × ((List UInt8) × Unit)))) × Int × Int × Unit))) => some (ctlVal spec_l06Middle_l1_s r)
  simp only [spec_l06Middle_l1, kb_ite, kb_some, kb_none, kb_bind, kb_alt]
  kernel_rfl
theorem spec_l06Middle_l2_r : RoundIs (mkCtx Go.K.Link.seat spec_l06Middle_c spec_l06Middle_tab) (sums spec_l06Middle_ls) 4 (bodyAt (loopsOf 0 spec_l06Middle_code) 2) spec_l06Middle_l2_s := by
  rintro ⟨v, ⟨p, ⟨t4, ⟨word', ⟨seen, ⟨step, ⟨letter, ⟨i, _⟩⟩⟩⟩⟩⟩⟩⟩
  show _ = (spec_l06Middle_l2 (v, (p, (t4, (word', (seen, (step, (letter, (i, ()))))))))).bind fun r : (Ctl ((((List UInt8) × ((List UInt8) × Unit))) × (List ((List UInt8) × ((List UInt8) × Unit))) × (((List UInt8) × ((List UInt8) × Unit))) × (List Int) × (List (List ((List UInt8) × ((List UInt8) × Unit)))) × Int × Int × Int × Unit) (((((List UInt8) × ((List UInt8) × Unit))) × (List ((List UInt8) × ((List UInt8) × Unit))) × (((List UInt8) × ((List UInt8) × Unit))) × (List Int) × (List (List ((List UInt8) × ((List UInt8) × Unit)))) × Int × Unit))) => some (ctlVal spec_l06Middle_l2_s r)
  simp only [spec_l06Middle_l2, kb_ite, kb_some, kb_none, kb_bind, kb_alt]
  kernel_rfl
theorem spec_l06Middle_rs : RoundsOK (mkCtx Go.K.Link.seat spec_l06Middle_c spec_l06Middle_tab) (sums spec_l06Middle_ls) (loopsOf 0 spec_l06Middle_code) spec_l06Middle_ls := ⟨⟨rfl, rfl, spec_l06Middle_l0_r⟩, ⟨⟨rfl, rfl, spec_l06Middle_l1_r⟩, ⟨⟨rfl, rfl, spec_l06Middle_l2_r⟩, trivial⟩⟩⟩
theorem spec_l06Middle_e : ∀ v, (evFn (mkCtx Go.K.Link.seat spec_l06Middle_c spec_l06Middle_tab) (sums spec_l06Middle_ls) 76 Go.Proofs.Tryz.f76 (encL spec_l06Middle_s.a v)).run = (spec_l06Middle_s.gen v).bind fun y => some (spec_l06Middle_s.out y) := by
  rintro ⟨v, ⟨p, _⟩⟩
  show _ = (spec_l06Middle v p).bind fun y : ((List UInt8) × ((List UInt8) × Unit)) × Bool => some (spec_l06Middle_s.out y)
  simp only [spec_l06Middle, kb_ite, kb_some, kb_none, kb_bind, kb_alt]
  kernel_rfl
theorem spec_l06Middle_is : FnIs Go.Proofs.Tryz.prog 76 (modeOf []) (phi [spec_l06Middle_s]) := spec_is (c := spec_l06Middle_c) seatOK spec_l06Middle_t Go.Proofs.Tryz.func76 rfl (code := spec_l06Middle_code) rfl rfl spec_l06Middle_rs spec_l06Middle_e
noncomputable def spec_l06Text_code : Code := (Go.Proofs.Tryz.f77.body).getD .skip
def spec_l06Text_c : Cfg := ⟨77, [], [], [], [], []⟩
noncomputable def spec_l06Text_s : Spec := ⟨[.v (.pair (.str) (.pair (.str) (.unit))) .fr], (List UInt8), fun v => spec_l06Text v.1, fun r => ([.v (.str) .fr r], [])⟩
noncomputable def spec_l06Text_ls : List LSum := []
noncomputable def spec_l06Text_tab : List Row := []
theorem spec_l06Text_t : ∀ r, r ∈ spec_l06Text_tab → RowIs Go.Proofs.Tryz.prog r := tab_nil
theorem spec_l06Text_rs : RoundsOK (mkCtx Go.K.Link.seat spec_l06Text_c spec_l06Text_tab) (sums spec_l06Text_ls) (loopsOf 0 spec_l06Text_code) spec_l06Text_ls := trivial
theorem spec_l06Text_e : ∀ v, (evFn (mkCtx Go.K.Link.seat spec_l06Text_c spec_l06Text_tab) (sums spec_l06Text_ls) 77 Go.Proofs.Tryz.f77 (encL spec_l06Text_s.a v)).run = (spec_l06Text_s.gen v).bind fun y => some (spec_l06Text_s.out y) := by
  rintro ⟨s, _⟩
  show _ = (spec_l06Text s).bind fun y : (List UInt8) => some (spec_l06Text_s.out y)
  simp only [spec_l06Text, kb_ite, kb_some, kb_none, kb_bind, kb_alt]
  kernel_rfl
theorem spec_l06Text_is : FnIs Go.Proofs.Tryz.prog 77 (modeOf []) (phi [spec_l06Text_s]) := spec_is (c := spec_l06Text_c) seatOK spec_l06Text_t Go.Proofs.Tryz.func77 rfl (code := spec_l06Text_code) rfl rfl spec_l06Text_rs spec_l06Text_e
noncomputable def spec_l06Branches_l3_s : LSum := ⟨6, ⟨[(1, .val (.ptr (.pair (.str) (.pair (.str) (.unit)))) (.own .fr)), (2, .val (.sl 28 (.pair (.str) (.pair (.str) (.unit)))) (.own .fr)), (0, .val (.sl 28 (.pair (.str) (.pair (.str) (.unit)))) (.own .fr)), (0, .val (.int .i64) .fr), (0, .val (.int .i64) .fr), (0, .val (.int .i64) .fr), (0, .val (.ptr (.pair (.str) (.pair (.str) (.unit)))) (.own .fr)), (1, .val (.int .i64) .fr)], 110⟩, (.exit 6, ⟨[(1, .val (.ptr (.pair (.str) (.pair (.str) (.unit)))) (.own .fr)), (2, .val (.sl 28 (.pair (.str) (.pair (.str) (.unit)))) (.own .fr)), (0, .val (.sl 28 (.pair (.str) (.pair (.str) (.unit)))) (.own .fr)), (0, .val (.int .i64) .fr), (0, .val (.int .i64) .fr), (0, .val (.int .i64) .fr), (0, .val (.ptr (.pair (.str) (.pair (.str) (.unit)))) (.own .fr)), (1, .val (.int .i64) .fr)], 110⟩), [], spec_l06Branches_l3⟩
noncomputable def spec_l06Branches_l2_s : LSum := ⟨4, ⟨[(1, .val (.ptr (.pair (.str) (.pair (.str) (.unit)))) (.own .fr)), (2, .val (.sl 28 (.pair (.str) (.pair (.str) (.unit)))) (.own .fr)), (0, .val (.sl 28 (.pair (.str) (.pair (.str) (.unit)))) (.own .fr)), (0, .val (.int .i64) .fr), (0, .val (.int .i64) .fr), (0, .val (.int .i64) .fr)], 113⟩, (.ret, ⟨[(2, .val (.sl 28 (.pair (.str) (.pair (.str) (.unit)))) (.own .fr)), (0, .val (.bool) .fr), (1, .val (.sl 28 (.pair (.str) (.pair (.str) (.unit)))) (.own .fr))], 116⟩), [(.exit 4, ⟨[(1, .val (.ptr (.pair (.str) (.pair (.str) (.unit)))) (.own .fr)), (2, .val (.sl 28 (.pair (.str) (.pair (.str) (.unit)))) (.own .fr)), (0, .val (.sl 28 (.pair (.str) (.pair (.str) (.unit)))) (.own .fr)), (0, .val (.int .i64) .fr), (0, .val (.int .i64) .fr)], 114⟩)], spec_l06Branches_l2⟩
noncomputable def spec_l06Branches_l1_s : LSum := ⟨2, ⟨[(1, .val (.ptr (.pair (.str) (.pair (.str) (.unit)))) (.own .fr)), (2, .val (.sl 28 (.pair (.str) (.pair (.str) (.unit)))) (.own .fr)), (0, .val (.sl 28 (.pair (.str) (.pair (.str) (.unit)))) (.own .fr)), (0, .val (.int .i64) .fr), (0, .val (.int .i64) .fr)], 114⟩, (.ret, ⟨[(2, .val (.sl 28 (.pair (.str) (.pair (.str) (.unit)))) (.own .fr)), (0, .val (.bool) .fr), (1, .val (.sl 28 (.pair (.str) (.pair (.str) (.unit)))) (.own .fr))], 116⟩), [(.exit 2, ⟨[(1, .val (.ptr (.pair (.str) (.pair (.str) (.unit)))) (.own .fr)), (2, .val (.sl 28 (.pair (.str) (.pair (.str) (.unit)))) (.own .fr)), (0, .val (.sl 28 (.pair (.str) (.pair (.str) (.unit)))) (.own .fr)), (0, .val (.int .i64) .fr)], 115⟩)], spec_l06Branches_l1⟩
noncomputable def spec_l06Branches_l0_s : LSum := ⟨0, ⟨[(1, .val (.ptr (.pair (.str) (.pair (.str) (.unit)))) (.own .fr)), (2, .val (.sl 28 (.pair (.str) (.pair (.str) (.unit)))) (.own .fr)), (0, .val (.sl 28 (.pair (.str) (.pair (.str) (.unit)))) (.own .fr)), (0, .val (.int .i64) .fr)], 115⟩, (.ret, ⟨[(2, .val (.sl 28 (.pair (.str) (.pair (.str) (.unit)))) (.own .fr)), (0, .val (.bool) .fr), (1, .val (.sl 28 (.pair (.str) (.pair (.str) (.unit)))) (.own .fr))], 116⟩), [(.exit 0, ⟨[(5, .val (.sl 28 (.pair (.str) (.pair (.str) (.unit)))) (.own .fr))], 116⟩)], spec_l06Branches_l0⟩
noncomputable def spec_l06Branches_s : Spec := ⟨[.v (.pair (.str) (.pair (.str) (.unit))) .fr], (List ((List UInt8) × ((List UInt8) × Unit))) × Bool, fun v => spec_l06Branches v.1, fun r => ([.v (.sl 28 (.pair (.str) (.pair (.str) (.unit)))) (.own .fr) r.1, .v (.bool) .fr r.2], [])⟩
noncomputable def spec_l06Branches_ls : List LSum := [spec_l06Branches_l0_s, spec_l06Branches_l1_s, spec_l06Branches_l2_s, spec_l06Branches_l3_s]
noncomputable def spec_l06Branches_tab : List Row := [⟨76, [], [spec_l06Middle_s]⟩, ⟨77, [], [spec_l06Text_s]⟩, ⟨58, [], [spec_l06Orbit_s]⟩]
theorem spec_l06Branches_t : ∀ r, r ∈ spec_l06Branches_tab → RowIs Go.Proofs.Tryz.prog r := tab_cons (spec_l06Middle_is) (tab_cons (spec_l06Text_is) (tab_cons (spec_l06Orbit_is) (tab_nil)))
theorem spec_l06Branches_l0_r : RoundIs (mkCtx Go.K.Link.seat spec_l06Branches_c spec_l06Branches_tab) (sums spec_l06Branches_ls) 0 (bodyAt (loopsOf 0 spec_l06Branches_code) 0) spec_l06Branches_l0_s := by
  rintro ⟨v, ⟨orbit, ⟨out, ⟨i, _⟩⟩⟩⟩
  show _ = (spec_l06Branches_l0 (v, (orbit, (out, (i, ()))))).bind fun r : (Ctl ((((List UInt8) × ((List UInt8) × Unit))) × (List ((List UInt8) × ((List UInt8) × Unit))) × (List ((List UInt8) × ((List UInt8) × Unit))) × Int × Unit) (((List ((List UInt8) × ((List UInt8) × Unit))) × Bool × (List ((List UInt8) × ((List UInt8) × Unit))) × Unit) ⊕ ((List ((List UInt8) × ((List UInt8) × Unit))) × Unit))) => some (ctlVal spec_l06Branches_l0_s r)
  simp only [spec_l06Branches_l0, kb_ite, kb_some, kb_none, kb_bind, kb_alt]
  kernel_rfl
theorem spec_l06Branches_l1_r : RoundIs (mkCtx Go.K.Link.seat spec_l06Branches_c spec_l06Branches_tab) (sums spec_l06Branches_ls) 2 (bodyAt (loopsOf 0 spec_l06Branches_code) 1) spec_l06Branches_l1_s := by
  rintro ⟨v, ⟨orbit, ⟨out, ⟨i, ⟨j, _⟩⟩⟩⟩⟩
  show _ = (spec_l06Branches_l1 (v, (orbit, (out, (i, (j, ())))))).bind fun r : (Ctl ((((List UInt8) × ((List UInt8) × Unit))) × (List ((List UInt8) × ((List UInt8) × Unit))) × (List ((List UInt8) × ((List UInt8) × Unit))) × Int × Int × Unit) (((List ((List UInt8) × ((List UInt8) × Unit))) × Bool × (List ((List UInt8) × ((List UInt8) × Unit))) × Unit) ⊕ ((((List UInt8) × ((List UInt8) × Unit))) × (List ((List UInt8) × ((List UInt8) × Unit))) × (List ((List UInt8) × ((List UInt8) × Unit))) × Int × Unit))) => some (ctlVal spec_l06Branches_l1_s r)
  simp only [spec_l06Branches_l1, kb_ite, kb_some, kb_none, kb_bind, kb_alt]
  kernel_rfl
theorem spec_l06Branches_l2_r : RoundIs (mkCtx Go.K.Link.seat spec_l06Branches_c spec_l06Branches_tab) (sums spec_l06Branches_ls) 4 (bodyAt (loopsOf 0 spec_l06Branches_code) 2) spec_l06Branches_l2_s := by
  rintro ⟨v, ⟨orbit, ⟨out, ⟨i, ⟨j, ⟨k, _⟩⟩⟩⟩⟩⟩
  show _ = (spec_l06Branches_l2 (v, (orbit, (out, (i, (j, (k, ()))))))).bind fun r : (Ctl ((((List UInt8) × ((List UInt8) × Unit))) × (List ((List UInt8) × ((List UInt8) × Unit))) × (List ((List UInt8) × ((List UInt8) × Unit))) × Int × Int × Int × Unit) (((List ((List UInt8) × ((List UInt8) × Unit))) × Bool × (List ((List UInt8) × ((List UInt8) × Unit))) × Unit) ⊕ ((((List UInt8) × ((List UInt8) × Unit))) × (List ((List UInt8) × ((List UInt8) × Unit))) × (List ((List UInt8) × ((List UInt8) × Unit))) × Int × Int × Unit))) => some (ctlVal spec_l06Branches_l2_s r)
  simp only [spec_l06Branches_l2, kb_ite, kb_some, kb_none, kb_bind, kb_alt]
  kernel_rfl
theorem spec_l06Branches_l3_r : RoundIs (mkCtx Go.K.Link.seat spec_l06Branches_c spec_l06Branches_tab) (sums spec_l06Branches_ls) 6 (bodyAt (loopsOf 0 spec_l06Branches_code) 3) spec_l06Branches_l3_s := by
  rintro ⟨v, ⟨orbit, ⟨out, ⟨i, ⟨j, ⟨k, ⟨own, ⟨at', _⟩⟩⟩⟩⟩⟩⟩⟩
  show _ = (spec_l06Branches_l3 (v, (orbit, (out, (i, (j, (k, (own, (at', ()))))))))).bind fun r : (Ctl ((((List UInt8) × ((List UInt8) × Unit))) × (List ((List UInt8) × ((List UInt8) × Unit))) × (List ((List UInt8) × ((List UInt8) × Unit))) × Int × Int × Int × (((List UInt8) × ((List UInt8) × Unit))) × Int × Unit) (((((List UInt8) × ((List UInt8) × Unit))) × (List ((List UInt8) × ((List UInt8) × Unit))) × (List ((List UInt8) × ((List UInt8) × Unit))) × Int × Int × Int × (((List UInt8) × ((List UInt8) × Unit))) × Int × Unit))) => some (ctlVal spec_l06Branches_l3_s r)
  simp only [spec_l06Branches_l3, kb_ite, kb_some, kb_none, kb_bind, kb_alt]
  kernel_rfl
theorem spec_l06Branches_rs : RoundsOK (mkCtx Go.K.Link.seat spec_l06Branches_c spec_l06Branches_tab) (sums spec_l06Branches_ls) (loopsOf 0 spec_l06Branches_code) spec_l06Branches_ls := ⟨⟨rfl, rfl, spec_l06Branches_l0_r⟩, ⟨⟨rfl, rfl, spec_l06Branches_l1_r⟩, ⟨⟨rfl, rfl, spec_l06Branches_l2_r⟩, ⟨⟨rfl, rfl, spec_l06Branches_l3_r⟩, trivial⟩⟩⟩⟩
theorem spec_l06Branches_e : ∀ v, (evFn (mkCtx Go.K.Link.seat spec_l06Branches_c spec_l06Branches_tab) (sums spec_l06Branches_ls) 57 Go.Proofs.Tryz.f57 (encL spec_l06Branches_s.a v)).run = (spec_l06Branches_s.gen v).bind fun y => some (spec_l06Branches_s.out y) := by
  rintro ⟨v, _⟩
  show _ = (spec_l06Branches v).bind fun y : (List ((List UInt8) × ((List UInt8) × Unit))) × Bool => some (spec_l06Branches_s.out y)
  simp only [spec_l06Branches, kb_ite, kb_some, kb_none, kb_bind, kb_alt]
  kernel_rfl
theorem spec_l06Branches_is : FnIs Go.Proofs.Tryz.prog 57 (modeOf []) (phi [spec_l06Branches_s]) := spec_is (c := spec_l06Branches_c) seatOK spec_l06Branches_t Go.Proofs.Tryz.func57 rfl (code := spec_l06Branches_code) rfl rfl spec_l06Branches_rs spec_l06Branches_e
noncomputable def spec_l06Fresh_code : Code := (Go.Proofs.Tryz.f59.body).getD .skip
def spec_l06Fresh_c : Cfg := ⟨59, [], [[0, 1, 5, 6, 7, 27], [5, 7, 27], [4, 5, 7, 27, 28]], [], [], []⟩
noncomputable def spec_l06Find_code : Code := (Go.Proofs.Tryz.f44.body).getD .skip
def spec_l06Find_c : Cfg := ⟨44, [], [[0, 3, 5], [], [4]], [], [], []⟩
noncomputable def spec_l06Find_l0_s : LSum := ⟨0, ⟨[(0, .val (.sl 28 (.pair (.str) (.pair (.str) (.unit)))) .fr), (2, .val (.ptr (.pair (.str) (.pair (.str) (.unit)))) (.own .fr)), (1, .val (.int .i64) .fr)], 13⟩, (.ret, ⟨[(4, .val (.int .i64) .fr)], 14⟩), [(.exit 0, ⟨[], 19⟩)], spec_l06Find_l0⟩
noncomputable def spec_l06Find_s : Spec := ⟨[.v (.sl 28 (.pair (.str) (.pair (.str) (.unit)))) .fr, .v (.pair (.str) (.pair (.str) (.unit))) .fr], Int, fun v => spec_l06Find v.1 v.2.1, fun r => ([.v (.int .i64) .fr r], [])⟩
noncomputable def spec_l06Find_ls : List LSum := [spec_l06Find_l0_s]
noncomputable def spec_l06Find_tab : List Row := []
theorem spec_l06Find_t : ∀ r, r ∈ spec_l06Find_tab → RowIs Go.Proofs.Tryz.prog r := tab_nil
theorem spec_l06Find_l0_r : RoundIs (mkCtx Go.K.Link.seat spec_l06Find_c spec_l06Find_tab) (sums spec_l06Find_ls) 0 (bodyAt (loopsOf 0 spec_l06Find_code) 0) spec_l06Find_l0_s := by
  rintro ⟨list, ⟨s, ⟨i, _⟩⟩⟩
  show _ = (spec_l06Find_l0 (list, (s, (i, ())))).bind fun r : (Ctl ((List ((List UInt8) × ((List UInt8) × Unit))) × (((List UInt8) × ((List UInt8) × Unit))) × Int × Unit) ((Int × Unit) ⊕ (Unit))) => some (ctlVal spec_l06Find_l0_s r)
  simp only [spec_l06Find_l0, kb_ite, kb_some, kb_none, kb_bind, kb_alt]
  kernel_rfl
theorem spec_l06Find_rs : RoundsOK (mkCtx Go.K.Link.seat spec_l06Find_c spec_l06Find_tab) (sums spec_l06Find_ls) (loopsOf 0 spec_l06Find_code) spec_l06Find_ls := ⟨⟨rfl, rfl, spec_l06Find_l0_r⟩, trivial⟩
theorem spec_l06Find_e : ∀ v, (evFn (mkCtx Go.K.Link.seat spec_l06Find_c spec_l06Find_tab) (sums spec_l06Find_ls) 44 Go.Proofs.Tryz.f44 (encL spec_l06Find_s.a v)).run = (spec_l06Find_s.gen v).bind fun y => some (spec_l06Find_s.out y) := by
  rintro ⟨list, ⟨s, _⟩⟩
  show _ = (spec_l06Find list s).bind fun y : Int => some (spec_l06Find_s.out y)
  simp only [spec_l06Find, kb_ite, kb_some, kb_none, kb_bind, kb_alt]
  kernel_rfl
theorem spec_l06Find_is : FnIs Go.Proofs.Tryz.prog 44 (modeOf []) (phi [spec_l06Find_s]) := spec_is (c := spec_l06Find_c) seatOK spec_l06Find_t Go.Proofs.Tryz.func44 rfl (code := spec_l06Find_code) rfl rfl spec_l06Find_rs spec_l06Find_e
noncomputable def spec_l06Fresh_l0_s : LSum := ⟨0, ⟨[(0, .val (.sl 28 (.pair (.str) (.pair (.str) (.unit)))) .fr), (0, .val (.sl 28 (.pair (.str) (.pair (.str) (.unit)))) .fr), (3, .val (.sl 28 (.pair (.str) (.pair (.str) (.unit)))) (.own .fr)), (0, .val (.int .i64) .fr)], 22⟩, (.exit 0, ⟨[(5, .val (.sl 28 (.pair (.str) (.pair (.str) (.unit)))) (.own .fr))], 23⟩), [], spec_l06Fresh_l0⟩
noncomputable def spec_l06Fresh_s : Spec := ⟨[.v (.sl 28 (.pair (.str) (.pair (.str) (.unit)))) .fr, .v (.sl 28 (.pair (.str) (.pair (.str) (.unit)))) .fr], (List ((List UInt8) × ((List UInt8) × Unit))), fun v => spec_l06Fresh v.1 v.2.1, fun r => ([.v (.sl 28 (.pair (.str) (.pair (.str) (.unit)))) (.own .fr) r], [])⟩
noncomputable def spec_l06Fresh_ls : List LSum := [spec_l06Fresh_l0_s]
noncomputable def spec_l06Fresh_tab : List Row := [⟨44, [], [spec_l06Find_s]⟩]
theorem spec_l06Fresh_t : ∀ r, r ∈ spec_l06Fresh_tab → RowIs Go.Proofs.Tryz.prog r := tab_cons (spec_l06Find_is) (tab_nil)
theorem spec_l06Fresh_l0_r : RoundIs (mkCtx Go.K.Link.seat spec_l06Fresh_c spec_l06Fresh_tab) (sums spec_l06Fresh_ls) 0 (bodyAt (loopsOf 0 spec_l06Fresh_code) 0) spec_l06Fresh_l0_s := by
  rintro ⟨list, ⟨other, ⟨out, ⟨i, _⟩⟩⟩⟩
  show _ = (spec_l06Fresh_l0 (list, (other, (out, (i, ()))))).bind fun r : (Ctl ((List ((List UInt8) × ((List UInt8) × Unit))) × (List ((List UInt8) × ((List UInt8) × Unit))) × (List ((List UInt8) × ((List UInt8) × Unit))) × Int × Unit) (((List ((List UInt8) × ((List UInt8) × Unit))) × Unit))) => some (ctlVal spec_l06Fresh_l0_s r)
  simp only [spec_l06Fresh_l0, kb_ite, kb_some, kb_none, kb_bind, kb_alt]
  kernel_rfl
theorem spec_l06Fresh_rs : RoundsOK (mkCtx Go.K.Link.seat spec_l06Fresh_c spec_l06Fresh_tab) (sums spec_l06Fresh_ls) (loopsOf 0 spec_l06Fresh_code) spec_l06Fresh_ls := ⟨⟨rfl, rfl, spec_l06Fresh_l0_r⟩, trivial⟩
theorem spec_l06Fresh_e : ∀ v, (evFn (mkCtx Go.K.Link.seat spec_l06Fresh_c spec_l06Fresh_tab) (sums spec_l06Fresh_ls) 59 Go.Proofs.Tryz.f59 (encL spec_l06Fresh_s.a v)).run = (spec_l06Fresh_s.gen v).bind fun y => some (spec_l06Fresh_s.out y) := by
  rintro ⟨list, ⟨other, _⟩⟩
  show _ = (spec_l06Fresh list other).bind fun y : (List ((List UInt8) × ((List UInt8) × Unit))) => some (spec_l06Fresh_s.out y)
  simp only [spec_l06Fresh, kb_ite, kb_some, kb_none, kb_bind, kb_alt]
  kernel_rfl
theorem spec_l06Fresh_is : FnIs Go.Proofs.Tryz.prog 59 (modeOf []) (phi [spec_l06Fresh_s]) := spec_is (c := spec_l06Fresh_c) seatOK spec_l06Fresh_t Go.Proofs.Tryz.func59 rfl (code := spec_l06Fresh_code) rfl rfl spec_l06Fresh_rs spec_l06Fresh_e
noncomputable def spec_l06Vertices_s : Spec := ⟨[.v (.pair (.str) (.pair (.str) (.unit))) .fr], (List ((List UInt8) × ((List UInt8) × Unit))) × Bool, fun v => spec_l06Vertices v.1, fun r => ([.v (.sl 28 (.pair (.str) (.pair (.str) (.unit)))) (.own .fr) r.1, .v (.bool) .fr r.2], [])⟩
noncomputable def spec_l06Vertices_ls : List LSum := []
noncomputable def spec_l06Vertices_tab : List Row := [⟨57, [], [spec_l06Branches_s]⟩, ⟨58, [], [spec_l06Orbit_s]⟩, ⟨59, [], [spec_l06Fresh_s]⟩]
theorem spec_l06Vertices_t : ∀ r, r ∈ spec_l06Vertices_tab → RowIs Go.Proofs.Tryz.prog r := tab_cons (spec_l06Branches_is) (tab_cons (spec_l06Orbit_is) (tab_cons (spec_l06Fresh_is) (tab_nil)))
theorem spec_l06Vertices_rs : RoundsOK (mkCtx Go.K.Link.seat spec_l06Vertices_c spec_l06Vertices_tab) (sums spec_l06Vertices_ls) (loopsOf 0 spec_l06Vertices_code) spec_l06Vertices_ls := trivial
theorem spec_l06Vertices_e : ∀ v, (evFn (mkCtx Go.K.Link.seat spec_l06Vertices_c spec_l06Vertices_tab) (sums spec_l06Vertices_ls) 36 Go.Proofs.Tryz.f36 (encL spec_l06Vertices_s.a v)).run = (spec_l06Vertices_s.gen v).bind fun y => some (spec_l06Vertices_s.out y) := by
  rintro ⟨v, _⟩
  show _ = (spec_l06Vertices v).bind fun y : (List ((List UInt8) × ((List UInt8) × Unit))) × Bool => some (spec_l06Vertices_s.out y)
  simp only [spec_l06Vertices, kb_ite, kb_some, kb_none, kb_bind, kb_alt]
  kernel_rfl
theorem spec_l06Vertices_is : FnIs Go.Proofs.Tryz.prog 36 (modeOf []) (phi [spec_l06Vertices_s]) := spec_is (c := spec_l06Vertices_c) seatOK spec_l06Vertices_t Go.Proofs.Tryz.func36 rfl (code := spec_l06Vertices_code) rfl rfl spec_l06Vertices_rs spec_l06Vertices_e
noncomputable def spec_TreeVertices_s : Spec := ⟨[.v (.pair (.str) (.pair (.str) (.unit))) .fr], (List ((List UInt8) × ((List UInt8) × Unit))) × Int, fun v => spec_TreeVertices v.1, fun r => ([.v (.sl 28 (.pair (.str) (.pair (.str) (.unit)))) (.own .fr) r.1, .v (.int .i64) .fr r.2], [])⟩
noncomputable def spec_TreeVertices_ls : List LSum := []
noncomputable def spec_TreeVertices_tab : List Row := [⟨35, [], [spec_l06Tree_s]⟩, ⟨36, [], [spec_l06Vertices_s]⟩]
theorem spec_TreeVertices_t : ∀ r, r ∈ spec_TreeVertices_tab → RowIs Go.Proofs.Tryz.prog r := tab_cons (spec_l06Tree_is) (tab_cons (spec_l06Vertices_is) (tab_nil))
theorem spec_TreeVertices_rs : RoundsOK (mkCtx Go.K.Link.seat spec_TreeVertices_c spec_TreeVertices_tab) (sums spec_TreeVertices_ls) (loopsOf 0 spec_TreeVertices_code) spec_TreeVertices_ls := trivial
theorem spec_TreeVertices_e : ∀ v, (evFn (mkCtx Go.K.Link.seat spec_TreeVertices_c spec_TreeVertices_tab) (sums spec_TreeVertices_ls) 11 Go.Proofs.Tryz.f11 (encL spec_TreeVertices_s.a v)).run = (spec_TreeVertices_s.gen v).bind fun y => some (spec_TreeVertices_s.out y) := by
  rintro ⟨v, _⟩
  show _ = (spec_TreeVertices v).bind fun y : (List ((List UInt8) × ((List UInt8) × Unit))) × Int => some (spec_TreeVertices_s.out y)
  simp only [spec_TreeVertices, kb_ite, kb_some, kb_none, kb_bind, kb_alt]
  kernel_rfl
theorem spec_TreeVertices_is : FnIs Go.Proofs.Tryz.prog 11 (modeOf []) (phi [spec_TreeVertices_s]) := spec_is (c := spec_TreeVertices_c) seatOK spec_TreeVertices_t Go.Proofs.Tryz.func11 rfl (code := spec_TreeVertices_code) rfl rfl spec_TreeVertices_rs spec_TreeVertices_e
noncomputable def impl_TreeVertices_code : Code := (Go.Proofs.Tryz.f13.body).getD .skip
def impl_TreeVertices_c : Cfg := ⟨13, [], [], [(17, (.own .fr))], [], []⟩
noncomputable def impl_BranchPoints_code : Code := (Go.Proofs.Tryz.f37.body).getD .skip
def impl_BranchPoints_c : Cfg := ⟨37, [], [], [], [], []⟩
noncomputable def impl_treeCode_code : Code := (Go.Proofs.Tryz.f60.body).getD .skip
def impl_treeCode_c : Cfg := ⟨60, [], [], [], [], []⟩
noncomputable def impl_starCode_code : Code := (Go.Proofs.Tryz.f78.body).getD .skip
def impl_starCode_c : Cfg := ⟨78, [], [], [], [], []⟩
noncomputable def impl_IsSequence_code : Code := (Go.Proofs.Tryz.f98.body).getD .skip
def impl_IsSequence_c : Cfg := ⟨98, [], [], [], [], []⟩
noncomputable def impl_areLetters_code : Code := (Go.Proofs.Tryz.f116.body).getD .skip
def impl_areLetters_c : Cfg := ⟨116, [], [], [], [], []⟩
noncomputable def impl_areAll_byte_code : Code := (Go.Proofs.Tryz.f136.body).getD .skip
def impl_areAll_byte_c : Cfg := ⟨136, [], [], [], [], []⟩
noncomputable def slices_ContainsFunc__byte_byte_code : Code := (Go.Proofs.Tryz.f150.body).getD .skip
def slices_ContainsFunc__byte_byte_c : Cfg := ⟨150, [], [], [], [], []⟩
noncomputable def slices_IndexFunc__byte_byte_code : Code := (Go.Proofs.Tryz.f159.body).getD .skip
def slices_IndexFunc__byte_byte_c : Cfg := ⟨159, [], [[0, 1, 7, 8], [], [4]], [], [], []⟩
noncomputable def impl_areAll_byte_f1_code : Code := (Go.Proofs.Tryz.f151.body).getD .skip
def impl_areAll_byte_f1_c : Cfg := ⟨151, [], [], [], [], []⟩
noncomputable def impl_areLetters_f1_code : Code := (Go.Proofs.Tryz.f137.body).getD .skip
def impl_areLetters_f1_c : Cfg := ⟨137, [], [], [], [], []⟩
noncomputable def impl_areLetters_f1_s : Spec := ⟨[.v (.int .u8) .fr], Bool, fun v => impl_areLetters_f1 v.1, fun r => ([.v (.bool) .fr r], [])⟩
noncomputable def impl_areLetters_f1_ls : List LSum := []
noncomputable def impl_areLetters_f1_tab : List Row := []
theorem impl_areLetters_f1_t : ∀ r, r ∈ impl_areLetters_f1_tab → RowIs Go.Proofs.Tryz.prog r := tab_nil
theorem impl_areLetters_f1_rs : RoundsOK (mkCtx Go.K.Link.seat impl_areLetters_f1_c impl_areLetters_f1_tab) (sums impl_areLetters_f1_ls) (loopsOf 0 impl_areLetters_f1_code) impl_areLetters_f1_ls := trivial
theorem impl_areLetters_f1_e : ∀ v, (evFn (mkCtx Go.K.Link.seat impl_areLetters_f1_c impl_areLetters_f1_tab) (sums impl_areLetters_f1_ls) 137 Go.Proofs.Tryz.f137 (encL impl_areLetters_f1_s.a v)).run = (impl_areLetters_f1_s.gen v).bind fun y => some (impl_areLetters_f1_s.out y) := by
  rintro ⟨c, _⟩
  show _ = (impl_areLetters_f1 c).bind fun y : Bool => some (impl_areLetters_f1_s.out y)
  simp only [impl_areLetters_f1, kb_ite, kb_some, kb_none, kb_bind, kb_alt]
  kernel_rfl
theorem impl_areLetters_f1_is : FnIs Go.Proofs.Tryz.prog 137 (modeOf []) (phi [impl_areLetters_f1_s]) := spec_is (c := impl_areLetters_f1_c) seatOK impl_areLetters_f1_t Go.Proofs.Tryz.func137 rfl (code := impl_areLetters_f1_code) rfl rfl impl_areLetters_f1_rs impl_areLetters_f1_e
noncomputable def impl_areAll_byte_f1_s : Spec := ⟨[.v (.int .u8) .fr, .pfn 137 [] []], Bool, fun v => impl_areAll_byte_f1 v.1, fun r => ([.v (.bool) .fr r], [])⟩
noncomputable def impl_areAll_byte_f1_ls : List LSum := []
noncomputable def impl_areAll_byte_f1_tab : List Row := [⟨137, [], [impl_areLetters_f1_s]⟩]
theorem impl_areAll_byte_f1_t : ∀ r, r ∈ impl_areAll_byte_f1_tab → RowIs Go.Proofs.Tryz.prog r := tab_cons (impl_areLetters_f1_is) (tab_nil)
theorem impl_areAll_byte_f1_rs : RoundsOK (mkCtx Go.K.Link.seat impl_areAll_byte_f1_c impl_areAll_byte_f1_tab) (sums impl_areAll_byte_f1_ls) (loopsOf 0 impl_areAll_byte_f1_code) impl_areAll_byte_f1_ls := trivial
theorem impl_areAll_byte_f1_e : ∀ v, (evFn (mkCtx Go.K.Link.seat impl_areAll_byte_f1_c impl_areAll_byte_f1_tab) (sums impl_areAll_byte_f1_ls) 151 Go.Proofs.Tryz.f151 (encL impl_areAll_byte_f1_s.a v)).run = (impl_areAll_byte_f1_s.gen v).bind fun y => some (impl_areAll_byte_f1_s.out y) := by
  rintro ⟨x, ⟨⟨_, _⟩, _⟩⟩
  show _ = (impl_areAll_byte_f1 x).bind fun y : Bool => some (impl_areAll_byte_f1_s.out y)
  simp only [impl_areAll_byte_f1, kb_ite, kb_some, kb_none, kb_bind, kb_alt]
  kernel_rfl
theorem impl_areAll_byte_f1_is : FnIs Go.Proofs.Tryz.prog 151 (modeOf []) (phi [impl_areAll_byte_f1_s]) := spec_is (c := impl_areAll_byte_f1_c) seatOK impl_areAll_byte_f1_t Go.Proofs.Tryz.func151 rfl (code := impl_areAll_byte_f1_code) rfl rfl impl_areAll_byte_f1_rs impl_areAll_byte_f1_e
noncomputable def slices_IndexFunc__byte_byte_l0_s : LSum := ⟨0, ⟨[(0, .val (.sl 5 (.int .u8)) .fr), (0, .fnl 151 [] [.arg (.pfn 137 [] [])]), (5, .val (.int .i64) .fr), (0, .val (.int .i64) .fr)], 10⟩, (.ret, ⟨[(4, .val (.int .i64) .fr)], 14⟩), [(.exit 0, ⟨[], 19⟩)], slices_IndexFunc__byte_byte_l0⟩
noncomputable def slices_IndexFunc__byte_byte_s : Spec := ⟨[.v (.sl 5 (.int .u8)) .fr, .fn 151 [] [.pfn 137 [] []]], Int, fun v => slices_IndexFunc__byte_byte v.1, fun r => ([.v (.int .i64) .fr r], [])⟩
noncomputable def slices_IndexFunc__byte_byte_ls : List LSum := [slices_IndexFunc__byte_byte_l0_s]
noncomputable def slices_IndexFunc__byte_byte_tab : List Row := [⟨151, [], [impl_areAll_byte_f1_s]⟩]
theorem slices_IndexFunc__byte_byte_t : ∀ r, r ∈ slices_IndexFunc__byte_byte_tab → RowIs Go.Proofs.Tryz.prog r := tab_cons (impl_areAll_byte_f1_is) (tab_nil)
theorem slices_IndexFunc__byte_byte_l0_r : RoundIs (mkCtx Go.K.Link.seat slices_IndexFunc__byte_byte_c slices_IndexFunc__byte_byte_tab) (sums slices_IndexFunc__byte_byte_ls) 0 (bodyAt (loopsOf 0 slices_IndexFunc__byte_byte_code) 0) slices_IndexFunc__byte_byte_l0_s := by
  rintro ⟨s, ⟨_, ⟨⟨_, _⟩, _⟩, ⟨t7, ⟨t8, _⟩⟩⟩⟩
  show _ = (slices_IndexFunc__byte_byte_l0 (s, ((), (((), ()), ()), (t7, (t8, ()))))).bind fun r : (Ctl ((List Int) × Unit × ((Unit × Unit) × Unit) × Int × Int × Unit) ((Int × Unit) ⊕ (Unit))) => some (ctlVal slices_IndexFunc__byte_byte_l0_s r)
  simp only [slices_IndexFunc__byte_byte_l0, kb_ite, kb_some, kb_none, kb_bind, kb_alt]
  kernel_rfl
theorem slices_IndexFunc__byte_byte_rs : RoundsOK (mkCtx Go.K.Link.seat slices_IndexFunc__byte_byte_c slices_IndexFunc__byte_byte_tab) (sums slices_IndexFunc__byte_byte_ls) (loopsOf 0 slices_IndexFunc__byte_byte_code) slices_IndexFunc__byte_byte_ls := ⟨⟨rfl, rfl, slices_IndexFunc__byte_byte_l0_r⟩, trivial⟩
theorem slices_IndexFunc__byte_byte_e : ∀ v, (evFn (mkCtx Go.K.Link.seat slices_IndexFunc__byte_byte_c slices_IndexFunc__byte_byte_tab) (sums slices_IndexFunc__byte_byte_ls) 159 Go.Proofs.Tryz.f159 (encL slices_IndexFunc__byte_byte_s.a v)).run = (slices_IndexFunc__byte_byte_s.gen v).bind fun y => some (slices_IndexFunc__byte_byte_s.out y) := by
  rintro ⟨s, ⟨⟨_, ⟨⟨_, _⟩, _⟩⟩, _⟩⟩
  show _ = (slices_IndexFunc__byte_byte s).bind fun y : Int => some (slices_IndexFunc__byte_byte_s.out y)
  simp only [slices_IndexFunc__byte_byte, kb_ite, kb_some, kb_none, kb_bind, kb_alt]
  kernel_rfl
theorem slices_IndexFunc__byte_byte_is : FnIs Go.Proofs.Tryz.prog 159 (modeOf []) (phi [slices_IndexFunc__byte_byte_s]) := spec_is (c := slices_IndexFunc__byte_byte_c) seatOK slices_IndexFunc__byte_byte_t Go.Proofs.Tryz.func159 rfl (code := slices_IndexFunc__byte_byte_code) rfl rfl slices_IndexFunc__byte_byte_rs slices_IndexFunc__byte_byte_e
noncomputable def slices_ContainsFunc__byte_byte_s : Spec := ⟨[.v (.sl 5 (.int .u8)) .fr, .fn 151 [] [.pfn 137 [] []]], Bool, fun v => slices_ContainsFunc__byte_byte v.1, fun r => ([.v (.bool) .fr r], [])⟩
noncomputable def slices_ContainsFunc__byte_byte_ls : List LSum := []
noncomputable def slices_ContainsFunc__byte_byte_tab : List Row := [⟨159, [], [slices_IndexFunc__byte_byte_s]⟩]
theorem slices_ContainsFunc__byte_byte_t : ∀ r, r ∈ slices_ContainsFunc__byte_byte_tab → RowIs Go.Proofs.Tryz.prog r := tab_cons (slices_IndexFunc__byte_byte_is) (tab_nil)
theorem slices_ContainsFunc__byte_byte_rs : RoundsOK (mkCtx Go.K.Link.seat slices_ContainsFunc__byte_byte_c slices_ContainsFunc__byte_byte_tab) (sums slices_ContainsFunc__byte_byte_ls) (loopsOf 0 slices_ContainsFunc__byte_byte_code) slices_ContainsFunc__byte_byte_ls := trivial
theorem slices_ContainsFunc__byte_byte_e : ∀ v, (evFn (mkCtx Go.K.Link.seat slices_ContainsFunc__byte_byte_c slices_ContainsFunc__byte_byte_tab) (sums slices_ContainsFunc__byte_byte_ls) 150 Go.Proofs.Tryz.f150 (encL slices_ContainsFunc__byte_byte_s.a v)).run = (slices_ContainsFunc__byte_byte_s.gen v).bind fun y => some (slices_ContainsFunc__byte_byte_s.out y) := by
  rintro ⟨s, ⟨⟨_, ⟨⟨_, _⟩, _⟩⟩, _⟩⟩
  show _ = (slices_ContainsFunc__byte_byte s).bind fun y : Bool => some (slices_ContainsFunc__byte_byte_s.out y)
  simp only [slices_ContainsFunc__byte_byte, kb_ite, kb_some, kb_none, kb_bind, kb_alt]
  kernel_rfl
theorem slices_ContainsFunc__byte_byte_is : FnIs Go.Proofs.Tryz.prog 150 (modeOf []) (phi [slices_ContainsFunc__byte_byte_s]) := spec_is (c := slices_ContainsFunc__byte_byte_c) seatOK slices_ContainsFunc__byte_byte_t Go.Proofs.Tryz.func150 rfl (code := slices_ContainsFunc__byte_byte_code) rfl rfl slices_ContainsFunc__byte_byte_rs slices_ContainsFunc__byte_byte_e
noncomputable def impl_areAll_byte_s : Spec := ⟨[.v (.sl 5 (.int .u8)) .fr, .fn 137 [] []], Bool, fun v => impl_areAll_byte v.1, fun r => ([.v (.bool) .fr r], [])⟩
noncomputable def impl_areAll_byte_ls : List LSum := []
noncomputable def impl_areAll_byte_tab : List Row := [⟨150, [], [slices_ContainsFunc__byte_byte_s]⟩]
theorem impl_areAll_byte_t : ∀ r, r ∈ impl_areAll_byte_tab → RowIs Go.Proofs.Tryz.prog r := tab_cons (slices_ContainsFunc__byte_byte_is) (tab_nil)
theorem impl_areAll_byte_rs : RoundsOK (mkCtx Go.K.Link.seat impl_areAll_byte_c impl_areAll_byte_tab) (sums impl_areAll_byte_ls) (loopsOf 0 impl_areAll_byte_code) impl_areAll_byte_ls := trivial
theorem impl_areAll_byte_e : ∀ v, (evFn (mkCtx Go.K.Link.seat impl_areAll_byte_c impl_areAll_byte_tab) (sums impl_areAll_byte_ls) 136 Go.Proofs.Tryz.f136 (encL impl_areAll_byte_s.a v)).run = (impl_areAll_byte_s.gen v).bind fun y => some (impl_areAll_byte_s.out y) := by
  rintro ⟨list, ⟨⟨_, _⟩, _⟩⟩
  show _ = (impl_areAll_byte list).bind fun y : Bool => some (impl_areAll_byte_s.out y)
  simp only [impl_areAll_byte, kb_ite, kb_some, kb_none, kb_bind, kb_alt]
  kernel_rfl
theorem impl_areAll_byte_is : FnIs Go.Proofs.Tryz.prog 136 (modeOf []) (phi [impl_areAll_byte_s]) := spec_is (c := impl_areAll_byte_c) seatOK impl_areAll_byte_t Go.Proofs.Tryz.func136 rfl (code := impl_areAll_byte_code) rfl rfl impl_areAll_byte_rs impl_areAll_byte_e
noncomputable def impl_areLetters_s : Spec := ⟨[.v (.str) .fr], Bool, fun v => impl_areLetters v.1, fun r => ([.v (.bool) .fr r], [])⟩
noncomputable def impl_areLetters_ls : List LSum := []
noncomputable def impl_areLetters_tab : List Row := [⟨136, [], [impl_areAll_byte_s]⟩]
theorem impl_areLetters_t : ∀ r, r ∈ impl_areLetters_tab → RowIs Go.Proofs.Tryz.prog r := tab_cons (impl_areAll_byte_is) (tab_nil)
theorem impl_areLetters_rs : RoundsOK (mkCtx Go.K.Link.seat impl_areLetters_c impl_areLetters_tab) (sums impl_areLetters_ls) (loopsOf 0 impl_areLetters_code) impl_areLetters_ls := trivial
theorem impl_areLetters_e : ∀ v, (evFn (mkCtx Go.K.Link.seat impl_areLetters_c impl_areLetters_tab) (sums impl_areLetters_ls) 116 Go.Proofs.Tryz.f116 (encL impl_areLetters_s.a v)).run = (impl_areLetters_s.gen v).bind fun y => some (impl_areLetters_s.out y) := by
  rintro ⟨s, _⟩
  show _ = (impl_areLetters s).bind fun y : Bool => some (impl_areLetters_s.out y)
  simp only [impl_areLetters, kb_ite, kb_some, kb_none, kb_bind, kb_alt]
  kernel_rfl
theorem impl_areLetters_is : FnIs Go.Proofs.Tryz.prog 116 (modeOf []) (phi [impl_areLetters_s]) := spec_is (c := impl_areLetters_c) seatOK impl_areLetters_t Go.Proofs.Tryz.func116 rfl (code := impl_areLetters_code) rfl rfl impl_areLetters_rs impl_areLetters_e
noncomputable def impl_areGiven_code : Code := (Go.Proofs.Tryz.f117.body).getD .skip
def impl_areGiven_c : Cfg := ⟨117, [], [], [], [], []⟩
noncomputable def impl_areGiven_s : Spec := ⟨[.v (.str) .fr, .v (.str) .fr], Bool, fun v => impl_areGiven v.1 v.2.1, fun r => ([.v (.bool) .fr r], [])⟩
noncomputable def impl_areGiven_ls : List LSum := []
noncomputable def impl_areGiven_tab : List Row := []
theorem impl_areGiven_t : ∀ r, r ∈ impl_areGiven_tab → RowIs Go.Proofs.Tryz.prog r := tab_nil
theorem impl_areGiven_rs : RoundsOK (mkCtx Go.K.Link.seat impl_areGiven_c impl_areGiven_tab) (sums impl_areGiven_ls) (loopsOf 0 impl_areGiven_code) impl_areGiven_ls := trivial
theorem impl_areGiven_e : ∀ v, (evFn (mkCtx Go.K.Link.seat impl_areGiven_c impl_areGiven_tab) (sums impl_areGiven_ls) 117 Go.Proofs.Tryz.f117 (encL impl_areGiven_s.a v)).run = (impl_areGiven_s.gen v).bind fun y => some (impl_areGiven_s.out y) := by
  rintro ⟨pre, ⟨per, _⟩⟩
  show _ = (impl_areGiven pre per).bind fun y : Bool => some (impl_areGiven_s.out y)
  simp only [impl_areGiven, kb_ite, kb_some, kb_none, kb_bind, kb_alt]
  kernel_rfl
theorem impl_areGiven_is : FnIs Go.Proofs.Tryz.prog 117 (modeOf []) (phi [impl_areGiven_s]) := spec_is (c := impl_areGiven_c) seatOK impl_areGiven_t Go.Proofs.Tryz.func117 rfl (code := impl_areGiven_code) rfl rfl impl_areGiven_rs impl_areGiven_e
noncomputable def impl_sequence_code : Code := (Go.Proofs.Tryz.f86.body).getD .skip
def impl_sequence_c : Cfg := ⟨86, [], [[0, 1, 4], [0, 1, 4], [4]], [], [], []⟩
noncomputable def impl_root_code : Code := (Go.Proofs.Tryz.f104.body).getD .skip
def impl_root_c : Cfg := ⟨104, [], [[0, 3], [0, 3], [2]], [], [], []⟩
noncomputable def strings_Repeat_s : Spec := ⟨[.v (.str) .fr, .v (.int .i64) .fr], List UInt8, fun v => strings_Repeat v.1 v.2.1, fun r => ([.v (.str) .fr r], [])⟩
theorem strings_Repeat_is : FnIs (drI := drZ) Go.Proofs.Tryz.prog 130 (modeOf []) (phi [strings_Repeat_s]) := repeat_is Go.Proofs.Tryz.repL Go.Proofs.Tryz.repX ⟨_, Go.Proofs.Tryz.func130, rfl, rfl⟩
noncomputable def impl_root_l0_s : LSum := ⟨0, ⟨[(0, .val (.str) .fr), (2, .val (.int .i64) .fr)], 22⟩, (.exit 0, ⟨[(0, .val (.str) .fr), (2, .val (.int .i64) .fr)], 22⟩), [], impl_root_l0⟩
noncomputable def impl_root_s : Spec := ⟨[.v (.str) .fr], (List UInt8), fun v => impl_root v.1, fun r => ([.v (.str) .fr r], [])⟩
noncomputable def impl_root_ls : List LSum := [impl_root_l0_s]
noncomputable def impl_root_tab : List Row := [⟨130, [], [strings_Repeat_s]⟩]
theorem impl_root_t : ∀ r, r ∈ impl_root_tab → RowIs (drI := drZ) Go.Proofs.Tryz.prog r := tab_cons (drI := drZ) (strings_Repeat_is) (tab_nil (drI := drZ))
theorem impl_root_l0_r : RoundIs (mkCtx Go.K.Link.seat impl_root_c impl_root_tab) (sums impl_root_ls) 0 (bodyAt (loopsOf 0 impl_root_code) 0) impl_root_l0_s := by
  rintro ⟨word', ⟨n, _⟩⟩
  show _ = (impl_root_l0 (word', (n, ()))).bind fun r : (Ctl ((List UInt8) × Int × Unit) (((List UInt8) × Int × Unit))) => some (ctlVal impl_root_l0_s r)
  simp only [impl_root_l0, kb_ite, kb_some, kb_none, kb_bind, kb_alt]
  kernel_rfl
theorem impl_root_rs : RoundsOK (mkCtx Go.K.Link.seat impl_root_c impl_root_tab) (sums impl_root_ls) (loopsOf 0 impl_root_code) impl_root_ls := ⟨⟨rfl, rfl, impl_root_l0_r⟩, trivial⟩
theorem impl_root_e : ∀ v, (evFn (mkCtx Go.K.Link.seat impl_root_c impl_root_tab) (sums impl_root_ls) 104 Go.Proofs.Tryz.f104 (encL impl_root_s.a v)).run = (impl_root_s.gen v).bind fun y => some (impl_root_s.out y) := by
  rintro ⟨word', _⟩
  show _ = (impl_root word').bind fun y : (List UInt8) => some (impl_root_s.out y)
  simp only [impl_root, kb_ite, kb_some, kb_none, kb_bind, kb_alt]
  kernel_rfl
theorem impl_root_is : FnIs (drI := drZ) Go.Proofs.Tryz.prog 104 (modeOf []) (phi [impl_root_s]) := spec_is (drI := drZ) (c := impl_root_c) seatOK impl_root_t Go.Proofs.Tryz.func104 rfl (code := impl_root_code) rfl rfl impl_root_rs impl_root_e
noncomputable def impl_sequence_l0_s : LSum := ⟨0, ⟨[(0, .val (.str) .fr), (0, .val (.str) .fr), (2, .val (.ptr (.pair (.str) (.pair (.str) (.unit)))) (.own .fr))], 36⟩, (.exit 0, ⟨[(0, .val (.str) .fr), (0, .val (.str) .fr), (2, .val (.ptr (.pair (.str) (.pair (.str) (.unit)))) (.own .fr))], 36⟩), [], impl_sequence_l0⟩
noncomputable def impl_sequence_s : Spec := ⟨[.v (.str) .fr, .v (.str) .fr], ((List UInt8) × ((List UInt8) × Unit)), fun v => impl_sequence v.1 v.2.1, fun r => ([.v (.pair (.str) (.pair (.str) (.unit))) .fr r], [])⟩
noncomputable def impl_sequence_ls : List LSum := [impl_sequence_l0_s]
noncomputable def impl_sequence_tab : List Row := [⟨104, [], [impl_root_s]⟩]
theorem impl_sequence_t : ∀ r, r ∈ impl_sequence_tab → RowIs (drI := drZ) Go.Proofs.Tryz.prog r := tab_cons (drI := drZ) (impl_root_is) (tab_nil (drI := drZ))
theorem impl_sequence_l0_r : RoundIs (mkCtx Go.K.Link.seat impl_sequence_c impl_sequence_tab) (sums impl_sequence_ls) 0 (bodyAt (loopsOf 0 impl_sequence_code) 0) impl_sequence_l0_s := by
  rintro ⟨pre, ⟨per, ⟨t4, _⟩⟩⟩
  show _ = (impl_sequence_l0 (pre, (per, (t4, ())))).bind fun r : (Ctl ((List UInt8) × (List UInt8) × (((List UInt8) × ((List UInt8) × Unit))) × Unit) (((List UInt8) × (List UInt8) × (((List UInt8) × ((List UInt8) × Unit))) × Unit))) => some (ctlVal impl_sequence_l0_s r)
  simp only [impl_sequence_l0, kb_ite, kb_some, kb_none, kb_bind, kb_alt]
  kernel_rfl
theorem impl_sequence_rs : RoundsOK (mkCtx Go.K.Link.seat impl_sequence_c impl_sequence_tab) (sums impl_sequence_ls) (loopsOf 0 impl_sequence_code) impl_sequence_ls := ⟨⟨rfl, rfl, impl_sequence_l0_r⟩, trivial⟩
theorem impl_sequence_e : ∀ v, (evFn (mkCtx Go.K.Link.seat impl_sequence_c impl_sequence_tab) (sums impl_sequence_ls) 86 Go.Proofs.Tryz.f86 (encL impl_sequence_s.a v)).run = (impl_sequence_s.gen v).bind fun y => some (impl_sequence_s.out y) := by
  rintro ⟨pre, ⟨per, _⟩⟩
  show _ = (impl_sequence pre per).bind fun y : ((List UInt8) × ((List UInt8) × Unit)) => some (impl_sequence_s.out y)
  simp only [impl_sequence, kb_ite, kb_some, kb_none, kb_bind, kb_alt]
  kernel_rfl
theorem impl_sequence_is : FnIs (drI := drZ) Go.Proofs.Tryz.prog 86 (modeOf []) (phi [impl_sequence_s]) := spec_is (drI := drZ) (c := impl_sequence_c) seatOK impl_sequence_t Go.Proofs.Tryz.func86 rfl (code := impl_sequence_code) rfl rfl impl_sequence_rs impl_sequence_e
noncomputable def impl_IsSequence_s : Spec := ⟨[.v (.pair (.str) (.pair (.str) (.unit))) .fr], Bool, fun v => impl_IsSequence v.1, fun r => ([.v (.bool) .fr r], [])⟩
noncomputable def impl_IsSequence_ls : List LSum := []
noncomputable def impl_IsSequence_tab : List Row := [⟨86, [], [impl_sequence_s]⟩, ⟨116, [], [impl_areLetters_s]⟩, ⟨117, [], [impl_areGiven_s]⟩]
theorem impl_IsSequence_t : ∀ r, r ∈ impl_IsSequence_tab → RowIs (drI := drZ) Go.Proofs.Tryz.prog r := tab_cons (drI := drZ) (impl_sequence_is) (tab_cons (drI := drZ) ((weak_is impl_areLetters_is)) (tab_cons (drI := drZ) ((weak_is impl_areGiven_is)) (tab_nil (drI := drZ))))
theorem impl_IsSequence_rs : RoundsOK (mkCtx Go.K.Link.seat impl_IsSequence_c impl_IsSequence_tab) (sums impl_IsSequence_ls) (loopsOf 0 impl_IsSequence_code) impl_IsSequence_ls := trivial
theorem impl_IsSequence_e : ∀ v, (evFn (mkCtx Go.K.Link.seat impl_IsSequence_c impl_IsSequence_tab) (sums impl_IsSequence_ls) 98 Go.Proofs.Tryz.f98 (encL impl_IsSequence_s.a v)).run = (impl_IsSequence_s.gen v).bind fun y => some (impl_IsSequence_s.out y) := by
  rintro ⟨s, _⟩
  show _ = (impl_IsSequence s).bind fun y : Bool => some (impl_IsSequence_s.out y)
  simp only [impl_IsSequence, kb_ite, kb_some, kb_none, kb_bind, kb_alt]
  kernel_rfl
theorem impl_IsSequence_is : FnIs (drI := drZ) Go.Proofs.Tryz.prog 98 (modeOf []) (phi [impl_IsSequence_s]) := spec_is (drI := drZ) (c := impl_IsSequence_c) seatOK impl_IsSequence_t Go.Proofs.Tryz.func98 rfl (code := impl_IsSequence_code) rfl rfl impl_IsSequence_rs impl_IsSequence_e
noncomputable def impl_areAll_impl_Sequence_code : Code := (Go.Proofs.Tryz.f99.body).getD .skip
def impl_areAll_impl_Sequence_c : Cfg := ⟨99, [], [], [], [], []⟩
noncomputable def slices_ContainsFunc__impl_Sequence_impl_Sequence_code : Code := (Go.Proofs.Tryz.f118.body).getD .skip
def slices_ContainsFunc__impl_Sequence_impl_Sequence_c : Cfg := ⟨118, [], [], [], [], []⟩
noncomputable def slices_IndexFunc__impl_Sequence_impl_Sequence_code : Code := (Go.Proofs.Tryz.f138.body).getD .skip
def slices_IndexFunc__impl_Sequence_impl_Sequence_c : Cfg := ⟨138, [], [[0, 1, 7, 8], [], [4]], [], [], []⟩
noncomputable def impl_areAll_impl_Sequence_f1_code : Code := (Go.Proofs.Tryz.f119.body).getD .skip
def impl_areAll_impl_Sequence_f1_c : Cfg := ⟨119, [], [], [], [], []⟩
noncomputable def impl_areAll_impl_Sequence_f1_s : Spec := ⟨[.v (.pair (.str) (.pair (.str) (.unit))) .fr, .pfn 98 [] []], Bool, fun v => impl_areAll_impl_Sequence_f1 v.1, fun r => ([.v (.bool) .fr r], [])⟩
noncomputable def impl_areAll_impl_Sequence_f1_ls : List LSum := []
noncomputable def impl_areAll_impl_Sequence_f1_tab : List Row := [⟨98, [], [impl_IsSequence_s]⟩]
theorem impl_areAll_impl_Sequence_f1_t : ∀ r, r ∈ impl_areAll_impl_Sequence_f1_tab → RowIs (drI := drZ) Go.Proofs.Tryz.prog r := tab_cons (drI := drZ) (impl_IsSequence_is) (tab_nil (drI := drZ))
theorem impl_areAll_impl_Sequence_f1_rs : RoundsOK (mkCtx Go.K.Link.seat impl_areAll_impl_Sequence_f1_c impl_areAll_impl_Sequence_f1_tab) (sums impl_areAll_impl_Sequence_f1_ls) (loopsOf 0 impl_areAll_impl_Sequence_f1_code) impl_areAll_impl_Sequence_f1_ls := trivial
theorem impl_areAll_impl_Sequence_f1_e : ∀ v, (evFn (mkCtx Go.K.Link.seat impl_areAll_impl_Sequence_f1_c impl_areAll_impl_Sequence_f1_tab) (sums impl_areAll_impl_Sequence_f1_ls) 119 Go.Proofs.Tryz.f119 (encL impl_areAll_impl_Sequence_f1_s.a v)).run = (impl_areAll_impl_Sequence_f1_s.gen v).bind fun y => some (impl_areAll_impl_Sequence_f1_s.out y) := by
  rintro ⟨x, ⟨⟨_, _⟩, _⟩⟩
  show _ = (impl_areAll_impl_Sequence_f1 x).bind fun y : Bool => some (impl_areAll_impl_Sequence_f1_s.out y)
  simp only [impl_areAll_impl_Sequence_f1, kb_ite, kb_some, kb_none, kb_bind, kb_alt]
  kernel_rfl
theorem impl_areAll_impl_Sequence_f1_is : FnIs (drI := drZ) Go.Proofs.Tryz.prog 119 (modeOf []) (phi [impl_areAll_impl_Sequence_f1_s]) := spec_is (drI := drZ) (c := impl_areAll_impl_Sequence_f1_c) seatOK impl_areAll_impl_Sequence_f1_t Go.Proofs.Tryz.func119 rfl (code := impl_areAll_impl_Sequence_f1_code) rfl rfl impl_areAll_impl_Sequence_f1_rs impl_areAll_impl_Sequence_f1_e
noncomputable def slices_IndexFunc__impl_Sequence_impl_Sequence_l0_s : LSum := ⟨0, ⟨[(0, .val (.sl 28 (.pair (.str) (.pair (.str) (.unit)))) .fr), (0, .fnl 119 [] [.arg (.pfn 98 [] [])]), (5, .val (.int .i64) .fr), (0, .val (.int .i64) .fr)], 10⟩, (.ret, ⟨[(4, .val (.int .i64) .fr)], 14⟩), [(.exit 0, ⟨[], 19⟩)], slices_IndexFunc__impl_Sequence_impl_Sequence_l0⟩
noncomputable def slices_IndexFunc__impl_Sequence_impl_Sequence_s : Spec := ⟨[.v (.sl 28 (.pair (.str) (.pair (.str) (.unit)))) .fr, .fn 119 [] [.pfn 98 [] []]], Int, fun v => slices_IndexFunc__impl_Sequence_impl_Sequence v.1, fun r => ([.v (.int .i64) .fr r], [])⟩
noncomputable def slices_IndexFunc__impl_Sequence_impl_Sequence_ls : List LSum := [slices_IndexFunc__impl_Sequence_impl_Sequence_l0_s]
noncomputable def slices_IndexFunc__impl_Sequence_impl_Sequence_tab : List Row := [⟨119, [], [impl_areAll_impl_Sequence_f1_s]⟩]
theorem slices_IndexFunc__impl_Sequence_impl_Sequence_t : ∀ r, r ∈ slices_IndexFunc__impl_Sequence_impl_Sequence_tab → RowIs (drI := drZ) Go.Proofs.Tryz.prog r := tab_cons (drI := drZ) (impl_areAll_impl_Sequence_f1_is) (tab_nil (drI := drZ))
theorem slices_IndexFunc__impl_Sequence_impl_Sequence_l0_r : RoundIs (mkCtx Go.K.Link.seat slices_IndexFunc__impl_Sequence_impl_Sequence_c slices_IndexFunc__impl_Sequence_impl_Sequence_tab) (sums slices_IndexFunc__impl_Sequence_impl_Sequence_ls) 0 (bodyAt (loopsOf 0 slices_IndexFunc__impl_Sequence_impl_Sequence_code) 0) slices_IndexFunc__impl_Sequence_impl_Sequence_l0_s := by
  rintro ⟨s, ⟨_, ⟨⟨_, _⟩, _⟩, ⟨t7, ⟨t8, _⟩⟩⟩⟩
  show _ = (slices_IndexFunc__impl_Sequence_impl_Sequence_l0 (s, ((), (((), ()), ()), (t7, (t8, ()))))).bind fun r : (Ctl ((List ((List UInt8) × ((List UInt8) × Unit))) × Unit × ((Unit × Unit) × Unit) × Int × Int × Unit) ((Int × Unit) ⊕ (Unit))) => some (ctlVal slices_IndexFunc__impl_Sequence_impl_Sequence_l0_s r)
  simp only [slices_IndexFunc__impl_Sequence_impl_Sequence_l0, kb_ite, kb_some, kb_none, kb_bind, kb_alt]
  kernel_rfl
theorem slices_IndexFunc__impl_Sequence_impl_Sequence_rs : RoundsOK (mkCtx Go.K.Link.seat slices_IndexFunc__impl_Sequence_impl_Sequence_c slices_IndexFunc__impl_Sequence_impl_Sequence_tab) (sums slices_IndexFunc__impl_Sequence_impl_Sequence_ls) (loopsOf 0 slices_IndexFunc__impl_Sequence_impl_Sequence_code) slices_IndexFunc__impl_Sequence_impl_Sequence_ls := ⟨⟨rfl, rfl, slices_IndexFunc__impl_Sequence_impl_Sequence_l0_r⟩, trivial⟩
theorem slices_IndexFunc__impl_Sequence_impl_Sequence_e : ∀ v, (evFn (mkCtx Go.K.Link.seat slices_IndexFunc__impl_Sequence_impl_Sequence_c slices_IndexFunc__impl_Sequence_impl_Sequence_tab) (sums slices_IndexFunc__impl_Sequence_impl_Sequence_ls) 138 Go.Proofs.Tryz.f138 (encL slices_IndexFunc__impl_Sequence_impl_Sequence_s.a v)).run = (slices_IndexFunc__impl_Sequence_impl_Sequence_s.gen v).bind fun y => some (slices_IndexFunc__impl_Sequence_impl_Sequence_s.out y) := by
  rintro ⟨s, ⟨⟨_, ⟨⟨_, _⟩, _⟩⟩, _⟩⟩
  show _ = (slices_IndexFunc__impl_Sequence_impl_Sequence s).bind fun y : Int => some (slices_IndexFunc__impl_Sequence_impl_Sequence_s.out y)
  simp only [slices_IndexFunc__impl_Sequence_impl_Sequence, kb_ite, kb_some, kb_none, kb_bind, kb_alt]
  kernel_rfl
theorem slices_IndexFunc__impl_Sequence_impl_Sequence_is : FnIs (drI := drZ) Go.Proofs.Tryz.prog 138 (modeOf []) (phi [slices_IndexFunc__impl_Sequence_impl_Sequence_s]) := spec_is (drI := drZ) (c := slices_IndexFunc__impl_Sequence_impl_Sequence_c) seatOK slices_IndexFunc__impl_Sequence_impl_Sequence_t Go.Proofs.Tryz.func138 rfl (code := slices_IndexFunc__impl_Sequence_impl_Sequence_code) rfl rfl slices_IndexFunc__impl_Sequence_impl_Sequence_rs slices_IndexFunc__impl_Sequence_impl_Sequence_e
noncomputable def slices_ContainsFunc__impl_Sequence_impl_Sequence_s : Spec := ⟨[.v (.sl 28 (.pair (.str) (.pair (.str) (.unit)))) .fr, .fn 119 [] [.pfn 98 [] []]], Bool, fun v => slices_ContainsFunc__impl_Sequence_impl_Sequence v.1, fun r => ([.v (.bool) .fr r], [])⟩
noncomputable def slices_ContainsFunc__impl_Sequence_impl_Sequence_ls : List LSum := []
noncomputable def slices_ContainsFunc__impl_Sequence_impl_Sequence_tab : List Row := [⟨138, [], [slices_IndexFunc__impl_Sequence_impl_Sequence_s]⟩]
theorem slices_ContainsFunc__impl_Sequence_impl_Sequence_t : ∀ r, r ∈ slices_ContainsFunc__impl_Sequence_impl_Sequence_tab → RowIs (drI := drZ) Go.Proofs.Tryz.prog r := tab_cons (drI := drZ) (slices_IndexFunc__impl_Sequence_impl_Sequence_is) (tab_nil (drI := drZ))
theorem slices_ContainsFunc__impl_Sequence_impl_Sequence_rs : RoundsOK (mkCtx Go.K.Link.seat slices_ContainsFunc__impl_Sequence_impl_Sequence_c slices_ContainsFunc__impl_Sequence_impl_Sequence_tab) (sums slices_ContainsFunc__impl_Sequence_impl_Sequence_ls) (loopsOf 0 slices_ContainsFunc__impl_Sequence_impl_Sequence_code) slices_ContainsFunc__impl_Sequence_impl_Sequence_ls := trivial
theorem slices_ContainsFunc__impl_Sequence_impl_Sequence_e : ∀ v, (evFn (mkCtx Go.K.Link.seat slices_ContainsFunc__impl_Sequence_impl_Sequence_c slices_ContainsFunc__impl_Sequence_impl_Sequence_tab) (sums slices_ContainsFunc__impl_Sequence_impl_Sequence_ls) 118 Go.Proofs.Tryz.f118 (encL slices_ContainsFunc__impl_Sequence_impl_Sequence_s.a v)).run = (slices_ContainsFunc__impl_Sequence_impl_Sequence_s.gen v).bind fun y => some (slices_ContainsFunc__impl_Sequence_impl_Sequence_s.out y) := by
  rintro ⟨s, ⟨⟨_, ⟨⟨_, _⟩, _⟩⟩, _⟩⟩
  show _ = (slices_ContainsFunc__impl_Sequence_impl_Sequence s).bind fun y : Bool => some (slices_ContainsFunc__impl_Sequence_impl_Sequence_s.out y)
  simp only [slices_ContainsFunc__impl_Sequence_impl_Sequence, kb_ite, kb_some, kb_none, kb_bind, kb_alt]
  kernel_rfl
theorem slices_ContainsFunc__impl_Sequence_impl_Sequence_is : FnIs (drI := drZ) Go.Proofs.Tryz.prog 118 (modeOf []) (phi [slices_ContainsFunc__impl_Sequence_impl_Sequence_s]) := spec_is (drI := drZ) (c := slices_ContainsFunc__impl_Sequence_impl_Sequence_c) seatOK slices_ContainsFunc__impl_Sequence_impl_Sequence_t Go.Proofs.Tryz.func118 rfl (code := slices_ContainsFunc__impl_Sequence_impl_Sequence_code) rfl rfl slices_ContainsFunc__impl_Sequence_impl_Sequence_rs slices_ContainsFunc__impl_Sequence_impl_Sequence_e
noncomputable def impl_areAll_impl_Sequence_s : Spec := ⟨[.v (.sl 28 (.pair (.str) (.pair (.str) (.unit)))) .fr, .fn 98 [] []], Bool, fun v => impl_areAll_impl_Sequence v.1, fun r => ([.v (.bool) .fr r], [])⟩
noncomputable def impl_areAll_impl_Sequence_ls : List LSum := []
noncomputable def impl_areAll_impl_Sequence_tab : List Row := [⟨118, [], [slices_ContainsFunc__impl_Sequence_impl_Sequence_s]⟩]
theorem impl_areAll_impl_Sequence_t : ∀ r, r ∈ impl_areAll_impl_Sequence_tab → RowIs (drI := drZ) Go.Proofs.Tryz.prog r := tab_cons (drI := drZ) (slices_ContainsFunc__impl_Sequence_impl_Sequence_is) (tab_nil (drI := drZ))
theorem impl_areAll_impl_Sequence_rs : RoundsOK (mkCtx Go.K.Link.seat impl_areAll_impl_Sequence_c impl_areAll_impl_Sequence_tab) (sums impl_areAll_impl_Sequence_ls) (loopsOf 0 impl_areAll_impl_Sequence_code) impl_areAll_impl_Sequence_ls := trivial
theorem impl_areAll_impl_Sequence_e : ∀ v, (evFn (mkCtx Go.K.Link.seat impl_areAll_impl_Sequence_c impl_areAll_impl_Sequence_tab) (sums impl_areAll_impl_Sequence_ls) 99 Go.Proofs.Tryz.f99 (encL impl_areAll_impl_Sequence_s.a v)).run = (impl_areAll_impl_Sequence_s.gen v).bind fun y => some (impl_areAll_impl_Sequence_s.out y) := by
  rintro ⟨list, ⟨⟨_, _⟩, _⟩⟩
  show _ = (impl_areAll_impl_Sequence list).bind fun y : Bool => some (impl_areAll_impl_Sequence_s.out y)
  simp only [impl_areAll_impl_Sequence, kb_ite, kb_some, kb_none, kb_bind, kb_alt]
  kernel_rfl
theorem impl_areAll_impl_Sequence_is : FnIs (drI := drZ) Go.Proofs.Tryz.prog 99 (modeOf []) (phi [impl_areAll_impl_Sequence_s]) := spec_is (drI := drZ) (c := impl_areAll_impl_Sequence_c) seatOK impl_areAll_impl_Sequence_t Go.Proofs.Tryz.func99 rfl (code := impl_areAll_impl_Sequence_code) rfl rfl impl_areAll_impl_Sequence_rs impl_areAll_impl_Sequence_e
noncomputable def impl_Sequence_isStar_code : Code := (Go.Proofs.Tryz.f100.body).getD .skip
def impl_Sequence_isStar_c : Cfg := ⟨100, [], [], [], [], []⟩
noncomputable def strings_IndexByte_s : Spec := ⟨[.v (.str) .fr, .v (.int .u8) .fr], Int, fun v => strings_IndexByte v.1 v.2.1, fun r => ([.v (.int .i64) .fr r], [])⟩
theorem strings_IndexByte_is : FnIs Go.Proofs.Tryz.prog 120 (modeOf []) (phi [strings_IndexByte_s]) := ix_is Go.Proofs.Tryz.ixbL ⟨_, Go.Proofs.Tryz.func120, rfl, rfl⟩
noncomputable def impl_Sequence_isStar_s : Spec := ⟨[.v (.pair (.str) (.pair (.str) (.unit))) .fr], Bool, fun v => impl_Sequence_isStar v.1, fun r => ([.v (.bool) .fr r], [])⟩
noncomputable def impl_Sequence_isStar_ls : List LSum := []
noncomputable def impl_Sequence_isStar_tab : List Row := [⟨120, [], [strings_IndexByte_s]⟩]
theorem impl_Sequence_isStar_t : ∀ r, r ∈ impl_Sequence_isStar_tab → RowIs Go.Proofs.Tryz.prog r := tab_cons (strings_IndexByte_is) (tab_nil)
theorem impl_Sequence_isStar_rs : RoundsOK (mkCtx Go.K.Link.seat impl_Sequence_isStar_c impl_Sequence_isStar_tab) (sums impl_Sequence_isStar_ls) (loopsOf 0 impl_Sequence_isStar_code) impl_Sequence_isStar_ls := trivial
theorem impl_Sequence_isStar_e : ∀ v, (evFn (mkCtx Go.K.Link.seat impl_Sequence_isStar_c impl_Sequence_isStar_tab) (sums impl_Sequence_isStar_ls) 100 Go.Proofs.Tryz.f100 (encL impl_Sequence_isStar_s.a v)).run = (impl_Sequence_isStar_s.gen v).bind fun y => some (impl_Sequence_isStar_s.out y) := by
  rintro ⟨s, _⟩
  show _ = (impl_Sequence_isStar s).bind fun y : Bool => some (impl_Sequence_isStar_s.out y)
  simp only [impl_Sequence_isStar, kb_ite, kb_some, kb_none, kb_bind, kb_alt]
  kernel_rfl
theorem impl_Sequence_isStar_is : FnIs Go.Proofs.Tryz.prog 100 (modeOf []) (phi [impl_Sequence_isStar_s]) := spec_is (c := impl_Sequence_isStar_c) seatOK impl_Sequence_isStar_t Go.Proofs.Tryz.func100 rfl (code := impl_Sequence_isStar_code) rfl rfl impl_Sequence_isStar_rs impl_Sequence_isStar_e
noncomputable def impl_areAll_impl_Sequence_v2_code : Code := (Go.Proofs.Tryz.f99.body).getD .skip
def impl_areAll_impl_Sequence_v2_c : Cfg := ⟨99, [], [], [], [], []⟩
noncomputable def slices_ContainsFunc__impl_Sequence_impl_Sequence_v2_code : Code := (Go.Proofs.Tryz.f118.body).getD .skip
def slices_ContainsFunc__impl_Sequence_impl_Sequence_v2_c : Cfg := ⟨118, [], [], [], [], []⟩
noncomputable def slices_IndexFunc__impl_Sequence_impl_Sequence_v2_code : Code := (Go.Proofs.Tryz.f138.body).getD .skip
def slices_IndexFunc__impl_Sequence_impl_Sequence_v2_c : Cfg := ⟨138, [], [[0, 1, 7, 8], [], [4]], [], [], []⟩
noncomputable def impl_areAll_impl_Sequence_f1_v2_code : Code := (Go.Proofs.Tryz.f119.body).getD .skip
def impl_areAll_impl_Sequence_f1_v2_c : Cfg := ⟨119, [], [], [], [], []⟩
noncomputable def impl_Sequence_isPoint_code : Code := (Go.Proofs.Tryz.f101.body).getD .skip
def impl_Sequence_isPoint_c : Cfg := ⟨101, [], [[2, 3, 12, 13], [], [4]], [], [], []⟩
noncomputable def impl_Sequence_shift_code : Code := (Go.Proofs.Tryz.f63.body).getD .skip
def impl_Sequence_shift_c : Cfg := ⟨63, [], [], [], [], []⟩
noncomputable def impl_Sequence_shift_s : Spec := ⟨[.v (.pair (.str) (.pair (.str) (.unit))) .fr], ((List UInt8) × ((List UInt8) × Unit)), fun v => impl_Sequence_shift v.1, fun r => ([.v (.pair (.str) (.pair (.str) (.unit))) .fr r], [])⟩
noncomputable def impl_Sequence_shift_ls : List LSum := []
noncomputable def impl_Sequence_shift_tab : List Row := []
theorem impl_Sequence_shift_t : ∀ r, r ∈ impl_Sequence_shift_tab → RowIs Go.Proofs.Tryz.prog r := tab_nil
theorem impl_Sequence_shift_rs : RoundsOK (mkCtx Go.K.Link.seat impl_Sequence_shift_c impl_Sequence_shift_tab) (sums impl_Sequence_shift_ls) (loopsOf 0 impl_Sequence_shift_code) impl_Sequence_shift_ls := trivial
theorem impl_Sequence_shift_e : ∀ v, (evFn (mkCtx Go.K.Link.seat impl_Sequence_shift_c impl_Sequence_shift_tab) (sums impl_Sequence_shift_ls) 63 Go.Proofs.Tryz.f63 (encL impl_Sequence_shift_s.a v)).run = (impl_Sequence_shift_s.gen v).bind fun y => some (impl_Sequence_shift_s.out y) := by
  rintro ⟨s, _⟩
  show _ = (impl_Sequence_shift s).bind fun y : ((List UInt8) × ((List UInt8) × Unit)) => some (impl_Sequence_shift_s.out y)
  simp only [impl_Sequence_shift, kb_ite, kb_some, kb_none, kb_bind, kb_alt]
  kernel_rfl
theorem impl_Sequence_shift_is : FnIs Go.Proofs.Tryz.prog 63 (modeOf []) (phi [impl_Sequence_shift_s]) := spec_is (c := impl_Sequence_shift_c) seatOK impl_Sequence_shift_t Go.Proofs.Tryz.func63 rfl (code := impl_Sequence_shift_code) rfl rfl impl_Sequence_shift_rs impl_Sequence_shift_e
noncomputable def impl_Sequence_at_code : Code := (Go.Proofs.Tryz.f105.body).getD .skip
def impl_Sequence_at_c : Cfg := ⟨105, [], [], [], [], []⟩
noncomputable def impl_Sequence_at_s : Spec := ⟨[.v (.pair (.str) (.pair (.str) (.unit))) .fr, .v (.int .i64) .fr], Int, fun v => impl_Sequence_at v.1 v.2.1, fun r => ([.v (.int .u8) .fr r], [])⟩
noncomputable def impl_Sequence_at_ls : List LSum := []
noncomputable def impl_Sequence_at_tab : List Row := []
theorem impl_Sequence_at_t : ∀ r, r ∈ impl_Sequence_at_tab → RowIs Go.Proofs.Tryz.prog r := tab_nil
theorem impl_Sequence_at_rs : RoundsOK (mkCtx Go.K.Link.seat impl_Sequence_at_c impl_Sequence_at_tab) (sums impl_Sequence_at_ls) (loopsOf 0 impl_Sequence_at_code) impl_Sequence_at_ls := trivial
theorem impl_Sequence_at_e : ∀ v, (evFn (mkCtx Go.K.Link.seat impl_Sequence_at_c impl_Sequence_at_tab) (sums impl_Sequence_at_ls) 105 Go.Proofs.Tryz.f105 (encL impl_Sequence_at_s.a v)).run = (impl_Sequence_at_s.gen v).bind fun y => some (impl_Sequence_at_s.out y) := by
  rintro ⟨s, ⟨k, _⟩⟩
  show _ = (impl_Sequence_at s k).bind fun y : Int => some (impl_Sequence_at_s.out y)
  simp only [impl_Sequence_at, kb_ite, kb_some, kb_none, kb_bind, kb_alt]
  kernel_rfl
theorem impl_Sequence_at_is : FnIs Go.Proofs.Tryz.prog 105 (modeOf []) (phi [impl_Sequence_at_s]) := spec_is (c := impl_Sequence_at_c) seatOK impl_Sequence_at_t Go.Proofs.Tryz.func105 rfl (code := impl_Sequence_at_code) rfl rfl impl_Sequence_at_rs impl_Sequence_at_e
noncomputable def impl_Sequence_isPoint_l0_s : LSum := ⟨0, ⟨[(2, .val (.ptr (.pair (.str) (.pair (.str) (.unit)))) (.own .fr)), (0, .val (.ptr (.pair (.str) (.pair (.str) (.unit)))) (.own .fr)), (8, .val (.int .i64) .fr), (0, .val (.int .i64) .fr)], 13⟩, (.ret, ⟨[(4, .val (.bool) .fr)], 22⟩), [(.exit 0, ⟨[], 27⟩)], impl_Sequence_isPoint_l0⟩
noncomputable def impl_Sequence_isPoint_s : Spec := ⟨[.v (.pair (.str) (.pair (.str) (.unit))) .fr, .v (.pair (.str) (.pair (.str) (.unit))) .fr], Bool, fun v => impl_Sequence_isPoint v.1 v.2.1, fun r => ([.v (.bool) .fr r], [])⟩
noncomputable def impl_Sequence_isPoint_ls : List LSum := [impl_Sequence_isPoint_l0_s]
noncomputable def impl_Sequence_isPoint_tab : List Row := [⟨105, [], [impl_Sequence_at_s]⟩, ⟨63, [], [impl_Sequence_shift_s]⟩]
theorem impl_Sequence_isPoint_t : ∀ r, r ∈ impl_Sequence_isPoint_tab → RowIs Go.Proofs.Tryz.prog r := tab_cons (impl_Sequence_at_is) (tab_cons (impl_Sequence_shift_is) (tab_nil))
theorem impl_Sequence_isPoint_l0_r : RoundIs (mkCtx Go.K.Link.seat impl_Sequence_isPoint_c impl_Sequence_isPoint_tab) (sums impl_Sequence_isPoint_ls) 0 (bodyAt (loopsOf 0 impl_Sequence_isPoint_code) 0) impl_Sequence_isPoint_l0_s := by
  rintro ⟨v, ⟨s, ⟨t12, ⟨t13, _⟩⟩⟩⟩
  show _ = (impl_Sequence_isPoint_l0 (v, (s, (t12, (t13, ()))))).bind fun r : (Ctl ((((List UInt8) × ((List UInt8) × Unit))) × (((List UInt8) × ((List UInt8) × Unit))) × Int × Int × Unit) ((Bool × Unit) ⊕ (Unit))) => some (ctlVal impl_Sequence_isPoint_l0_s r)
  simp only [impl_Sequence_isPoint_l0, kb_ite, kb_some, kb_none, kb_bind, kb_alt]
  kernel_rfl
theorem impl_Sequence_isPoint_rs : RoundsOK (mkCtx Go.K.Link.seat impl_Sequence_isPoint_c impl_Sequence_isPoint_tab) (sums impl_Sequence_isPoint_ls) (loopsOf 0 impl_Sequence_isPoint_code) impl_Sequence_isPoint_ls := ⟨⟨rfl, rfl, impl_Sequence_isPoint_l0_r⟩, trivial⟩
theorem impl_Sequence_isPoint_e : ∀ v, (evFn (mkCtx Go.K.Link.seat impl_Sequence_isPoint_c impl_Sequence_isPoint_tab) (sums impl_Sequence_isPoint_ls) 101 Go.Proofs.Tryz.f101 (encL impl_Sequence_isPoint_s.a v)).run = (impl_Sequence_isPoint_s.gen v).bind fun y => some (impl_Sequence_isPoint_s.out y) := by
  rintro ⟨v, ⟨s, _⟩⟩
  show _ = (impl_Sequence_isPoint v s).bind fun y : Bool => some (impl_Sequence_isPoint_s.out y)
  simp only [impl_Sequence_isPoint, kb_ite, kb_some, kb_none, kb_bind, kb_alt]
  kernel_rfl
theorem impl_Sequence_isPoint_is : FnIs Go.Proofs.Tryz.prog 101 (modeOf []) (phi [impl_Sequence_isPoint_s]) := spec_is (c := impl_Sequence_isPoint_c) seatOK impl_Sequence_isPoint_t Go.Proofs.Tryz.func101 rfl (code := impl_Sequence_isPoint_code) rfl rfl impl_Sequence_isPoint_rs impl_Sequence_isPoint_e
noncomputable def impl_areAll_impl_Sequence_f1_v2_s : Spec := ⟨[.v (.pair (.str) (.pair (.str) (.unit))) .fr, .pfn 101 [.v (.pair (.str) (.pair (.str) (.unit))) .fr] []], Bool, fun v => impl_areAll_impl_Sequence_f1_v2 v.1 v.2.1.1.1, fun r => ([.v (.bool) .fr r], [])⟩
noncomputable def impl_areAll_impl_Sequence_f1_v2_ls : List LSum := []
noncomputable def impl_areAll_impl_Sequence_f1_v2_tab : List Row := [⟨101, [], [impl_Sequence_isPoint_s]⟩]
theorem impl_areAll_impl_Sequence_f1_v2_t : ∀ r, r ∈ impl_areAll_impl_Sequence_f1_v2_tab → RowIs Go.Proofs.Tryz.prog r := tab_cons (impl_Sequence_isPoint_is) (tab_nil)
theorem impl_areAll_impl_Sequence_f1_v2_rs : RoundsOK (mkCtx Go.K.Link.seat impl_areAll_impl_Sequence_f1_v2_c impl_areAll_impl_Sequence_f1_v2_tab) (sums impl_areAll_impl_Sequence_f1_v2_ls) (loopsOf 0 impl_areAll_impl_Sequence_f1_v2_code) impl_areAll_impl_Sequence_f1_v2_ls := trivial
theorem impl_areAll_impl_Sequence_f1_v2_e : ∀ v, (evFn (mkCtx Go.K.Link.seat impl_areAll_impl_Sequence_f1_v2_c impl_areAll_impl_Sequence_f1_v2_tab) (sums impl_areAll_impl_Sequence_f1_v2_ls) 119 Go.Proofs.Tryz.f119 (encL impl_areAll_impl_Sequence_f1_v2_s.a v)).run = (impl_areAll_impl_Sequence_f1_v2_s.gen v).bind fun y => some (impl_areAll_impl_Sequence_f1_v2_s.out y) := by
  rintro ⟨x, ⟨⟨⟨t1_0, _⟩, _⟩, _⟩⟩
  show _ = (impl_areAll_impl_Sequence_f1_v2 x t1_0).bind fun y : Bool => some (impl_areAll_impl_Sequence_f1_v2_s.out y)
  simp only [impl_areAll_impl_Sequence_f1_v2, kb_ite, kb_some, kb_none, kb_bind, kb_alt]
  kernel_rfl
theorem impl_areAll_impl_Sequence_f1_v2_is : FnIs Go.Proofs.Tryz.prog 119 (modeOf []) (phi [impl_areAll_impl_Sequence_f1_v2_s]) := spec_is (c := impl_areAll_impl_Sequence_f1_v2_c) seatOK impl_areAll_impl_Sequence_f1_v2_t Go.Proofs.Tryz.func119 rfl (code := impl_areAll_impl_Sequence_f1_v2_code) rfl rfl impl_areAll_impl_Sequence_f1_v2_rs impl_areAll_impl_Sequence_f1_v2_e
noncomputable def slices_IndexFunc__impl_Sequence_impl_Sequence_v2_l0_s : LSum := ⟨0, ⟨[(0, .val (.sl 28 (.pair (.str) (.pair (.str) (.unit)))) .fr), (0, .fnl 119 [] [.arg (.pfn 101 [.v (.pair (.str) (.pair (.str) (.unit))) .fr] [])]), (5, .val (.int .i64) .fr), (0, .val (.int .i64) .fr)], 10⟩, (.ret, ⟨[(4, .val (.int .i64) .fr)], 14⟩), [(.exit 0, ⟨[], 19⟩)], slices_IndexFunc__impl_Sequence_impl_Sequence_v2_l0⟩
noncomputable def slices_IndexFunc__impl_Sequence_impl_Sequence_v2_s : Spec := ⟨[.v (.sl 28 (.pair (.str) (.pair (.str) (.unit)))) .fr, .fn 119 [] [.pfn 101 [.v (.pair (.str) (.pair (.str) (.unit))) .fr] []]], Int, fun v => slices_IndexFunc__impl_Sequence_impl_Sequence_v2 v.1 v.2.1.2.1.1.1, fun r => ([.v (.int .i64) .fr r], [])⟩
noncomputable def slices_IndexFunc__impl_Sequence_impl_Sequence_v2_ls : List LSum := [slices_IndexFunc__impl_Sequence_impl_Sequence_v2_l0_s]
noncomputable def slices_IndexFunc__impl_Sequence_impl_Sequence_v2_tab : List Row := [⟨119, [], [impl_areAll_impl_Sequence_f1_v2_s]⟩]
theorem slices_IndexFunc__impl_Sequence_impl_Sequence_v2_t : ∀ r, r ∈ slices_IndexFunc__impl_Sequence_impl_Sequence_v2_tab → RowIs Go.Proofs.Tryz.prog r := tab_cons (impl_areAll_impl_Sequence_f1_v2_is) (tab_nil)
theorem slices_IndexFunc__impl_Sequence_impl_Sequence_v2_l0_r : RoundIs (mkCtx Go.K.Link.seat slices_IndexFunc__impl_Sequence_impl_Sequence_v2_c slices_IndexFunc__impl_Sequence_impl_Sequence_v2_tab) (sums slices_IndexFunc__impl_Sequence_impl_Sequence_v2_ls) 0 (bodyAt (loopsOf 0 slices_IndexFunc__impl_Sequence_impl_Sequence_v2_code) 0) slices_IndexFunc__impl_Sequence_impl_Sequence_v2_l0_s := by
  rintro ⟨s, ⟨_, ⟨⟨⟨f, _⟩, _⟩, _⟩, ⟨t7, ⟨t8, _⟩⟩⟩⟩
  show _ = (slices_IndexFunc__impl_Sequence_impl_Sequence_v2_l0 (s, ((), (((f, ()), ()), ()), (t7, (t8, ()))))).bind fun r : (Ctl ((List ((List UInt8) × ((List UInt8) × Unit))) × Unit × (((((List UInt8) × ((List UInt8) × Unit)) × Unit) × Unit) × Unit) × Int × Int × Unit) ((Int × Unit) ⊕ (Unit))) => some (ctlVal slices_IndexFunc__impl_Sequence_impl_Sequence_v2_l0_s r)
  simp only [slices_IndexFunc__impl_Sequence_impl_Sequence_v2_l0, kb_ite, kb_some, kb_none, kb_bind, kb_alt]
  kernel_rfl
theorem slices_IndexFunc__impl_Sequence_impl_Sequence_v2_rs : RoundsOK (mkCtx Go.K.Link.seat slices_IndexFunc__impl_Sequence_impl_Sequence_v2_c slices_IndexFunc__impl_Sequence_impl_Sequence_v2_tab) (sums slices_IndexFunc__impl_Sequence_impl_Sequence_v2_ls) (loopsOf 0 slices_IndexFunc__impl_Sequence_impl_Sequence_v2_code) slices_IndexFunc__impl_Sequence_impl_Sequence_v2_ls := ⟨⟨rfl, rfl, slices_IndexFunc__impl_Sequence_impl_Sequence_v2_l0_r⟩, trivial⟩
theorem slices_IndexFunc__impl_Sequence_impl_Sequence_v2_e : ∀ v, (evFn (mkCtx Go.K.Link.seat slices_IndexFunc__impl_Sequence_impl_Sequence_v2_c slices_IndexFunc__impl_Sequence_impl_Sequence_v2_tab) (sums slices_IndexFunc__impl_Sequence_impl_Sequence_v2_ls) 138 Go.Proofs.Tryz.f138 (encL slices_IndexFunc__impl_Sequence_impl_Sequence_v2_s.a v)).run = (slices_IndexFunc__impl_Sequence_impl_Sequence_v2_s.gen v).bind fun y => some (slices_IndexFunc__impl_Sequence_impl_Sequence_v2_s.out y) := by
  rintro ⟨s, ⟨⟨_, ⟨⟨⟨f_0_1, _⟩, _⟩, _⟩⟩, _⟩⟩
  show _ = (slices_IndexFunc__impl_Sequence_impl_Sequence_v2 s f_0_1).bind fun y : Int => some (slices_IndexFunc__impl_Sequence_impl_Sequence_v2_s.out y)
  simp only [slices_IndexFunc__impl_Sequence_impl_Sequence_v2, kb_ite, kb_some, kb_none, kb_bind, kb_alt]
  kernel_rfl
theorem slices_IndexFunc__impl_Sequence_impl_Sequence_v2_is : FnIs Go.Proofs.Tryz.prog 138 (modeOf []) (phi [slices_IndexFunc__impl_Sequence_impl_Sequence_v2_s]) := spec_is (c := slices_IndexFunc__impl_Sequence_impl_Sequence_v2_c) seatOK slices_IndexFunc__impl_Sequence_impl_Sequence_v2_t Go.Proofs.Tryz.func138 rfl (code := slices_IndexFunc__impl_Sequence_impl_Sequence_v2_code) rfl rfl slices_IndexFunc__impl_Sequence_impl_Sequence_v2_rs slices_IndexFunc__impl_Sequence_impl_Sequence_v2_e
noncomputable def slices_ContainsFunc__impl_Sequence_impl_Sequence_v2_s : Spec := ⟨[.v (.sl 28 (.pair (.str) (.pair (.str) (.unit)))) .fr, .fn 119 [] [.pfn 101 [.v (.pair (.str) (.pair (.str) (.unit))) .fr] []]], Bool, fun v => slices_ContainsFunc__impl_Sequence_impl_Sequence_v2 v.1 v.2.1.2.1.1.1, fun r => ([.v (.bool) .fr r], [])⟩
noncomputable def slices_ContainsFunc__impl_Sequence_impl_Sequence_v2_ls : List LSum := []
noncomputable def slices_ContainsFunc__impl_Sequence_impl_Sequence_v2_tab : List Row := [⟨138, [], [slices_IndexFunc__impl_Sequence_impl_Sequence_v2_s]⟩]
theorem slices_ContainsFunc__impl_Sequence_impl_Sequence_v2_t : ∀ r, r ∈ slices_ContainsFunc__impl_Sequence_impl_Sequence_v2_tab → RowIs Go.Proofs.Tryz.prog r := tab_cons (slices_IndexFunc__impl_Sequence_impl_Sequence_v2_is) (tab_nil)
theorem slices_ContainsFunc__impl_Sequence_impl_Sequence_v2_rs : RoundsOK (mkCtx Go.K.Link.seat slices_ContainsFunc__impl_Sequence_impl_Sequence_v2_c slices_ContainsFunc__impl_Sequence_impl_Sequence_v2_tab) (sums slices_ContainsFunc__impl_Sequence_impl_Sequence_v2_ls) (loopsOf 0 slices_ContainsFunc__impl_Sequence_impl_Sequence_v2_code) slices_ContainsFunc__impl_Sequence_impl_Sequence_v2_ls := trivial
theorem slices_ContainsFunc__impl_Sequence_impl_Sequence_v2_e : ∀ v, (evFn (mkCtx Go.K.Link.seat slices_ContainsFunc__impl_Sequence_impl_Sequence_v2_c slices_ContainsFunc__impl_Sequence_impl_Sequence_v2_tab) (sums slices_ContainsFunc__impl_Sequence_impl_Sequence_v2_ls) 118 Go.Proofs.Tryz.f118 (encL slices_ContainsFunc__impl_Sequence_impl_Sequence_v2_s.a v)).run = (slices_ContainsFunc__impl_Sequence_impl_Sequence_v2_s.gen v).bind fun y => some (slices_ContainsFunc__impl_Sequence_impl_Sequence_v2_s.out y) := by
  rintro ⟨s, ⟨⟨_, ⟨⟨⟨f_0_1, _⟩, _⟩, _⟩⟩, _⟩⟩
  show _ = (slices_ContainsFunc__impl_Sequence_impl_Sequence_v2 s f_0_1).bind fun y : Bool => some (slices_ContainsFunc__impl_Sequence_impl_Sequence_v2_s.out y)
  simp only [slices_ContainsFunc__impl_Sequence_impl_Sequence_v2, kb_ite, kb_some, kb_none, kb_bind, kb_alt]
  kernel_rfl
theorem slices_ContainsFunc__impl_Sequence_impl_Sequence_v2_is : FnIs Go.Proofs.Tryz.prog 118 (modeOf []) (phi [slices_ContainsFunc__impl_Sequence_impl_Sequence_v2_s]) := spec_is (c := slices_ContainsFunc__impl_Sequence_impl_Sequence_v2_c) seatOK slices_ContainsFunc__impl_Sequence_impl_Sequence_v2_t Go.Proofs.Tryz.func118 rfl (code := slices_ContainsFunc__impl_Sequence_impl_Sequence_v2_code) rfl rfl slices_ContainsFunc__impl_Sequence_impl_Sequence_v2_rs slices_ContainsFunc__impl_Sequence_impl_Sequence_v2_e
noncomputable def impl_areAll_impl_Sequence_v2_s : Spec := ⟨[.v (.sl 28 (.pair (.str) (.pair (.str) (.unit)))) .fr, .fn 101 [.v (.pair (.str) (.pair (.str) (.unit))) .fr] []], Bool, fun v => impl_areAll_impl_Sequence_v2 v.1 v.2.1.1.1, fun r => ([.v (.bool) .fr r], [])⟩
noncomputable def impl_areAll_impl_Sequence_v2_ls : List LSum := []
noncomputable def impl_areAll_impl_Sequence_v2_tab : List Row := [⟨118, [], [slices_ContainsFunc__impl_Sequence_impl_Sequence_v2_s]⟩]
theorem impl_areAll_impl_Sequence_v2_t : ∀ r, r ∈ impl_areAll_impl_Sequence_v2_tab → RowIs Go.Proofs.Tryz.prog r := tab_cons (slices_ContainsFunc__impl_Sequence_impl_Sequence_v2_is) (tab_nil)
theorem impl_areAll_impl_Sequence_v2_rs : RoundsOK (mkCtx Go.K.Link.seat impl_areAll_impl_Sequence_v2_c impl_areAll_impl_Sequence_v2_tab) (sums impl_areAll_impl_Sequence_v2_ls) (loopsOf 0 impl_areAll_impl_Sequence_v2_code) impl_areAll_impl_Sequence_v2_ls := trivial
theorem impl_areAll_impl_Sequence_v2_e : ∀ v, (evFn (mkCtx Go.K.Link.seat impl_areAll_impl_Sequence_v2_c impl_areAll_impl_Sequence_v2_tab) (sums impl_areAll_impl_Sequence_v2_ls) 99 Go.Proofs.Tryz.f99 (encL impl_areAll_impl_Sequence_v2_s.a v)).run = (impl_areAll_impl_Sequence_v2_s.gen v).bind fun y => some (impl_areAll_impl_Sequence_v2_s.out y) := by
  rintro ⟨list, ⟨⟨⟨is'_0, _⟩, _⟩, _⟩⟩
  show _ = (impl_areAll_impl_Sequence_v2 list is'_0).bind fun y : Bool => some (impl_areAll_impl_Sequence_v2_s.out y)
  simp only [impl_areAll_impl_Sequence_v2, kb_ite, kb_some, kb_none, kb_bind, kb_alt]
  kernel_rfl
theorem impl_areAll_impl_Sequence_v2_is : FnIs Go.Proofs.Tryz.prog 99 (modeOf []) (phi [impl_areAll_impl_Sequence_v2_s]) := spec_is (c := impl_areAll_impl_Sequence_v2_c) seatOK impl_areAll_impl_Sequence_v2_t Go.Proofs.Tryz.func99 rfl (code := impl_areAll_impl_Sequence_v2_code) rfl rfl impl_areAll_impl_Sequence_v2_rs impl_areAll_impl_Sequence_v2_e
noncomputable def impl_starCode_s : Spec := ⟨[.v (.pair (.str) (.pair (.str) (.unit))) .fr, .v (.sl 28 (.pair (.str) (.pair (.str) (.unit)))) .fr], Int, fun v => impl_starCode v.1 v.2.1, fun r => ([.v (.int .i64) .fr r], [])⟩
noncomputable def impl_starCode_ls : List LSum := []
noncomputable def impl_starCode_tab : List Row := [⟨98, [], [impl_IsSequence_s]⟩, ⟨99, [], [impl_areAll_impl_Sequence_s, impl_areAll_impl_Sequence_v2_s]⟩, ⟨100, [], [impl_Sequence_isStar_s]⟩]
theorem impl_starCode_t : ∀ r, r ∈ impl_starCode_tab → RowIs (drI := drZ) Go.Proofs.Tryz.prog r := tab_cons (drI := drZ) (impl_IsSequence_is) (tab_cons (drI := drZ) (fnIs_cons (drI := drZ) impl_areAll_impl_Sequence_is ((weak_is impl_areAll_impl_Sequence_v2_is))) (tab_cons (drI := drZ) ((weak_is impl_Sequence_isStar_is)) (tab_nil (drI := drZ))))
theorem impl_starCode_rs : RoundsOK (mkCtx Go.K.Link.seat impl_starCode_c impl_starCode_tab) (sums impl_starCode_ls) (loopsOf 0 impl_starCode_code) impl_starCode_ls := trivial
theorem impl_starCode_e : ∀ v, (evFn (mkCtx Go.K.Link.seat impl_starCode_c impl_starCode_tab) (sums impl_starCode_ls) 78 Go.Proofs.Tryz.f78 (encL impl_starCode_s.a v)).run = (impl_starCode_s.gen v).bind fun y => some (impl_starCode_s.out y) := by
  rintro ⟨v, ⟨points, _⟩⟩
  show _ = (impl_starCode v points).bind fun y : Int => some (impl_starCode_s.out y)
  simp only [impl_starCode, kb_ite, kb_some, kb_none, kb_bind, kb_alt]
  kernel_rfl
theorem impl_starCode_is : FnIs (drI := drZ) Go.Proofs.Tryz.prog 78 (modeOf []) (phi [impl_starCode_s]) := spec_is (drI := drZ) (c := impl_starCode_c) seatOK impl_starCode_t Go.Proofs.Tryz.func78 rfl (code := impl_starCode_code) rfl rfl impl_starCode_rs impl_starCode_e
noncomputable def impl_treeCode_s : Spec := ⟨[.v (.pair (.str) (.pair (.str) (.unit))) .fr], Int, fun v => impl_treeCode v.1, fun r => ([.v (.int .i64) .fr r], [])⟩
noncomputable def impl_treeCode_ls : List LSum := []
noncomputable def impl_treeCode_tab : List Row := [⟨78, [], [impl_starCode_s]⟩]
theorem impl_treeCode_t : ∀ r, r ∈ impl_treeCode_tab → RowIs (drI := drZ) Go.Proofs.Tryz.prog r := tab_cons (drI := drZ) (impl_starCode_is) (tab_nil (drI := drZ))
theorem impl_treeCode_rs : RoundsOK (mkCtx Go.K.Link.seat impl_treeCode_c impl_treeCode_tab) (sums impl_treeCode_ls) (loopsOf 0 impl_treeCode_code) impl_treeCode_ls := trivial
theorem impl_treeCode_e : ∀ v, (evFn (mkCtx Go.K.Link.seat impl_treeCode_c impl_treeCode_tab) (sums impl_treeCode_ls) 60 Go.Proofs.Tryz.f60 (encL impl_treeCode_s.a v)).run = (impl_treeCode_s.gen v).bind fun y => some (impl_treeCode_s.out y) := by
  rintro ⟨v, _⟩
  show _ = (impl_treeCode v).bind fun y : Int => some (impl_treeCode_s.out y)
  simp only [impl_treeCode, kb_ite, kb_some, kb_none, kb_bind, kb_alt]
  kernel_rfl
theorem impl_treeCode_is : FnIs (drI := drZ) Go.Proofs.Tryz.prog 60 (modeOf []) (phi [impl_treeCode_s]) := spec_is (drI := drZ) (c := impl_treeCode_c) seatOK impl_treeCode_t Go.Proofs.Tryz.func60 rfl (code := impl_treeCode_code) rfl rfl impl_treeCode_rs impl_treeCode_e
noncomputable def impl_Sequence_branchPoints_code : Code := (Go.Proofs.Tryz.f61.body).getD .skip
def impl_Sequence_branchPoints_c : Cfg := ⟨61, [], [[1, 4, 5, 15, 16, 17, 18, 68, 75], [5, 68], [2, 3, 75], [], [], [], [1, 4, 5, 7, 15, 16, 17, 18, 23, 25, 26, 27, 68, 75], [1, 4, 5, 15, 16, 17, 18, 68, 75], [2, 3, 75], [], [], [], [1, 4, 5, 7, 9, 15, 16, 17, 18, 23, 25, 26, 27, 32, 34, 35, 36, 68, 75], [1, 4, 5, 7, 15, 16, 17, 18, 23, 25, 26, 27, 68, 75], [2, 3, 75]], [], [], []⟩
noncomputable def impl_Sequence_orbitPoints_code : Code := (Go.Proofs.Tryz.f39.body).getD .skip
def impl_Sequence_orbitPoints_c : Cfg := ⟨39, [], [[1, 3, 4, 17], [3, 17], [2, 3, 17, 19]], [], [], []⟩
noncomputable def impl_Sequence_orbitPoints_l0_s : LSum := ⟨0, ⟨[(1, .val (.ptr (.pair (.str) (.pair (.str) (.unit)))) (.own .fr)), (1, .val (.sl 28 (.pair (.str) (.pair (.str) (.unit)))) (.own .fr)), (0, .val (.ptr (.pair (.str) (.pair (.str) (.unit)))) (.own .fr))], 15⟩, (.exit 0, ⟨[(3, .val (.sl 28 (.pair (.str) (.pair (.str) (.unit)))) (.own .fr))], 16⟩), [], impl_Sequence_orbitPoints_l0⟩
noncomputable def impl_Sequence_orbitPoints_s : Spec := ⟨[.v (.pair (.str) (.pair (.str) (.unit))) .fr], (List ((List UInt8) × ((List UInt8) × Unit))), fun v => impl_Sequence_orbitPoints v.1, fun r => ([.v (.sl 28 (.pair (.str) (.pair (.str) (.unit)))) (.own .fr) r], [])⟩
noncomputable def impl_Sequence_orbitPoints_ls : List LSum := [impl_Sequence_orbitPoints_l0_s]
noncomputable def impl_Sequence_orbitPoints_tab : List Row := [⟨63, [], [impl_Sequence_shift_s]⟩]
theorem impl_Sequence_orbitPoints_t : ∀ r, r ∈ impl_Sequence_orbitPoints_tab → RowIs Go.Proofs.Tryz.prog r := tab_cons (impl_Sequence_shift_is) (tab_nil)
theorem impl_Sequence_orbitPoints_l0_r : RoundIs (mkCtx Go.K.Link.seat impl_Sequence_orbitPoints_c impl_Sequence_orbitPoints_tab) (sums impl_Sequence_orbitPoints_ls) 0 (bodyAt (loopsOf 0 impl_Sequence_orbitPoints_code) 0) impl_Sequence_orbitPoints_l0_s := by
  rintro ⟨v, ⟨out, ⟨s, _⟩⟩⟩
  show _ = (impl_Sequence_orbitPoints_l0 (v, (out, (s, ())))).bind fun r : (Ctl ((((List UInt8) × ((List UInt8) × Unit))) × (List ((List UInt8) × ((List UInt8) × Unit))) × (((List UInt8) × ((List UInt8) × Unit))) × Unit) (((List ((List UInt8) × ((List UInt8) × Unit))) × Unit))) => some (ctlVal impl_Sequence_orbitPoints_l0_s r)
  simp only [impl_Sequence_orbitPoints_l0, kb_ite, kb_some, kb_none, kb_bind, kb_alt]
  kernel_rfl
theorem impl_Sequence_orbitPoints_rs : RoundsOK (mkCtx Go.K.Link.seat impl_Sequence_orbitPoints_c impl_Sequence_orbitPoints_tab) (sums impl_Sequence_orbitPoints_ls) (loopsOf 0 impl_Sequence_orbitPoints_code) impl_Sequence_orbitPoints_ls := ⟨⟨rfl, rfl, impl_Sequence_orbitPoints_l0_r⟩, trivial⟩
theorem impl_Sequence_orbitPoints_e : ∀ v, (evFn (mkCtx Go.K.Link.seat impl_Sequence_orbitPoints_c impl_Sequence_orbitPoints_tab) (sums impl_Sequence_orbitPoints_ls) 39 Go.Proofs.Tryz.f39 (encL impl_Sequence_orbitPoints_s.a v)).run = (impl_Sequence_orbitPoints_s.gen v).bind fun y => some (impl_Sequence_orbitPoints_s.out y) := by
  rintro ⟨v, _⟩
  show _ = (impl_Sequence_orbitPoints v).bind fun y : (List ((List UInt8) × ((List UInt8) × Unit))) => some (impl_Sequence_orbitPoints_s.out y)
  simp only [impl_Sequence_orbitPoints, kb_ite, kb_some, kb_none, kb_bind, kb_alt]
  kernel_rfl
theorem impl_Sequence_orbitPoints_is : FnIs Go.Proofs.Tryz.prog 39 (modeOf []) (phi [impl_Sequence_orbitPoints_s]) := spec_is (c := impl_Sequence_orbitPoints_c) seatOK impl_Sequence_orbitPoints_t Go.Proofs.Tryz.func39 rfl (code := impl_Sequence_orbitPoints_code) rfl rfl impl_Sequence_orbitPoints_rs impl_Sequence_orbitPoints_e
noncomputable def impl_Sequence_middle_code : Code := (Go.Proofs.Tryz.f65.body).getD .skip
def impl_Sequence_middle_c : Cfg := ⟨65, [], [[2, 3, 4, 6, 7, 14], [], [4, 5]], [], [], []⟩
noncomputable def impl_three_twice_code : Code := (Go.Proofs.Tryz.f84.body).getD .skip
def impl_three_twice_c : Cfg := ⟨84, [], [], [], [], []⟩
noncomputable def impl_three_twice_s : Spec := ⟨[.v (.arr 3 (.pair (.str) (.pair (.str) (.unit)))) .fr], ((List UInt8) × ((List UInt8) × Unit)) × Bool, fun v => impl_three_twice v.1, fun r => ([.v (.pair (.str) (.pair (.str) (.unit))) .fr r.1, .v (.bool) .fr r.2], [])⟩
noncomputable def impl_three_twice_ls : List LSum := []
noncomputable def impl_three_twice_tab : List Row := []
theorem impl_three_twice_t : ∀ r, r ∈ impl_three_twice_tab → RowIs Go.Proofs.Tryz.prog r := tab_nil
theorem impl_three_twice_rs : RoundsOK (mkCtx Go.K.Link.seat impl_three_twice_c impl_three_twice_tab) (sums impl_three_twice_ls) (loopsOf 0 impl_three_twice_code) impl_three_twice_ls := trivial
theorem impl_three_twice_e : ∀ v, (evFn (mkCtx Go.K.Link.seat impl_three_twice_c impl_three_twice_tab) (sums impl_three_twice_ls) 84 Go.Proofs.Tryz.f84 (encL impl_three_twice_s.a v)).run = (impl_three_twice_s.gen v).bind fun y => some (impl_three_twice_s.out y) := by
  rintro ⟨p, _⟩
  show _ = (impl_three_twice p).bind fun y : ((List UInt8) × ((List UInt8) × Unit)) × Bool => some (impl_three_twice_s.out y)
  simp only [impl_three_twice, kb_ite, kb_some, kb_none, kb_bind, kb_alt]
  kernel_rfl
theorem impl_three_twice_is : FnIs Go.Proofs.Tryz.prog 84 (modeOf []) (phi [impl_three_twice_s]) := spec_is (c := impl_three_twice_c) seatOK impl_three_twice_t Go.Proofs.Tryz.func84 rfl (code := impl_three_twice_code) rfl rfl impl_three_twice_rs impl_three_twice_e
noncomputable def impl_short_code : Code := (Go.Proofs.Tryz.f85.body).getD .skip
def impl_short_c : Cfg := ⟨85, [], [], [], [], []⟩
noncomputable def impl_short_s : Spec := ⟨[.v (.pair (.str) (.pair (.str) (.unit))) .fr], ((List UInt8) × ((List UInt8) × Unit)) × Int, fun v => impl_short v.1, fun r => ([.v (.pair (.str) (.pair (.str) (.unit))) .fr r.1, .v (.int .i64) .fr r.2], [])⟩
noncomputable def impl_short_ls : List LSum := []
noncomputable def impl_short_tab : List Row := []
theorem impl_short_t : ∀ r, r ∈ impl_short_tab → RowIs Go.Proofs.Tryz.prog r := tab_nil
theorem impl_short_rs : RoundsOK (mkCtx Go.K.Link.seat impl_short_c impl_short_tab) (sums impl_short_ls) (loopsOf 0 impl_short_code) impl_short_ls := trivial
theorem impl_short_e : ∀ v, (evFn (mkCtx Go.K.Link.seat impl_short_c impl_short_tab) (sums impl_short_ls) 85 Go.Proofs.Tryz.f85 (encL impl_short_s.a v)).run = (impl_short_s.gen v).bind fun y => some (impl_short_s.out y) := by
  rintro ⟨s, _⟩
  show _ = (impl_short s).bind fun y : ((List UInt8) × ((List UInt8) × Unit)) × Int => some (impl_short_s.out y)
  simp only [impl_short, kb_ite, kb_some, kb_none, kb_bind, kb_alt]
  kernel_rfl
theorem impl_short_is : FnIs Go.Proofs.Tryz.prog 85 (modeOf []) (phi [impl_short_s]) := spec_is (c := impl_short_c) seatOK impl_short_t Go.Proofs.Tryz.func85 rfl (code := impl_short_code) rfl rfl impl_short_rs impl_short_e
noncomputable def impl_three_vote_code : Code := (Go.Proofs.Tryz.f87.body).getD .skip
def impl_three_vote_c : Cfg := ⟨87, [], [[4, 5, 6, 9, 10], [4, 5, 6], [2, 3]], [], [], []⟩
noncomputable def impl_three_vote_l0_s : LSum := ⟨0, ⟨[(4, .val (.int .i64) .fr), (0, .val (.int .i64) .fr), (0, .val (.int .i64) .fr), (2, .val (.arr 3 (.pair (.str) (.pair (.str) (.unit)))) .fr), (0, .val (.int .i64) .fr)], 22⟩, (.exit 0, ⟨[(4, .val (.int .i64) .fr), (0, .val (.int .i64) .fr), (0, .val (.int .i64) .fr)], 26⟩), [], impl_three_vote_l0⟩
noncomputable def impl_three_vote_s : Spec := ⟨[.v (.arr 3 (.pair (.str) (.pair (.str) (.unit)))) .fr], Int × Int, fun v => impl_three_vote v.1, fun r => ([.v (.int .u8) .fr r.1, .v (.int .i64) .fr r.2], [])⟩
noncomputable def impl_three_vote_ls : List LSum := [impl_three_vote_l0_s]
noncomputable def impl_three_vote_tab : List Row := [⟨105, [], [impl_Sequence_at_s]⟩]
theorem impl_three_vote_t : ∀ r, r ∈ impl_three_vote_tab → RowIs Go.Proofs.Tryz.prog r := tab_cons (impl_Sequence_at_is) (tab_nil)
theorem impl_three_vote_l0_r : RoundIs (mkCtx Go.K.Link.seat impl_three_vote_c impl_three_vote_tab) (sums impl_three_vote_ls) 0 (bodyAt (loopsOf 0 impl_three_vote_code) 0) impl_three_vote_l0_s := by
  rintro ⟨zeros, ⟨ones, ⟨star, ⟨t9, ⟨t10, _⟩⟩⟩⟩⟩
  show _ = (impl_three_vote_l0 (zeros, (ones, (star, (t9, (t10, ())))))).bind fun r : (Ctl (Int × Int × Int × (List ((List UInt8) × ((List UInt8) × Unit))) × Int × Unit) ((Int × Int × Int × Unit))) => some (ctlVal impl_three_vote_l0_s r)
  simp only [impl_three_vote_l0, kb_ite, kb_some, kb_none, kb_bind, kb_alt]
  kernel_rfl
theorem impl_three_vote_rs : RoundsOK (mkCtx Go.K.Link.seat impl_three_vote_c impl_three_vote_tab) (sums impl_three_vote_ls) (loopsOf 0 impl_three_vote_code) impl_three_vote_ls := ⟨⟨rfl, rfl, impl_three_vote_l0_r⟩, trivial⟩
theorem impl_three_vote_e : ∀ v, (evFn (mkCtx Go.K.Link.seat impl_three_vote_c impl_three_vote_tab) (sums impl_three_vote_ls) 87 Go.Proofs.Tryz.f87 (encL impl_three_vote_s.a v)).run = (impl_three_vote_s.gen v).bind fun y => some (impl_three_vote_s.out y) := by
  rintro ⟨p, _⟩
  show _ = (impl_three_vote p).bind fun y : Int × Int => some (impl_three_vote_s.out y)
  simp only [impl_three_vote, kb_ite, kb_some, kb_none, kb_bind, kb_alt]
  kernel_rfl
theorem impl_three_vote_is : FnIs Go.Proofs.Tryz.prog 87 (modeOf []) (phi [impl_three_vote_s]) := spec_is (c := impl_three_vote_c) seatOK impl_three_vote_t Go.Proofs.Tryz.func87 rfl (code := impl_three_vote_code) rfl rfl impl_three_vote_rs impl_three_vote_e
noncomputable def impl_Sequence_moved_code : Code := (Go.Proofs.Tryz.f88.body).getD .skip
def impl_Sequence_moved_c : Cfg := ⟨88, [], [[2, 3, 4, 6, 10, 11], [4, 6], [6]], [], [], []⟩
noncomputable def impl_Sequence_moved_l0_s : LSum := ⟨0, ⟨[(2, .val (.int .u8) .fr), (0, .val (.ptr (.pair (.str) (.pair (.str) (.unit)))) (.own .fr)), (0, .val (.ptr (.arr 3 (.pair (.str) (.pair (.str) (.unit))))) (.own .fr)), (1, .val (.ptr (.arr 3 (.pair (.str) (.pair (.str) (.unit))))) (.own .fr)), (3, .val (.arr 3 (.pair (.str) (.pair (.str) (.unit)))) .fr), (0, .val (.int .i64) .fr)], 21⟩, (.exit 0, ⟨[(4, .val (.ptr (.arr 3 (.pair (.str) (.pair (.str) (.unit))))) (.own .fr)), (1, .val (.ptr (.arr 3 (.pair (.str) (.pair (.str) (.unit))))) (.own .fr))], 26⟩), [], impl_Sequence_moved_l0⟩
noncomputable def impl_Sequence_moved_s : Spec := ⟨[.v (.pair (.str) (.pair (.str) (.unit))) .fr, .v (.arr 3 (.pair (.str) (.pair (.str) (.unit)))) .fr, .v (.int .u8) .fr], (List ((List UInt8) × ((List UInt8) × Unit))), fun v => impl_Sequence_moved v.1 v.2.1 v.2.2.1, fun r => ([.v (.arr 3 (.pair (.str) (.pair (.str) (.unit)))) .fr r], [])⟩
noncomputable def impl_Sequence_moved_ls : List LSum := [impl_Sequence_moved_l0_s]
noncomputable def impl_Sequence_moved_tab : List Row := [⟨105, [], [impl_Sequence_at_s]⟩, ⟨63, [], [impl_Sequence_shift_s]⟩]
theorem impl_Sequence_moved_t : ∀ r, r ∈ impl_Sequence_moved_tab → RowIs Go.Proofs.Tryz.prog r := tab_cons (impl_Sequence_at_is) (tab_cons (impl_Sequence_shift_is) (tab_nil))
theorem impl_Sequence_moved_l0_r : RoundIs (mkCtx Go.K.Link.seat impl_Sequence_moved_c impl_Sequence_moved_tab) (sums impl_Sequence_moved_ls) 0 (bodyAt (loopsOf 0 impl_Sequence_moved_code) 0) impl_Sequence_moved_l0_s := by
  rintro ⟨letter, ⟨v, ⟨p, ⟨t6, ⟨t10, ⟨t11, _⟩⟩⟩⟩⟩⟩
  show _ = (impl_Sequence_moved_l0 (letter, (v, (p, (t6, (t10, (t11, ()))))))).bind fun r : (Ctl (Int × (((List UInt8) × ((List UInt8) × Unit))) × (List ((List UInt8) × ((List UInt8) × Unit))) × (List ((List UInt8) × ((List UInt8) × Unit))) × (List ((List UInt8) × ((List UInt8) × Unit))) × Int × Unit) (((List ((List UInt8) × ((List UInt8) × Unit))) × (List ((List UInt8) × ((List UInt8) × Unit))) × Unit))) => some (ctlVal impl_Sequence_moved_l0_s r)
  simp only [impl_Sequence_moved_l0, kb_ite, kb_some, kb_none, kb_bind, kb_alt]
  kernel_rfl
theorem impl_Sequence_moved_rs : RoundsOK (mkCtx Go.K.Link.seat impl_Sequence_moved_c impl_Sequence_moved_tab) (sums impl_Sequence_moved_ls) (loopsOf 0 impl_Sequence_moved_code) impl_Sequence_moved_ls := ⟨⟨rfl, rfl, impl_Sequence_moved_l0_r⟩, trivial⟩
theorem impl_Sequence_moved_e : ∀ v, (evFn (mkCtx Go.K.Link.seat impl_Sequence_moved_c impl_Sequence_moved_tab) (sums impl_Sequence_moved_ls) 88 Go.Proofs.Tryz.f88 (encL impl_Sequence_moved_s.a v)).run = (impl_Sequence_moved_s.gen v).bind fun y => some (impl_Sequence_moved_s.out y) := by
  rintro ⟨v, ⟨p, ⟨letter, _⟩⟩⟩
  show _ = (impl_Sequence_moved v p letter).bind fun y : (List ((List UInt8) × ((List UInt8) × Unit))) => some (impl_Sequence_moved_s.out y)
  simp only [impl_Sequence_moved, kb_ite, kb_some, kb_none, kb_bind, kb_alt]
  kernel_rfl
theorem impl_Sequence_moved_is : FnIs Go.Proofs.Tryz.prog 88 (modeOf []) (phi [impl_Sequence_moved_s]) := spec_is (c := impl_Sequence_moved_c) seatOK impl_Sequence_moved_t Go.Proofs.Tryz.func88 rfl (code := impl_Sequence_moved_code) rfl rfl impl_Sequence_moved_rs impl_Sequence_moved_e
noncomputable def impl_Sequence_middle_l0_s : LSum := ⟨0, ⟨[(2, .val (.ptr (.pair (.str) (.pair (.str) (.unit)))) (.own .fr)), (0, .val (.ptr (.arr 3 (.pair (.str) (.pair (.str) (.unit))))) (.own .fr)), (0, .val (.ptr (.pair (.str) (.pair (.str) (.unit)))) (.own .fr)), (1, .val (.mp (.arr 3 (.pair (.str) (.pair (.str) (.unit)))) (.int .i64)) (.own .fr)), (0, .val (.str) .fr)], 77⟩, (.ret, ⟨[(4, .val (.ptr (.pair (.str) (.pair (.str) (.unit)))) (.own .fr)), (0, .val (.int .i64) .fr)], 79⟩), [], impl_Sequence_middle_l0⟩
noncomputable def impl_Sequence_middle_s : Spec := ⟨[.v (.pair (.str) (.pair (.str) (.unit))) .fr, .v (.arr 3 (.pair (.str) (.pair (.str) (.unit)))) .fr], ((List UInt8) × ((List UInt8) × Unit)) × Int, fun v => impl_Sequence_middle v.1 v.2.1, fun r => ([.v (.pair (.str) (.pair (.str) (.unit))) .fr r.1, .v (.int .i64) .fr r.2], [])⟩
noncomputable def impl_Sequence_middle_ls : List LSum := [impl_Sequence_middle_l0_s]
noncomputable def impl_Sequence_middle_tab : List Row := [⟨84, [], [impl_three_twice_s]⟩, ⟨85, [], [impl_short_s]⟩, ⟨86, [], [impl_sequence_s]⟩, ⟨87, [], [impl_three_vote_s]⟩, ⟨88, [], [impl_Sequence_moved_s]⟩]
theorem impl_Sequence_middle_t : ∀ r, r ∈ impl_Sequence_middle_tab → RowIs (drI := drZ) Go.Proofs.Tryz.prog r := tab_cons (drI := drZ) ((weak_is impl_three_twice_is)) (tab_cons (drI := drZ) ((weak_is impl_short_is)) (tab_cons (drI := drZ) (impl_sequence_is) (tab_cons (drI := drZ) ((weak_is impl_three_vote_is)) (tab_cons (drI := drZ) ((weak_is impl_Sequence_moved_is)) (tab_nil (drI := drZ))))))
theorem impl_Sequence_middle_l0_r : RoundIs (mkCtx Go.K.Link.seat impl_Sequence_middle_c impl_Sequence_middle_tab) (sums impl_Sequence_middle_ls) 0 (bodyAt (loopsOf 0 impl_Sequence_middle_code) 0) impl_Sequence_middle_l0_s := by
  rintro ⟨v, ⟨p, ⟨t4, ⟨seen, ⟨word', _⟩⟩⟩⟩⟩
  show _ = (impl_Sequence_middle_l0 (v, (p, (t4, (seen, (word', ())))))).bind fun r : (Ctl ((((List UInt8) × ((List UInt8) × Unit))) × (List ((List UInt8) × ((List UInt8) × Unit))) × (((List UInt8) × ((List UInt8) × Unit))) × (List ((List ((List UInt8) × ((List UInt8) × Unit))) × Int)) × (List UInt8) × Unit) (((((List UInt8) × ((List UInt8) × Unit))) × Int × Unit))) => some (ctlVal impl_Sequence_middle_l0_s r)
  simp only [impl_Sequence_middle_l0, kb_ite, kb_some, kb_none, kb_bind, kb_alt]
  kernel_rfl
theorem impl_Sequence_middle_rs : RoundsOK (mkCtx Go.K.Link.seat impl_Sequence_middle_c impl_Sequence_middle_tab) (sums impl_Sequence_middle_ls) (loopsOf 0 impl_Sequence_middle_code) impl_Sequence_middle_ls := ⟨⟨rfl, rfl, impl_Sequence_middle_l0_r⟩, trivial⟩
theorem impl_Sequence_middle_e : ∀ v, (evFn (mkCtx Go.K.Link.seat impl_Sequence_middle_c impl_Sequence_middle_tab) (sums impl_Sequence_middle_ls) 65 Go.Proofs.Tryz.f65 (encL impl_Sequence_middle_s.a v)).run = (impl_Sequence_middle_s.gen v).bind fun y => some (impl_Sequence_middle_s.out y) := by
  rintro ⟨v, ⟨p, _⟩⟩
  show _ = (impl_Sequence_middle v p).bind fun y : ((List UInt8) × ((List UInt8) × Unit)) × Int => some (impl_Sequence_middle_s.out y)
  simp only [impl_Sequence_middle, kb_ite, kb_some, kb_none, kb_bind, kb_alt]
  kernel_rfl
theorem impl_Sequence_middle_is : FnIs (drI := drZ) Go.Proofs.Tryz.prog 65 (modeOf []) (phi [impl_Sequence_middle_s]) := spec_is (drI := drZ) (c := impl_Sequence_middle_c) seatOK impl_Sequence_middle_t Go.Proofs.Tryz.func65 rfl (code := impl_Sequence_middle_code) rfl rfl impl_Sequence_middle_rs impl_Sequence_middle_e
noncomputable def impl_Sequence_branchPoints_l2_s : LSum := ⟨4, ⟨[(1, .val (.ptr (.pair (.str) (.pair (.str) (.unit)))) (.own .fr)), (2, .val (.sl 28 (.pair (.str) (.pair (.str) (.unit)))) (.own .fr)), (0, .val (.sl 28 (.pair (.str) (.pair (.str) (.unit)))) (.own .fr)), (1, .val (.ptr (.pair (.str) (.pair (.str) (.unit)))) (.own .fr)), (1, .val (.ptr (.pair (.str) (.pair (.str) (.unit)))) (.own .fr)), (6, .sref 4 []), (0, .val (.int .i64) .fr), (0, .val (.int .i64) .fr), (4, .sref 4 []), (1, .win 4 []), (0, .val (.int .i64) .fr), (0, .val (.int .i64) .fr), (4, .sref 4 []), (1, .win 4 []), (0, .val (.int .i64) .fr), (0, .val (.int .i64) .fr)], 39⟩, (.ret, ⟨[(2, .val (.sl 28 (.pair (.str) (.pair (.str) (.unit)))) (.own .fr)), (0, .val (.int .i64) .fr)], 72⟩), [(.exit 4, ⟨[(1, .val (.ptr (.pair (.str) (.pair (.str) (.unit)))) (.own .fr)), (2, .val (.sl 28 (.pair (.str) (.pair (.str) (.unit)))) (.own .fr)), (0, .val (.sl 28 (.pair (.str) (.pair (.str) (.unit)))) (.own .fr)), (1, .val (.ptr (.pair (.str) (.pair (.str) (.unit)))) (.own .fr)), (8, .sref 4 []), (0, .val (.int .i64) .fr), (0, .val (.int .i64) .fr), (4, .sref 4 []), (1, .win 4 []), (0, .val (.int .i64) .fr), (0, .val (.int .i64) .fr)], 48⟩)], impl_Sequence_branchPoints_l2⟩
noncomputable def impl_Sequence_branchPoints_l1_s : LSum := ⟨2, ⟨[(1, .val (.ptr (.pair (.str) (.pair (.str) (.unit)))) (.own .fr)), (2, .val (.sl 28 (.pair (.str) (.pair (.str) (.unit)))) (.own .fr)), (0, .val (.sl 28 (.pair (.str) (.pair (.str) (.unit)))) (.own .fr)), (1, .val (.ptr (.pair (.str) (.pair (.str) (.unit)))) (.own .fr)), (8, .sref 4 []), (0, .val (.int .i64) .fr), (0, .val (.int .i64) .fr), (4, .sref 4 []), (1, .win 4 []), (0, .val (.int .i64) .fr), (0, .val (.int .i64) .fr)], 48⟩, (.ret, ⟨[(2, .val (.sl 28 (.pair (.str) (.pair (.str) (.unit)))) (.own .fr)), (0, .val (.int .i64) .fr)], 72⟩), [(.exit 2, ⟨[(1, .val (.ptr (.pair (.str) (.pair (.str) (.unit)))) (.own .fr)), (2, .val (.sl 28 (.pair (.str) (.pair (.str) (.unit)))) (.own .fr)), (0, .val (.sl 28 (.pair (.str) (.pair (.str) (.unit)))) (.own .fr)), (10, .sref 4 []), (0, .val (.int .i64) .fr), (0, .val (.int .i64) .fr)], 57⟩)], impl_Sequence_branchPoints_l1⟩
noncomputable def impl_Sequence_branchPoints_l0_s : LSum := ⟨0, ⟨[(1, .val (.ptr (.pair (.str) (.pair (.str) (.unit)))) (.own .fr)), (2, .val (.sl 28 (.pair (.str) (.pair (.str) (.unit)))) (.own .fr)), (0, .val (.sl 28 (.pair (.str) (.pair (.str) (.unit)))) (.own .fr)), (10, .sref 4 []), (0, .val (.int .i64) .fr), (0, .val (.int .i64) .fr)], 57⟩, (.ret, ⟨[(2, .val (.sl 28 (.pair (.str) (.pair (.str) (.unit)))) (.own .fr)), (0, .val (.int .i64) .fr)], 72⟩), [(.exit 0, ⟨[(5, .val (.sl 28 (.pair (.str) (.pair (.str) (.unit)))) (.own .fr))], 70⟩)], impl_Sequence_branchPoints_l0⟩
noncomputable def impl_Sequence_branchPoints_f1_code : Code := (Go.Proofs.Tryz.f80.body).getD .skip
def impl_Sequence_branchPoints_f1_c : Cfg := ⟨80, [], [], [], [], []⟩
noncomputable def impl_Sequence_text_code : Code := (Go.Proofs.Tryz.f82.body).getD .skip
def impl_Sequence_text_c : Cfg := ⟨82, [], [], [], [], []⟩
noncomputable def impl_Sequence_text_s : Spec := ⟨[.v (.pair (.str) (.pair (.str) (.unit))) .fr], (List UInt8), fun v => impl_Sequence_text v.1, fun r => ([.v (.str) .fr r], [])⟩
noncomputable def impl_Sequence_text_ls : List LSum := []
noncomputable def impl_Sequence_text_tab : List Row := []
theorem impl_Sequence_text_t : ∀ r, r ∈ impl_Sequence_text_tab → RowIs Go.Proofs.Tryz.prog r := tab_nil
theorem impl_Sequence_text_rs : RoundsOK (mkCtx Go.K.Link.seat impl_Sequence_text_c impl_Sequence_text_tab) (sums impl_Sequence_text_ls) (loopsOf 0 impl_Sequence_text_code) impl_Sequence_text_ls := trivial
theorem impl_Sequence_text_e : ∀ v, (evFn (mkCtx Go.K.Link.seat impl_Sequence_text_c impl_Sequence_text_tab) (sums impl_Sequence_text_ls) 82 Go.Proofs.Tryz.f82 (encL impl_Sequence_text_s.a v)).run = (impl_Sequence_text_s.gen v).bind fun y => some (impl_Sequence_text_s.out y) := by
  rintro ⟨s, _⟩
  show _ = (impl_Sequence_text s).bind fun y : (List UInt8) => some (impl_Sequence_text_s.out y)
  simp only [impl_Sequence_text, kb_ite, kb_some, kb_none, kb_bind, kb_alt]
  kernel_rfl
theorem impl_Sequence_text_is : FnIs Go.Proofs.Tryz.prog 82 (modeOf []) (phi [impl_Sequence_text_s]) := spec_is (c := impl_Sequence_text_c) seatOK impl_Sequence_text_t Go.Proofs.Tryz.func82 rfl (code := impl_Sequence_text_code) rfl rfl impl_Sequence_text_rs impl_Sequence_text_e
noncomputable def strings_Compare_s : Spec := ⟨[.v (.str) .fr, .v (.str) .fr], Int, fun v => strings_Compare v.1 v.2.1, fun r => ([.v (.int .i64) .fr r], [])⟩
theorem strings_Compare_is : FnIs Go.Proofs.Tryz.prog 81 (modeOf []) (phi [strings_Compare_s]) := cmp_is Go.Proofs.Tryz.cmpL ⟨_, Go.Proofs.Tryz.func81, rfl, rfl⟩
noncomputable def impl_Sequence_branchPoints_f1_s : Spec := ⟨[.v (.pair (.str) (.pair (.str) (.unit))) .fr, .v (.pair (.str) (.pair (.str) (.unit))) .fr], Int, fun v => impl_Sequence_branchPoints_f1 v.1 v.2.1, fun r => ([.v (.int .i64) .fr r], [])⟩
noncomputable def impl_Sequence_branchPoints_f1_ls : List LSum := []
noncomputable def impl_Sequence_branchPoints_f1_tab : List Row := [⟨81, [], [strings_Compare_s]⟩, ⟨82, [], [impl_Sequence_text_s]⟩]
theorem impl_Sequence_branchPoints_f1_t : ∀ r, r ∈ impl_Sequence_branchPoints_f1_tab → RowIs Go.Proofs.Tryz.prog r := tab_cons (strings_Compare_is) (tab_cons (impl_Sequence_text_is) (tab_nil))
theorem impl_Sequence_branchPoints_f1_rs : RoundsOK (mkCtx Go.K.Link.seat impl_Sequence_branchPoints_f1_c impl_Sequence_branchPoints_f1_tab) (sums impl_Sequence_branchPoints_f1_ls) (loopsOf 0 impl_Sequence_branchPoints_f1_code) impl_Sequence_branchPoints_f1_ls := trivial
theorem impl_Sequence_branchPoints_f1_e : ∀ v, (evFn (mkCtx Go.K.Link.seat impl_Sequence_branchPoints_f1_c impl_Sequence_branchPoints_f1_tab) (sums impl_Sequence_branchPoints_f1_ls) 80 Go.Proofs.Tryz.f80 (encL impl_Sequence_branchPoints_f1_s.a v)).run = (impl_Sequence_branchPoints_f1_s.gen v).bind fun y => some (impl_Sequence_branchPoints_f1_s.out y) := by
  rintro ⟨s, ⟨t, _⟩⟩
  show _ = (impl_Sequence_branchPoints_f1 s t).bind fun y : Int => some (impl_Sequence_branchPoints_f1_s.out y)
  simp only [impl_Sequence_branchPoints_f1, kb_ite, kb_some, kb_none, kb_bind, kb_alt]
  kernel_rfl
theorem impl_Sequence_branchPoints_f1_is : FnIs Go.Proofs.Tryz.prog 80 (modeOf []) (phi [impl_Sequence_branchPoints_f1_s]) := spec_is (c := impl_Sequence_branchPoints_f1_c) seatOK impl_Sequence_branchPoints_f1_t Go.Proofs.Tryz.func80 rfl (code := impl_Sequence_branchPoints_f1_code) rfl rfl impl_Sequence_branchPoints_f1_rs impl_Sequence_branchPoints_f1_e
noncomputable def slices_SortFunc__impl_Sequence_impl_Sequence_s : Spec := ⟨[.v (.sl 28 (.pair (.str) (.pair (.str) (.unit)))) (.own .fr), .fn 80 [] []], List ((List UInt8) × ((List UInt8) × Unit)), fun v => slices_SortFunc__impl_Sequence_impl_Sequence v.1, fun r => ([], [.v (.sl 28 (.pair (.str) (.pair (.str) (.unit)))) (.own .fr) r])⟩
theorem slices_SortFunc__impl_Sequence_impl_Sequence_is : FnIs Go.Proofs.Tryz.prog 79 (modeOf [.mut]) (phi [slices_SortFunc__impl_Sequence_impl_Sequence_s]) := sortFunc_is (cs := []) (cf := fun c x y => impl_Sequence_branchPoints_f1 x y ) Go.Proofs.Tryz.sortL79 ⟨_, Go.Proofs.Tryz.func79, rfl, rfl⟩ (T := 28) (e := (.pair (.str) (.pair (.str) (.unit)))) rfl rfl Go.Proofs.Tryz.isAgg28 Go.Proofs.Tryz.sizeOf28 impl_Sequence_branchPoints_f1_is (fun c x y r h => by
  have e : (phi [impl_Sequence_branchPoints_f1_s] (.v (.pair (.str) (.pair (.str) (.unit))) .fr x :: .v (.pair (.str) (.pair (.str) (.unit))) .fr y :: encL [] c)).run = (impl_Sequence_branchPoints_f1 x y ).bind fun r => some ([.v (.int .i64) .fr r], []) := by kernel_rfl
  rw [e]
  show (impl_Sequence_branchPoints_f1 x y ).bind _ = _
  rw [show impl_Sequence_branchPoints_f1 x y  = some r from h]
  rfl)
noncomputable def slices_Compact__impl_Sequence_impl_Sequence_code : Code := (Go.Proofs.Tryz.f83.body).getD .skip
def slices_Compact__impl_Sequence_impl_Sequence_c : Cfg := ⟨83, [.own], [[0, 3, 9, 57, 59, 60], [0, 9, 57, 59], [0, 2, 9, 57, 59, 60], [], [], [], [0, 3, 4, 5, 9, 26, 28, 60], [0, 3, 9, 60], [0, 2, 9, 57, 59, 60]], [], [], []⟩
noncomputable def slices_Compact__impl_Sequence_impl_Sequence_l1_s : LSum := ⟨2, ⟨[(0, .val (.sl 28 (.pair (.str) (.pair (.str) (.unit)))) (.own .fr)), (2, .val (.int .i64) .fr), (0, .win 0 []), (0, .val (.int .i64) .fr), (20, .sref 0 []), (1, .win 0 [])], 32⟩, (.exit 2, ⟨[(0, .val (.sl 28 (.pair (.str) (.pair (.str) (.unit)))) (.own .fr)), (2, .val (.int .i64) .fr)], 57⟩), [], slices_Compact__impl_Sequence_impl_Sequence_l1⟩
noncomputable def slices_Compact__impl_Sequence_impl_Sequence_l0_s : LSum := ⟨0, ⟨[(0, .val (.sl 28 (.pair (.str) (.pair (.str) (.unit)))) (.own .fr)), (2, .val (.int .i64) .fr)], 57⟩, (.ret, ⟨[(0, .val (.sl 28 (.pair (.str) (.pair (.str) (.unit)))) (.own .fr)), (1, .win 0 []), (54, .sref 0 []), (1, .win 0 [])], 1⟩), [(.exit 0, ⟨[(0, .val (.sl 28 (.pair (.str) (.pair (.str) (.unit)))) (.own .fr))], 60⟩)], slices_Compact__impl_Sequence_impl_Sequence_l0⟩
noncomputable def slices_Compact__impl_Sequence_impl_Sequence_s : Spec := ⟨[.v (.sl 28 (.pair (.str) (.pair (.str) (.unit)))) (.own .fr)], (List ((List UInt8) × ((List UInt8) × Unit))), fun v => slices_Compact__impl_Sequence_impl_Sequence v.1, fun r => ([.v (.sl 28 (.pair (.str) (.pair (.str) (.unit)))) (.own .fr) r], [])⟩
noncomputable def slices_Compact__impl_Sequence_impl_Sequence_ls : List LSum := [slices_Compact__impl_Sequence_impl_Sequence_l0_s, slices_Compact__impl_Sequence_impl_Sequence_l1_s]
noncomputable def slices_Compact__impl_Sequence_impl_Sequence_tab : List Row := []
theorem slices_Compact__impl_Sequence_impl_Sequence_t : ∀ r, r ∈ slices_Compact__impl_Sequence_impl_Sequence_tab → RowIs Go.Proofs.Tryz.prog r := tab_nil
theorem slices_Compact__impl_Sequence_impl_Sequence_l0_r : RoundIs (mkCtx Go.K.Link.seat slices_Compact__impl_Sequence_impl_Sequence_c slices_Compact__impl_Sequence_impl_Sequence_tab) (sums slices_Compact__impl_Sequence_impl_Sequence_ls) 0 (bodyAt (loopsOf 0 slices_Compact__impl_Sequence_impl_Sequence_code) 0) slices_Compact__impl_Sequence_impl_Sequence_l0_s := by
  rintro ⟨s, ⟨k, _⟩⟩
  show _ = (slices_Compact__impl_Sequence_impl_Sequence_l0 (s, (k, ()))).bind fun r : (Ctl ((List ((List UInt8) × ((List UInt8) × Unit))) × Int × Unit) (((List ((List UInt8) × ((List UInt8) × Unit))) × Nat × Nat × Nat × Nat × Unit) ⊕ ((List ((List UInt8) × ((List UInt8) × Unit))) × Unit))) => some (ctlVal slices_Compact__impl_Sequence_impl_Sequence_l0_s r)
  simp only [slices_Compact__impl_Sequence_impl_Sequence_l0, kb_ite, kb_some, kb_none, kb_bind, kb_alt]
  kernel_rfl
theorem slices_Compact__impl_Sequence_impl_Sequence_l1_r : RoundIs (mkCtx Go.K.Link.seat slices_Compact__impl_Sequence_impl_Sequence_c slices_Compact__impl_Sequence_impl_Sequence_tab) (sums slices_Compact__impl_Sequence_impl_Sequence_ls) 2 (bodyAt (loopsOf 0 slices_Compact__impl_Sequence_impl_Sequence_code) 1) slices_Compact__impl_Sequence_impl_Sequence_l1_s := by
  rintro ⟨s, ⟨k, ⟨s2_0, s2_1, ⟨k2, ⟨t28_0, t28_1, _⟩⟩⟩⟩⟩
  show _ = (slices_Compact__impl_Sequence_impl_Sequence_l1 (s, (k, (s2_0, s2_1, (k2, (t28_0, t28_1, ())))))).bind fun r : (Ctl ((List ((List UInt8) × ((List UInt8) × Unit))) × Int × Nat × Nat × Int × Nat × Nat × Unit) (((List ((List UInt8) × ((List UInt8) × Unit))) × Int × Unit))) => some (ctlVal slices_Compact__impl_Sequence_impl_Sequence_l1_s r)
  simp only [slices_Compact__impl_Sequence_impl_Sequence_l1, kb_ite, kb_some, kb_none, kb_bind, kb_alt]
  kernel_rfl
theorem slices_Compact__impl_Sequence_impl_Sequence_rs : RoundsOK (mkCtx Go.K.Link.seat slices_Compact__impl_Sequence_impl_Sequence_c slices_Compact__impl_Sequence_impl_Sequence_tab) (sums slices_Compact__impl_Sequence_impl_Sequence_ls) (loopsOf 0 slices_Compact__impl_Sequence_impl_Sequence_code) slices_Compact__impl_Sequence_impl_Sequence_ls := ⟨⟨rfl, rfl, slices_Compact__impl_Sequence_impl_Sequence_l0_r⟩, ⟨⟨rfl, rfl, slices_Compact__impl_Sequence_impl_Sequence_l1_r⟩, trivial⟩⟩
theorem slices_Compact__impl_Sequence_impl_Sequence_e : ∀ v, (evFn (mkCtx Go.K.Link.seat slices_Compact__impl_Sequence_impl_Sequence_c slices_Compact__impl_Sequence_impl_Sequence_tab) (sums slices_Compact__impl_Sequence_impl_Sequence_ls) 83 Go.Proofs.Tryz.f83 (encL slices_Compact__impl_Sequence_impl_Sequence_s.a v)).run = (slices_Compact__impl_Sequence_impl_Sequence_s.gen v).bind fun y => some (slices_Compact__impl_Sequence_impl_Sequence_s.out y) := by
  rintro ⟨s, _⟩
  show _ = (slices_Compact__impl_Sequence_impl_Sequence s).bind fun y : (List ((List UInt8) × ((List UInt8) × Unit))) => some (slices_Compact__impl_Sequence_impl_Sequence_s.out y)
  simp only [slices_Compact__impl_Sequence_impl_Sequence, kb_ite, kb_some, kb_none, kb_bind, kb_alt]
  kernel_rfl
theorem slices_Compact__impl_Sequence_impl_Sequence_is : FnIs Go.Proofs.Tryz.prog 83 (modeOf [.own]) (phi [slices_Compact__impl_Sequence_impl_Sequence_s]) := spec_is (c := slices_Compact__impl_Sequence_impl_Sequence_c) seatOK slices_Compact__impl_Sequence_impl_Sequence_t Go.Proofs.Tryz.func83 rfl (code := slices_Compact__impl_Sequence_impl_Sequence_code) rfl rfl slices_Compact__impl_Sequence_impl_Sequence_rs slices_Compact__impl_Sequence_impl_Sequence_e
noncomputable def impl_Sequence_branchPoints_s : Spec := ⟨[.v (.pair (.str) (.pair (.str) (.unit))) .fr], (List ((List UInt8) × ((List UInt8) × Unit))) × Int, fun v => impl_Sequence_branchPoints v.1, fun r => ([.v (.sl 28 (.pair (.str) (.pair (.str) (.unit)))) (.own .fr) r.1, .v (.int .i64) .fr r.2], [])⟩
noncomputable def impl_Sequence_branchPoints_ls : List LSum := [impl_Sequence_branchPoints_l0_s, impl_Sequence_branchPoints_l1_s, impl_Sequence_branchPoints_l2_s]
noncomputable def impl_Sequence_branchPoints_tab : List Row := [⟨39, [], [impl_Sequence_orbitPoints_s]⟩, ⟨65, [], [impl_Sequence_middle_s]⟩, ⟨79, [.mut], [slices_SortFunc__impl_Sequence_impl_Sequence_s]⟩, ⟨83, [.own], [slices_Compact__impl_Sequence_impl_Sequence_s]⟩]
theorem impl_Sequence_branchPoints_t : ∀ r, r ∈ impl_Sequence_branchPoints_tab → RowIs (drI := drZ) Go.Proofs.Tryz.prog r := tab_cons (drI := drZ) ((weak_is impl_Sequence_orbitPoints_is)) (tab_cons (drI := drZ) (impl_Sequence_middle_is) (tab_cons (drI := drZ) ((weak_is slices_SortFunc__impl_Sequence_impl_Sequence_is)) (tab_cons (drI := drZ) ((weak_is slices_Compact__impl_Sequence_impl_Sequence_is)) (tab_nil (drI := drZ)))))
theorem impl_Sequence_branchPoints_l0_r : RoundIs (mkCtx Go.K.Link.seat impl_Sequence_branchPoints_c impl_Sequence_branchPoints_tab) (sums impl_Sequence_branchPoints_ls) 0 (bodyAt (loopsOf 0 impl_Sequence_branchPoints_code) 0) impl_Sequence_branchPoints_l0_s := by
  rintro ⟨v, ⟨points, ⟨out, ⟨t17, ⟨t18, _⟩⟩⟩⟩⟩
  show _ = (impl_Sequence_branchPoints_l0 (v, (points, (out, (t17, (t18, ())))))).bind fun r : (Ctl ((((List UInt8) × ((List UInt8) × Unit))) × (List ((List UInt8) × ((List UInt8) × Unit))) × (List ((List UInt8) × ((List UInt8) × Unit))) × Int × Int × Unit) (((List ((List UInt8) × ((List UInt8) × Unit))) × Int × Unit) ⊕ ((List ((List UInt8) × ((List UInt8) × Unit))) × Unit))) => some (ctlVal impl_Sequence_branchPoints_l0_s r)
  simp only [impl_Sequence_branchPoints_l0, kb_ite, kb_some, kb_none, kb_bind, kb_alt]
  kernel_rfl
theorem impl_Sequence_branchPoints_l1_r : RoundIs (mkCtx Go.K.Link.seat impl_Sequence_branchPoints_c impl_Sequence_branchPoints_tab) (sums impl_Sequence_branchPoints_ls) 2 (bodyAt (loopsOf 0 impl_Sequence_branchPoints_code) 1) impl_Sequence_branchPoints_l1_s := by
  rintro ⟨v, ⟨points, ⟨out, ⟨s, ⟨t17, ⟨t18, ⟨t25_0, t25_1, ⟨t26, ⟨t27, _⟩⟩⟩⟩⟩⟩⟩⟩⟩
  show _ = (impl_Sequence_branchPoints_l1 (v, (points, (out, (s, (t17, (t18, (t25_0, t25_1, (t26, (t27, ())))))))))).bind fun r : (Ctl ((((List UInt8) × ((List UInt8) × Unit))) × (List ((List UInt8) × ((List UInt8) × Unit))) × (List ((List UInt8) × ((List UInt8) × Unit))) × (((List UInt8) × ((List UInt8) × Unit))) × Int × Int × Nat × Nat × Int × Int × Unit) (((List ((List UInt8) × ((List UInt8) × Unit))) × Int × Unit) ⊕ ((((List UInt8) × ((List UInt8) × Unit))) × (List ((List UInt8) × ((List UInt8) × Unit))) × (List ((List UInt8) × ((List UInt8) × Unit))) × Int × Int × Unit))) => some (ctlVal impl_Sequence_branchPoints_l1_s r)
  simp only [impl_Sequence_branchPoints_l1, kb_ite, kb_some, kb_none, kb_bind, kb_alt]
  kernel_rfl
theorem impl_Sequence_branchPoints_l2_r : RoundIs (mkCtx Go.K.Link.seat impl_Sequence_branchPoints_c impl_Sequence_branchPoints_tab) (sums impl_Sequence_branchPoints_ls) 4 (bodyAt (loopsOf 0 impl_Sequence_branchPoints_code) 2) impl_Sequence_branchPoints_l2_s := by
  rintro ⟨v, ⟨points, ⟨out, ⟨s, ⟨t, ⟨t17, ⟨t18, ⟨t25_0, t25_1, ⟨t26, ⟨t27, ⟨t34_0, t34_1, ⟨t35, ⟨t36, _⟩⟩⟩⟩⟩⟩⟩⟩⟩⟩⟩⟩⟩
  show _ = (impl_Sequence_branchPoints_l2 (v, (points, (out, (s, (t, (t17, (t18, (t25_0, t25_1, (t26, (t27, (t34_0, t34_1, (t35, (t36, ())))))))))))))).bind fun r : (Ctl ((((List UInt8) × ((List UInt8) × Unit))) × (List ((List UInt8) × ((List UInt8) × Unit))) × (List ((List UInt8) × ((List UInt8) × Unit))) × (((List UInt8) × ((List UInt8) × Unit))) × (((List UInt8) × ((List UInt8) × Unit))) × Int × Int × Nat × Nat × Int × Int × Nat × Nat × Int × Int × Unit) (((List ((List UInt8) × ((List UInt8) × Unit))) × Int × Unit) ⊕ ((((List UInt8) × ((List UInt8) × Unit))) × (List ((List UInt8) × ((List UInt8) × Unit))) × (List ((List UInt8) × ((List UInt8) × Unit))) × (((List UInt8) × ((List UInt8) × Unit))) × Int × Int × Nat × Nat × Int × Int × Unit))) => some (ctlVal impl_Sequence_branchPoints_l2_s r)
  simp only [impl_Sequence_branchPoints_l2, kb_ite, kb_some, kb_none, kb_bind, kb_alt]
  kernel_rfl
theorem impl_Sequence_branchPoints_rs : RoundsOK (mkCtx Go.K.Link.seat impl_Sequence_branchPoints_c impl_Sequence_branchPoints_tab) (sums impl_Sequence_branchPoints_ls) (loopsOf 0 impl_Sequence_branchPoints_code) impl_Sequence_branchPoints_ls := ⟨⟨rfl, rfl, impl_Sequence_branchPoints_l0_r⟩, ⟨⟨rfl, rfl, impl_Sequence_branchPoints_l1_r⟩, ⟨⟨rfl, rfl, impl_Sequence_branchPoints_l2_r⟩, trivial⟩⟩⟩
theorem impl_Sequence_branchPoints_e : ∀ v, (evFn (mkCtx Go.K.Link.seat impl_Sequence_branchPoints_c impl_Sequence_branchPoints_tab) (sums impl_Sequence_branchPoints_ls) 61 Go.Proofs.Tryz.f61 (encL impl_Sequence_branchPoints_s.a v)).run = (impl_Sequence_branchPoints_s.gen v).bind fun y => some (impl_Sequence_branchPoints_s.out y) := by
  rintro ⟨v, _⟩
  show _ = (impl_Sequence_branchPoints v).bind fun y : (List ((List UInt8) × ((List UInt8) × Unit))) × Int => some (impl_Sequence_branchPoints_s.out y)
  simp only [impl_Sequence_branchPoints, kb_ite, kb_some, kb_none, kb_bind, kb_alt]
  kernel_rfl
theorem impl_Sequence_branchPoints_is : FnIs (drI := drZ) Go.Proofs.Tryz.prog 61 (modeOf []) (phi [impl_Sequence_branchPoints_s]) := spec_is (drI := drZ) (c := impl_Sequence_branchPoints_c) seatOK impl_Sequence_branchPoints_t Go.Proofs.Tryz.func61 rfl (code := impl_Sequence_branchPoints_code) rfl rfl impl_Sequence_branchPoints_rs impl_Sequence_branchPoints_e
noncomputable def impl_BranchPoints_s : Spec := ⟨[.v (.pair (.str) (.pair (.str) (.unit))) .fr], (List ((List UInt8) × ((List UInt8) × Unit))) × Int, fun v => impl_BranchPoints v.1, fun r => ([.v (.sl 28 (.pair (.str) (.pair (.str) (.unit)))) (.own .fr) r.1, .v (.int .i64) .fr r.2], [])⟩
noncomputable def impl_BranchPoints_ls : List LSum := []
noncomputable def impl_BranchPoints_tab : List Row := [⟨60, [], [impl_treeCode_s]⟩, ⟨61, [], [impl_Sequence_branchPoints_s]⟩]
theorem impl_BranchPoints_t : ∀ r, r ∈ impl_BranchPoints_tab → RowIs (drI := drZ) Go.Proofs.Tryz.prog r := tab_cons (drI := drZ) (impl_treeCode_is) (tab_cons (drI := drZ) (impl_Sequence_branchPoints_is) (tab_nil (drI := drZ)))
theorem impl_BranchPoints_rs : RoundsOK (mkCtx Go.K.Link.seat impl_BranchPoints_c impl_BranchPoints_tab) (sums impl_BranchPoints_ls) (loopsOf 0 impl_BranchPoints_code) impl_BranchPoints_ls := trivial
theorem impl_BranchPoints_e : ∀ v, (evFn (mkCtx Go.K.Link.seat impl_BranchPoints_c impl_BranchPoints_tab) (sums impl_BranchPoints_ls) 37 Go.Proofs.Tryz.f37 (encL impl_BranchPoints_s.a v)).run = (impl_BranchPoints_s.gen v).bind fun y => some (impl_BranchPoints_s.out y) := by
  rintro ⟨v, _⟩
  show _ = (impl_BranchPoints v).bind fun y : (List ((List UInt8) × ((List UInt8) × Unit))) × Int => some (impl_BranchPoints_s.out y)
  simp only [impl_BranchPoints, kb_ite, kb_some, kb_none, kb_bind, kb_alt]
  kernel_rfl
theorem impl_BranchPoints_is : FnIs (drI := drZ) Go.Proofs.Tryz.prog 37 (modeOf []) (phi [impl_BranchPoints_s]) := spec_is (drI := drZ) (c := impl_BranchPoints_c) seatOK impl_BranchPoints_t Go.Proofs.Tryz.func37 rfl (code := impl_BranchPoints_code) rfl rfl impl_BranchPoints_rs impl_BranchPoints_e
noncomputable def slices_Concat__impl_Sequence_impl_Sequence_code : Code := (Go.Proofs.Tryz.f38.body).getD .skip
def slices_Concat__impl_Sequence_impl_Sequence_c : Cfg := ⟨38, [], [[0, 3, 9, 10, 11, 33], [0, 3, 33], [2, 6, 24, 33, 35], [], [], [], [0, 6, 24, 25, 26, 27, 33], [6, 24, 33], [2, 6, 24, 33, 35]], [], [], []⟩
noncomputable def slices_Concat__impl_Sequence_impl_Sequence_l0_s : LSum := ⟨0, ⟨[(0, .val (.sl 25 (.sl 28 (.pair (.str) (.pair (.str) (.unit))))) .fr), (2, .val (.int .i64) .fr), (5, .val (.sl 25 (.sl 28 (.pair (.str) (.pair (.str) (.unit))))) .fr), (0, .val (.int .i64) .fr), (0, .val (.int .i64) .fr)], 24⟩, (.exit 0, ⟨[(0, .val (.sl 25 (.sl 28 (.pair (.str) (.pair (.str) (.unit))))) .fr), (2, .val (.int .i64) .fr)], 32⟩), [], slices_Concat__impl_Sequence_impl_Sequence_l0⟩
noncomputable def slices_Grow__impl_Sequence_impl_Sequence_s : Spec := ⟨[.v (.sl 28 (.pair (.str) (.pair (.str) (.unit)))) (.own .fr), .v (.int .i64) .fr], List ((List UInt8) × ((List UInt8) × Unit)), fun v => slices_Grow__impl_Sequence_impl_Sequence v.1 v.2.1, fun r => ([.v (.sl 28 (.pair (.str) (.pair (.str) (.unit)))) (.own .fr) r], [])⟩
theorem slices_Grow__impl_Sequence_impl_Sequence_is : FnIs Go.Proofs.Tryz.prog 62 (modeOf [.own]) (phi [slices_Grow__impl_Sequence_impl_Sequence_s]) := grow_is (TS := 25) (TE := 28) (e := (.pair (.str) (.pair (.str) (.unit)))) (q := .fr) (bytes := 32) ⟨Go.Proofs.Tryz.underlying25, by kernel_rfl, Go.Proofs.Tryz.isAgg25, Go.Proofs.Tryz.sizeOf25, Go.Proofs.Tryz.sizeOf28, by decide, by decide⟩ Go.Proofs.Tryz.underlying3 Go.Proofs.Tryz.func62 rfl rfl rfl rfl
noncomputable def slices_Concat__impl_Sequence_impl_Sequence_l1_s : LSum := ⟨2, ⟨[(0, .val (.sl 25 (.sl 28 (.pair (.str) (.pair (.str) (.unit))))) .fr), (5, .val (.sl 28 (.pair (.str) (.pair (.str) (.unit)))) (.own .fr)), (18, .val (.sl 25 (.sl 28 (.pair (.str) (.pair (.str) (.unit))))) .fr), (0, .val (.int .i64) .fr), (0, .val (.int .i64) .fr)], 8⟩, (.exit 2, ⟨[(6, .val (.sl 28 (.pair (.str) (.pair (.str) (.unit)))) (.own .fr))], 29⟩), [], slices_Concat__impl_Sequence_impl_Sequence_l1⟩
noncomputable def slices_Concat__impl_Sequence_impl_Sequence_s : Spec := ⟨[.v (.sl 25 (.sl 28 (.pair (.str) (.pair (.str) (.unit))))) .fr], (List ((List UInt8) × ((List UInt8) × Unit))), fun v => slices_Concat__impl_Sequence_impl_Sequence v.1, fun r => ([.v (.sl 28 (.pair (.str) (.pair (.str) (.unit)))) (.own .fr) r], [])⟩
noncomputable def slices_Concat__impl_Sequence_impl_Sequence_ls : List LSum := [slices_Concat__impl_Sequence_impl_Sequence_l0_s, slices_Concat__impl_Sequence_impl_Sequence_l1_s]
noncomputable def slices_Concat__impl_Sequence_impl_Sequence_tab : List Row := [⟨62, [.own], [slices_Grow__impl_Sequence_impl_Sequence_s]⟩]
theorem slices_Concat__impl_Sequence_impl_Sequence_t : ∀ r, r ∈ slices_Concat__impl_Sequence_impl_Sequence_tab → RowIs Go.Proofs.Tryz.prog r := tab_cons (slices_Grow__impl_Sequence_impl_Sequence_is) (tab_nil)
theorem slices_Concat__impl_Sequence_impl_Sequence_l0_r : RoundIs (mkCtx Go.K.Link.seat slices_Concat__impl_Sequence_impl_Sequence_c slices_Concat__impl_Sequence_impl_Sequence_tab) (sums slices_Concat__impl_Sequence_impl_Sequence_ls) 0 (bodyAt (loopsOf 0 slices_Concat__impl_Sequence_impl_Sequence_code) 0) slices_Concat__impl_Sequence_impl_Sequence_l0_s := by
  rintro ⟨slices, ⟨size, ⟨t9, ⟨t10, ⟨t11, _⟩⟩⟩⟩⟩
  show _ = (slices_Concat__impl_Sequence_impl_Sequence_l0 (slices, (size, (t9, (t10, (t11, ())))))).bind fun r : (Ctl ((List (List ((List UInt8) × ((List UInt8) × Unit)))) × Int × (List (List ((List UInt8) × ((List UInt8) × Unit)))) × Int × Int × Unit) (((List (List ((List UInt8) × ((List UInt8) × Unit)))) × Int × Unit))) => some (ctlVal slices_Concat__impl_Sequence_impl_Sequence_l0_s r)
  simp only [slices_Concat__impl_Sequence_impl_Sequence_l0, kb_ite, kb_some, kb_none, kb_bind, kb_alt]
  kernel_rfl
theorem slices_Concat__impl_Sequence_impl_Sequence_l1_r : RoundIs (mkCtx Go.K.Link.seat slices_Concat__impl_Sequence_impl_Sequence_c slices_Concat__impl_Sequence_impl_Sequence_tab) (sums slices_Concat__impl_Sequence_impl_Sequence_ls) 2 (bodyAt (loopsOf 0 slices_Concat__impl_Sequence_impl_Sequence_code) 1) slices_Concat__impl_Sequence_impl_Sequence_l1_s := by
  rintro ⟨slices, ⟨newslice, ⟨t25, ⟨t26, ⟨t27, _⟩⟩⟩⟩⟩
  show _ = (slices_Concat__impl_Sequence_impl_Sequence_l1 (slices, (newslice, (t25, (t26, (t27, ())))))).bind fun r : (Ctl ((List (List ((List UInt8) × ((List UInt8) × Unit)))) × (List ((List UInt8) × ((List UInt8) × Unit))) × (List (List ((List UInt8) × ((List UInt8) × Unit)))) × Int × Int × Unit) (((List ((List UInt8) × ((List UInt8) × Unit))) × Unit))) => some (ctlVal slices_Concat__impl_Sequence_impl_Sequence_l1_s r)
  simp only [slices_Concat__impl_Sequence_impl_Sequence_l1, kb_ite, kb_some, kb_none, kb_bind, kb_alt]
  kernel_rfl
theorem slices_Concat__impl_Sequence_impl_Sequence_rs : RoundsOK (mkCtx Go.K.Link.seat slices_Concat__impl_Sequence_impl_Sequence_c slices_Concat__impl_Sequence_impl_Sequence_tab) (sums slices_Concat__impl_Sequence_impl_Sequence_ls) (loopsOf 0 slices_Concat__impl_Sequence_impl_Sequence_code) slices_Concat__impl_Sequence_impl_Sequence_ls := ⟨⟨rfl, rfl, slices_Concat__impl_Sequence_impl_Sequence_l0_r⟩, ⟨⟨rfl, rfl, slices_Concat__impl_Sequence_impl_Sequence_l1_r⟩, trivial⟩⟩
theorem slices_Concat__impl_Sequence_impl_Sequence_e : ∀ v, (evFn (mkCtx Go.K.Link.seat slices_Concat__impl_Sequence_impl_Sequence_c slices_Concat__impl_Sequence_impl_Sequence_tab) (sums slices_Concat__impl_Sequence_impl_Sequence_ls) 38 Go.Proofs.Tryz.f38 (encL slices_Concat__impl_Sequence_impl_Sequence_s.a v)).run = (slices_Concat__impl_Sequence_impl_Sequence_s.gen v).bind fun y => some (slices_Concat__impl_Sequence_impl_Sequence_s.out y) := by
  rintro ⟨slices, _⟩
  show _ = (slices_Concat__impl_Sequence_impl_Sequence slices).bind fun y : (List ((List UInt8) × ((List UInt8) × Unit))) => some (slices_Concat__impl_Sequence_impl_Sequence_s.out y)
  simp only [slices_Concat__impl_Sequence_impl_Sequence, kb_ite, kb_some, kb_none, kb_bind, kb_alt]
  kernel_rfl
theorem slices_Concat__impl_Sequence_impl_Sequence_is : FnIs Go.Proofs.Tryz.prog 38 (modeOf []) (phi [slices_Concat__impl_Sequence_impl_Sequence_s]) := spec_is (c := slices_Concat__impl_Sequence_impl_Sequence_c) seatOK slices_Concat__impl_Sequence_impl_Sequence_t Go.Proofs.Tryz.func38 rfl (code := slices_Concat__impl_Sequence_impl_Sequence_code) rfl rfl slices_Concat__impl_Sequence_impl_Sequence_rs slices_Concat__impl_Sequence_impl_Sequence_e
noncomputable def impl_TreeVertices_s : Spec := ⟨[.v (.pair (.str) (.pair (.str) (.unit))) .fr], (List ((List UInt8) × ((List UInt8) × Unit))) × Int, fun v => impl_TreeVertices v.1, fun r => ([.v (.sl 28 (.pair (.str) (.pair (.str) (.unit)))) (.own .fr) r.1, .v (.int .i64) .fr r.2], [])⟩
noncomputable def impl_TreeVertices_ls : List LSum := []
noncomputable def impl_TreeVertices_tab : List Row := [⟨37, [], [impl_BranchPoints_s]⟩, ⟨38, [], [slices_Concat__impl_Sequence_impl_Sequence_s]⟩, ⟨39, [], [impl_Sequence_orbitPoints_s]⟩]
theorem impl_TreeVertices_t : ∀ r, r ∈ impl_TreeVertices_tab → RowIs (drI := drZ) Go.Proofs.Tryz.prog r := tab_cons (drI := drZ) (impl_BranchPoints_is) (tab_cons (drI := drZ) ((weak_is slices_Concat__impl_Sequence_impl_Sequence_is)) (tab_cons (drI := drZ) ((weak_is impl_Sequence_orbitPoints_is)) (tab_nil (drI := drZ))))
theorem impl_TreeVertices_rs : RoundsOK (mkCtx Go.K.Link.seat impl_TreeVertices_c impl_TreeVertices_tab) (sums impl_TreeVertices_ls) (loopsOf 0 impl_TreeVertices_code) impl_TreeVertices_ls := trivial
theorem impl_TreeVertices_e : ∀ v, (evFn (mkCtx Go.K.Link.seat impl_TreeVertices_c impl_TreeVertices_tab) (sums impl_TreeVertices_ls) 13 Go.Proofs.Tryz.f13 (encL impl_TreeVertices_s.a v)).run = (impl_TreeVertices_s.gen v).bind fun y => some (impl_TreeVertices_s.out y) := by
  rintro ⟨v, _⟩
  show _ = (impl_TreeVertices v).bind fun y : (List ((List UInt8) × ((List UInt8) × Unit))) × Int => some (impl_TreeVertices_s.out y)
  simp only [impl_TreeVertices, kb_ite, kb_some, kb_none, kb_bind, kb_alt]
  kernel_rfl
theorem impl_TreeVertices_is : FnIs (drI := drZ) Go.Proofs.Tryz.prog 13 (modeOf []) (phi [impl_TreeVertices_s]) := spec_is (drI := drZ) (c := impl_TreeVertices_c) seatOK impl_TreeVertices_t Go.Proofs.Tryz.func13 rfl (code := impl_TreeVertices_code) rfl rfl impl_TreeVertices_rs impl_TreeVertices_e
noncomputable def laws_eqSequenceS_code : Code := (Go.Proofs.Tryz.f14.body).getD .skip
def laws_eqSequenceS_c : Cfg := ⟨14, [], [[0, 1, 5], [], [4]], [], [], []⟩
noncomputable def laws_eqSequence_code : Code := (Go.Proofs.Tryz.f40.body).getD .skip
def laws_eqSequence_c : Cfg := ⟨40, [], [], [], [], []⟩
noncomputable def laws_eqSequence_s : Spec := ⟨[.v (.pair (.str) (.pair (.str) (.unit))) .fr, .v (.pair (.str) (.pair (.str) (.unit))) .fr], Bool, fun v => laws_eqSequence v.1 v.2.1, fun r => ([.v (.bool) .fr r], [])⟩
noncomputable def laws_eqSequence_ls : List LSum := []
noncomputable def laws_eqSequence_tab : List Row := []
theorem laws_eqSequence_t : ∀ r, r ∈ laws_eqSequence_tab → RowIs Go.Proofs.Tryz.prog r := tab_nil
theorem laws_eqSequence_rs : RoundsOK (mkCtx Go.K.Link.seat laws_eqSequence_c laws_eqSequence_tab) (sums laws_eqSequence_ls) (loopsOf 0 laws_eqSequence_code) laws_eqSequence_ls := trivial
theorem laws_eqSequence_e : ∀ v, (evFn (mkCtx Go.K.Link.seat laws_eqSequence_c laws_eqSequence_tab) (sums laws_eqSequence_ls) 40 Go.Proofs.Tryz.f40 (encL laws_eqSequence_s.a v)).run = (laws_eqSequence_s.gen v).bind fun y => some (laws_eqSequence_s.out y) := by
  rintro ⟨a, ⟨b, _⟩⟩
  show _ = (laws_eqSequence a b).bind fun y : Bool => some (laws_eqSequence_s.out y)
  simp only [laws_eqSequence, kb_ite, kb_some, kb_none, kb_bind, kb_alt]
  kernel_rfl
theorem laws_eqSequence_is : FnIs Go.Proofs.Tryz.prog 40 (modeOf []) (phi [laws_eqSequence_s]) := spec_is (c := laws_eqSequence_c) seatOK laws_eqSequence_t Go.Proofs.Tryz.func40 rfl (code := laws_eqSequence_code) rfl rfl laws_eqSequence_rs laws_eqSequence_e
noncomputable def laws_eqSequenceS_l0_s : LSum := ⟨0, ⟨[(0, .val (.sl 28 (.pair (.str) (.pair (.str) (.unit)))) .fr), (0, .val (.sl 28 (.pair (.str) (.pair (.str) (.unit)))) .fr), (3, .val (.int .i64) .fr)], 21⟩, (.ret, ⟨[(4, .val (.bool) .fr)], 22⟩), [(.exit 0, ⟨[], 27⟩)], laws_eqSequenceS_l0⟩
noncomputable def laws_eqSequenceS_s : Spec := ⟨[.v (.sl 28 (.pair (.str) (.pair (.str) (.unit)))) .fr, .v (.sl 28 (.pair (.str) (.pair (.str) (.unit)))) .fr], Bool, fun v => laws_eqSequenceS v.1 v.2.1, fun r => ([.v (.bool) .fr r], [])⟩
noncomputable def laws_eqSequenceS_ls : List LSum := [laws_eqSequenceS_l0_s]
noncomputable def laws_eqSequenceS_tab : List Row := [⟨40, [], [laws_eqSequence_s]⟩]
theorem laws_eqSequenceS_t : ∀ r, r ∈ laws_eqSequenceS_tab → RowIs Go.Proofs.Tryz.prog r := tab_cons (laws_eqSequence_is) (tab_nil)
theorem laws_eqSequenceS_l0_r : RoundIs (mkCtx Go.K.Link.seat laws_eqSequenceS_c laws_eqSequenceS_tab) (sums laws_eqSequenceS_ls) 0 (bodyAt (loopsOf 0 laws_eqSequenceS_code) 0) laws_eqSequenceS_l0_s := by
  rintro ⟨a, ⟨b, ⟨i, _⟩⟩⟩
  show _ = (laws_eqSequenceS_l0 (a, (b, (i, ())))).bind fun r : (Ctl ((List ((List UInt8) × ((List UInt8) × Unit))) × (List ((List UInt8) × ((List UInt8) × Unit))) × Int × Unit) ((Bool × Unit) ⊕ (Unit))) => some (ctlVal laws_eqSequenceS_l0_s r)
  simp only [laws_eqSequenceS_l0, kb_ite, kb_some, kb_none, kb_bind, kb_alt]
  kernel_rfl
theorem laws_eqSequenceS_rs : RoundsOK (mkCtx Go.K.Link.seat laws_eqSequenceS_c laws_eqSequenceS_tab) (sums laws_eqSequenceS_ls) (loopsOf 0 laws_eqSequenceS_code) laws_eqSequenceS_ls := ⟨⟨rfl, rfl, laws_eqSequenceS_l0_r⟩, trivial⟩
theorem laws_eqSequenceS_e : ∀ v, (evFn (mkCtx Go.K.Link.seat laws_eqSequenceS_c laws_eqSequenceS_tab) (sums laws_eqSequenceS_ls) 14 Go.Proofs.Tryz.f14 (encL laws_eqSequenceS_s.a v)).run = (laws_eqSequenceS_s.gen v).bind fun y => some (laws_eqSequenceS_s.out y) := by
  rintro ⟨a, ⟨b, _⟩⟩
  show _ = (laws_eqSequenceS a b).bind fun y : Bool => some (laws_eqSequenceS_s.out y)
  simp only [laws_eqSequenceS, kb_ite, kb_some, kb_none, kb_bind, kb_alt]
  kernel_rfl
theorem laws_eqSequenceS_is : FnIs Go.Proofs.Tryz.prog 14 (modeOf []) (phi [laws_eqSequenceS_s]) := spec_is (c := laws_eqSequenceS_c) seatOK laws_eqSequenceS_t Go.Proofs.Tryz.func14 rfl (code := laws_eqSequenceS_code) rfl rfl laws_eqSequenceS_rs laws_eqSequenceS_e
noncomputable def laws_markSequenceS_code : Code := (Go.Proofs.Tryz.f15.body).getD .skip
def laws_markSequenceS_c : Cfg := ⟨15, [.mut], [[0, 1, 5], [0, 1], [0, 4]], [], [], []⟩
noncomputable def laws_markText_code : Code := (Go.Proofs.Tryz.f41.body).getD .skip
def laws_markText_c : Cfg := ⟨41, [], [[0, 3], [3], [2]], [], [], []⟩
noncomputable def laws_markText_l0_s : LSum := ⟨0, ⟨[(0, .val (.int .i64) .fr), (2, .val (.str) .fr)], 16⟩, (.exit 0, ⟨[(3, .val (.str) .fr)], 16⟩), [], laws_markText_l0⟩
noncomputable def laws_markText_s : Spec := ⟨[.v (.int .i64) .fr], (List UInt8), fun v => laws_markText v.1, fun r => ([.v (.str) .fr r], [])⟩
noncomputable def laws_markText_ls : List LSum := [laws_markText_l0_s]
noncomputable def laws_markText_tab : List Row := []
theorem laws_markText_t : ∀ r, r ∈ laws_markText_tab → RowIs Go.Proofs.Tryz.prog r := tab_nil
theorem laws_markText_l0_r : RoundIs (mkCtx Go.K.Link.seat laws_markText_c laws_markText_tab) (sums laws_markText_ls) 0 (bodyAt (loopsOf 0 laws_markText_code) 0) laws_markText_l0_s := by
  rintro ⟨k, ⟨out, _⟩⟩
  show _ = (laws_markText_l0 (k, (out, ()))).bind fun r : (Ctl (Int × (List UInt8) × Unit) (((List UInt8) × Unit))) => some (ctlVal laws_markText_l0_s r)
  simp only [laws_markText_l0, kb_ite, kb_some, kb_none, kb_bind, kb_alt]
  kernel_rfl
theorem laws_markText_rs : RoundsOK (mkCtx Go.K.Link.seat laws_markText_c laws_markText_tab) (sums laws_markText_ls) (loopsOf 0 laws_markText_code) laws_markText_ls := ⟨⟨rfl, rfl, laws_markText_l0_r⟩, trivial⟩
theorem laws_markText_e : ∀ v, (evFn (mkCtx Go.K.Link.seat laws_markText_c laws_markText_tab) (sums laws_markText_ls) 41 Go.Proofs.Tryz.f41 (encL laws_markText_s.a v)).run = (laws_markText_s.gen v).bind fun y => some (laws_markText_s.out y) := by
  rintro ⟨k, _⟩
  show _ = (laws_markText k).bind fun y : (List UInt8) => some (laws_markText_s.out y)
  simp only [laws_markText, kb_ite, kb_some, kb_none, kb_bind, kb_alt]
  kernel_rfl
theorem laws_markText_is : FnIs Go.Proofs.Tryz.prog 41 (modeOf []) (phi [laws_markText_s]) := spec_is (c := laws_markText_c) seatOK laws_markText_t Go.Proofs.Tryz.func41 rfl (code := laws_markText_code) rfl rfl laws_markText_rs laws_markText_e
noncomputable def laws_markSequenceS_l0_s : LSum := ⟨0, ⟨[(0, .val (.sl 28 (.pair (.str) (.pair (.str) (.unit)))) (.own .fr)), (0, .val (.int .i64) .fr), (3, .val (.int .i64) .fr)], 23⟩, (.exit 0, ⟨[(0, .val (.sl 28 (.pair (.str) (.pair (.str) (.unit)))) (.own .fr)), (0, .val (.int .i64) .fr)], 27⟩), [], laws_markSequenceS_l0⟩
noncomputable def laws_markSequenceS_s : Spec := ⟨[.v (.sl 28 (.pair (.str) (.pair (.str) (.unit)))) (.own .fr), .v (.int .i64) .fr], Int × (List ((List UInt8) × ((List UInt8) × Unit))), fun v => laws_markSequenceS v.1 v.2.1, fun r => ([.v (.int .i64) .fr r.1], [.v (.sl 28 (.pair (.str) (.pair (.str) (.unit)))) (.own .fr) r.2])⟩
noncomputable def laws_markSequenceS_ls : List LSum := [laws_markSequenceS_l0_s]
noncomputable def laws_markSequenceS_tab : List Row := [⟨41, [], [laws_markText_s]⟩]
theorem laws_markSequenceS_t : ∀ r, r ∈ laws_markSequenceS_tab → RowIs Go.Proofs.Tryz.prog r := tab_cons (laws_markText_is) (tab_nil)
theorem laws_markSequenceS_l0_r : RoundIs (mkCtx Go.K.Link.seat laws_markSequenceS_c laws_markSequenceS_tab) (sums laws_markSequenceS_ls) 0 (bodyAt (loopsOf 0 laws_markSequenceS_code) 0) laws_markSequenceS_l0_s := by
  rintro ⟨a, ⟨k, ⟨i, _⟩⟩⟩
  show _ = (laws_markSequenceS_l0 (a, (k, (i, ())))).bind fun r : (Ctl ((List ((List UInt8) × ((List UInt8) × Unit))) × Int × Int × Unit) (((List ((List UInt8) × ((List UInt8) × Unit))) × Int × Unit))) => some (ctlVal laws_markSequenceS_l0_s r)
  simp only [laws_markSequenceS_l0, kb_ite, kb_some, kb_none, kb_bind, kb_alt]
  kernel_rfl
theorem laws_markSequenceS_rs : RoundsOK (mkCtx Go.K.Link.seat laws_markSequenceS_c laws_markSequenceS_tab) (sums laws_markSequenceS_ls) (loopsOf 0 laws_markSequenceS_code) laws_markSequenceS_ls := ⟨⟨rfl, rfl, laws_markSequenceS_l0_r⟩, trivial⟩
theorem laws_markSequenceS_e : ∀ v, (evFn (mkCtx Go.K.Link.seat laws_markSequenceS_c laws_markSequenceS_tab) (sums laws_markSequenceS_ls) 15 Go.Proofs.Tryz.f15 (encL laws_markSequenceS_s.a v)).run = (laws_markSequenceS_s.gen v).bind fun y => some (laws_markSequenceS_s.out y) := by
  rintro ⟨a, ⟨k, _⟩⟩
  show _ = (laws_markSequenceS a k).bind fun y : Int × (List ((List UInt8) × ((List UInt8) × Unit))) => some (laws_markSequenceS_s.out y)
  simp only [laws_markSequenceS, kb_ite, kb_some, kb_none, kb_bind, kb_alt]
  kernel_rfl
theorem laws_markSequenceS_is : FnIs Go.Proofs.Tryz.prog 15 (modeOf [.mut]) (phi [laws_markSequenceS_s]) := spec_is (c := laws_markSequenceS_c) seatOK laws_markSequenceS_t Go.Proofs.Tryz.func15 rfl (code := laws_markSequenceS_code) rfl rfl laws_markSequenceS_rs laws_markSequenceS_e
noncomputable def laws_heldSequenceS_code : Code := (Go.Proofs.Tryz.f16.body).getD .skip
def laws_heldSequenceS_c : Cfg := ⟨16, [], [[0, 1, 5], [1], [4]], [], [], []⟩
noncomputable def laws_heldSequenceS_l0_s : LSum := ⟨0, ⟨[(0, .val (.sl 28 (.pair (.str) (.pair (.str) (.unit)))) .fr), (0, .val (.int .i64) .fr), (3, .val (.int .i64) .fr)], 27⟩, (.ret, ⟨[(4, .val (.int .i64) .fr)], 28⟩), [(.exit 0, ⟨[(1, .val (.int .i64) .fr)], 31⟩)], laws_heldSequenceS_l0⟩
noncomputable def laws_heldSequenceS_s : Spec := ⟨[.v (.sl 28 (.pair (.str) (.pair (.str) (.unit)))) .fr, .v (.int .i64) .fr], Int, fun v => laws_heldSequenceS v.1 v.2.1, fun r => ([.v (.int .i64) .fr r], [])⟩
noncomputable def laws_heldSequenceS_ls : List LSum := [laws_heldSequenceS_l0_s]
noncomputable def laws_heldSequenceS_tab : List Row := [⟨41, [], [laws_markText_s]⟩]
theorem laws_heldSequenceS_t : ∀ r, r ∈ laws_heldSequenceS_tab → RowIs Go.Proofs.Tryz.prog r := tab_cons (laws_markText_is) (tab_nil)
theorem laws_heldSequenceS_l0_r : RoundIs (mkCtx Go.K.Link.seat laws_heldSequenceS_c laws_heldSequenceS_tab) (sums laws_heldSequenceS_ls) 0 (bodyAt (loopsOf 0 laws_heldSequenceS_code) 0) laws_heldSequenceS_l0_s := by
  rintro ⟨a, ⟨k, ⟨i, _⟩⟩⟩
  show _ = (laws_heldSequenceS_l0 (a, (k, (i, ())))).bind fun r : (Ctl ((List ((List UInt8) × ((List UInt8) × Unit))) × Int × Int × Unit) ((Int × Unit) ⊕ (Int × Unit))) => some (ctlVal laws_heldSequenceS_l0_s r)
  simp only [laws_heldSequenceS_l0, kb_ite, kb_some, kb_none, kb_bind, kb_alt]
  kernel_rfl
theorem laws_heldSequenceS_rs : RoundsOK (mkCtx Go.K.Link.seat laws_heldSequenceS_c laws_heldSequenceS_tab) (sums laws_heldSequenceS_ls) (loopsOf 0 laws_heldSequenceS_code) laws_heldSequenceS_ls := ⟨⟨rfl, rfl, laws_heldSequenceS_l0_r⟩, trivial⟩
theorem laws_heldSequenceS_e : ∀ v, (evFn (mkCtx Go.K.Link.seat laws_heldSequenceS_c laws_heldSequenceS_tab) (sums laws_heldSequenceS_ls) 16 Go.Proofs.Tryz.f16 (encL laws_heldSequenceS_s.a v)).run = (laws_heldSequenceS_s.gen v).bind fun y => some (laws_heldSequenceS_s.out y) := by
  rintro ⟨a, ⟨k, _⟩⟩
  show _ = (laws_heldSequenceS a k).bind fun y : Int => some (laws_heldSequenceS_s.out y)
  simp only [laws_heldSequenceS, kb_ite, kb_some, kb_none, kb_bind, kb_alt]
  kernel_rfl
theorem laws_heldSequenceS_is : FnIs Go.Proofs.Tryz.prog 16 (modeOf []) (phi [laws_heldSequenceS_s]) := spec_is (c := laws_heldSequenceS_c) seatOK laws_heldSequenceS_t Go.Proofs.Tryz.func16 rfl (code := laws_heldSequenceS_code) rfl rfl laws_heldSequenceS_rs laws_heldSequenceS_e
noncomputable def laws_FnExactTreeVertices_s : Spec := ⟨[.v (.pair (.str) (.pair (.str) (.unit))) .fr], Bool, fun v => laws_FnExactTreeVertices v.1, fun r => ([.v (.bool) .fr r], [])⟩
noncomputable def laws_FnExactTreeVertices_ls : List LSum := []
noncomputable def laws_FnExactTreeVertices_tab : List Row := [⟨10, [], [laws_szSequence_s]⟩, ⟨11, [], [spec_TreeVertices_s]⟩, ⟨12, [], [laws_toSequence_s]⟩, ⟨13, [], [impl_TreeVertices_s]⟩, ⟨14, [], [laws_eqSequenceS_s]⟩, ⟨15, [.mut], [laws_markSequenceS_s]⟩, ⟨16, [], [laws_heldSequenceS_s]⟩]
theorem laws_FnExactTreeVertices_t : ∀ r, r ∈ laws_FnExactTreeVertices_tab → RowIs (drI := drZ) Go.Proofs.Tryz.prog r := tab_cons (drI := drZ) ((weak_is laws_szSequence_is)) (tab_cons (drI := drZ) ((weak_is spec_TreeVertices_is)) (tab_cons (drI := drZ) ((weak_is laws_toSequence_is)) (tab_cons (drI := drZ) (impl_TreeVertices_is) (tab_cons (drI := drZ) ((weak_is laws_eqSequenceS_is)) (tab_cons (drI := drZ) ((weak_is laws_markSequenceS_is)) (tab_cons (drI := drZ) ((weak_is laws_heldSequenceS_is)) (tab_nil (drI := drZ))))))))
theorem laws_FnExactTreeVertices_rs : RoundsOK (mkCtx Go.K.Link.seat laws_FnExactTreeVertices_c laws_FnExactTreeVertices_tab) (sums laws_FnExactTreeVertices_ls) (loopsOf 0 laws_FnExactTreeVertices_code) laws_FnExactTreeVertices_ls := trivial
theorem laws_FnExactTreeVertices_e : ∀ v, (evFn (mkCtx Go.K.Link.seat laws_FnExactTreeVertices_c laws_FnExactTreeVertices_tab) (sums laws_FnExactTreeVertices_ls) 3 Go.Proofs.Tryz.f3 (encL laws_FnExactTreeVertices_s.a v)).run = (laws_FnExactTreeVertices_s.gen v).bind fun y => some (laws_FnExactTreeVertices_s.out y) := by
  rintro ⟨aV, _⟩
  show _ = (laws_FnExactTreeVertices aV).bind fun y : Bool => some (laws_FnExactTreeVertices_s.out y)
  simp only [laws_FnExactTreeVertices, kb_ite, kb_some, kb_none, kb_bind, kb_alt]
  kernel_rfl
theorem laws_FnExactTreeVertices_is : FnIs (drI := drZ) Go.Proofs.Tryz.prog 3 (modeOf []) (phi [laws_FnExactTreeVertices_s]) := spec_is (drI := drZ) (c := laws_FnExactTreeVertices_c) seatOK laws_FnExactTreeVertices_t Go.Proofs.Tryz.func3 rfl (code := laws_FnExactTreeVertices_code) rfl rfl laws_FnExactTreeVertices_rs laws_FnExactTreeVertices_e
end Go.K.Link
namespace Go.Proofs.YtnknjfjbihogoaaGreat
open Go.K Go.K.Link Go.RowKit
theorem Tryz.own : ownKnob Tryz.prog.godebug = none := by kernel_rfl
theorem Tryz.laidOut : laidOutB Tryz.prog = true := by kernel_rfl
end Go.Proofs.YtnknjfjbihogoaaGreat

