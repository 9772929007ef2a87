/- What each function of the program gives, as a plain function, with the proof that it gives it; no condition. -/
import Derived.Test.YtgeageanmhpfjaaGreatP1
import Derived.Test.YtgeageanmhpfjaaGreatS1
import Derived.Test.YtgeageanmhpfjaaGreatK3
import Derived.Test.YtgeageanmhpfjaaGreatRows
import Derived.Shelf.Lay
import Derived.Ground.SlsfProg
import Derived.Ground.NamesProg
set_option linter.all false
set_option maxRecDepth 100000
set_option maxHeartbeats 4000000
set_option linter.all false
namespace Go.Proofs
open Go.Shelf Go.RowKit
def Tryz.repL_ren : Go.Shelf.Ren := ⟨fun | 105 => 202 | 212 => 218 | 99 => 219 | 165 => 220 | 166 => 221 | 170 => 222 | 169 => 223 | 263 => 235 | 264 => 236 | 206 => 237 | 240 => 238 | 241 => 239 | 276 => 244 | 277 => 245 | n => n, fun | 9 => 9 | 3 => 3 | 4 => 4 | 20 => 20 | 0 => 0 | 46 => 146 | 109 => 190 | 5 => 5 | 72 => 194 | 76 => 198 | 51 => 188 | 146 => 210 | 53 => 113 | 148 => 212 | 70 => 192 | 37 => 51 | 75 => 197 | 127 => 214 | 164 => 220 | 80 => 201 | n => n, fun | n => n⟩
theorem Tryz.repL : Go.Proofs.Lays.n105 Tryz.prog Tryz.repL_ren := {
  mixed := by kernel_rfl
  f99 := Tryz.func219.trans (congrArg some (by kernel_rfl))
  f105 := Tryz.func202.trans (congrArg some (by kernel_rfl))
  f165 := Tryz.func220.trans (congrArg some (by kernel_rfl))
  f166 := Tryz.func221.trans (congrArg some (by kernel_rfl))
  f169 := Tryz.func223.trans (congrArg some (by kernel_rfl))
  f170 := Tryz.func222.trans (congrArg some (by kernel_rfl))
  f206 := Tryz.func237.trans (congrArg some (by kernel_rfl))
  f212 := Tryz.func218.trans (congrArg some (by kernel_rfl))
  f240 := Tryz.func238.trans (congrArg some (by kernel_rfl))
  f241 := Tryz.func239.trans (congrArg some (by kernel_rfl))
  f263 := Tryz.func235.trans (congrArg some (by kernel_rfl))
  f264 := Tryz.func236.trans (congrArg some (by kernel_rfl))
  f276 := Tryz.func244.trans (congrArg some (by kernel_rfl))
  f277 := Tryz.func245.trans (congrArg some (by kernel_rfl))
  t0 := Tryz.underlying0
  a0 := Tryz.isAgg0
  z0 := Tryz.sizeOf0
  v0 := Tryz.zeroValue0
  t3 := Tryz.underlying3
  a3 := Tryz.isAgg3
  z3 := Tryz.sizeOf3
  v3 := Tryz.zeroValue3
  t4 := Tryz.underlying4
  a4 := Tryz.isAgg4
  z4 := Tryz.sizeOf4
  v4 := Tryz.zeroValue4
  t5 := Tryz.underlying5
  a5 := Tryz.isAgg5
  z5 := Tryz.sizeOf5
  v5 := Tryz.zeroValue5
  t9 := Tryz.underlying9
  a9 := Tryz.isAgg9
  z9 := Tryz.sizeOf9
  v9 := Tryz.zeroValue9
  t20 := Tryz.underlying20
  a20 := Tryz.isAgg20
  z20 := Tryz.sizeOf20
  v20 := Tryz.zeroValue20
  t37 := Tryz.underlying51
  a37 := Tryz.isAgg51
  z37 := Tryz.sizeOf51
  v37 := Tryz.zeroValue51
  t46 := Tryz.underlying146
  a46 := Tryz.isAgg146
  z46 := Tryz.sizeOf146
  v46 := Tryz.zeroValue146
  t51 := Tryz.underlying188
  a51 := Tryz.isAgg188
  z51 := Tryz.sizeOf188
  v51 := Tryz.zeroValue188
  t53 := Tryz.underlying113
  a53 := Tryz.isAgg113
  z53 := Tryz.sizeOf113
  v53 := Tryz.zeroValue113
  t70 := Tryz.underlying192
  a70 := Tryz.isAgg192
  z70 := Tryz.sizeOf192
  v70 := Tryz.zeroValue192
  t72 := Tryz.underlying194
  a72 := Tryz.isAgg194
  z72 := Tryz.sizeOf194
  v72 := Tryz.zeroValue194
  t75 := Tryz.underlying197
  a75 := Tryz.isAgg197
  z75 := Tryz.sizeOf197
  v75 := Tryz.zeroValue197
  t76 := Tryz.underlying198
  a76 := Tryz.isAgg198
  z76 := Tryz.sizeOf198
  v76 := Tryz.zeroValue198
  t109 := Tryz.underlying190
  a109 := Tryz.isAgg190
  z109 := Tryz.sizeOf190
  v109 := Tryz.zeroValue190
  t127 := Tryz.underlying214
  a127 := Tryz.isAgg214
  z127 := Tryz.sizeOf214
  v127 := Tryz.zeroValue214
  t146 := Tryz.underlying210
  a146 := Tryz.isAgg210
  z146 := Tryz.sizeOf210
  v146 := Tryz.zeroValue210
  t148 := Tryz.underlying212
  a148 := Tryz.isAgg212
  z148 := Tryz.sizeOf212
  v148 := Tryz.zeroValue212
  t164 := Tryz.underlying220
  a164 := Tryz.isAgg220
  z164 := Tryz.sizeOf220
  v164 := Tryz.zeroValue220 }
theorem Tryz.repX : Builder.Extra Tryz.prog Tryz.repL_ren := {
  sizeBuilder := by kernel_rfl
  liesBuilder := by kernel_rfl
  t5 := Tryz.repL.t5
  a5 := Tryz.repL.a5
  z5 := Tryz.repL.z5
  v5 := Tryz.repL.v5
  infoByte := by kernel_rfl
  cellsByte := by kernel_rfl
  sizeByte := by kernel_rfl
  neB5 := by decide }
def Tryz.sortL173_ren : Go.Shelf.Ren := ⟨fun | 6 => 173 | 15 => 197 | 14 => 196 | 28 => 216 | 29 => 217 | 20 => 208 | 21 => 209 | 22 => 210 | 23 => 211 | 24 => 212 | 25 => 213 | 26 => 214 | 27 => 215 | 46 => 230 | 47 => 231 | 48 => 232 | 49 => 233 | 50 => 234 | 57 => 243 | n => n, fun | 22 => 37 | 24 => 47 | 25 => 158 | 3 => 3 | 39 => 146 | 0 => 0 | 53 => 188 | 55 => 113 | 4 => 4 | 46 => 181 | 45 => 180 | 50 => 185 | 5 => 5 | 9 => 9 | 66 => 204 | 70 => 208 | 76 => 217 | 77 => 218 | n => n, fun | n => n⟩
theorem Tryz.sortL173 : Go.Proofs.SlLaysF0.n6 Tryz.prog Tryz.sortL173_ren := {
  mixed := by kernel_rfl
  f6 := ⟨ "slices.SortFunc[[]loop.example/g01234/impl.RayPair,loop.example/g01234/impl.RayPair]", by decide, Tryz.func173.trans (congrArg some (by kernel_rfl))⟩
  f14 := ⟨ "slices.pdqsortCmpFunc[loop.example/g01234/impl.RayPair]", by decide, Tryz.func196.trans (congrArg some (by kernel_rfl))⟩
  f15 := Tryz.func197.trans (congrArg some (by kernel_rfl))
  f20 := ⟨ "slices.insertionSortCmpFunc[loop.example/g01234/impl.RayPair]", by decide, Tryz.func208.trans (congrArg some (by kernel_rfl))⟩
  f21 := ⟨ "slices.heapSortCmpFunc[loop.example/g01234/impl.RayPair]", by decide, Tryz.func209.trans (congrArg some (by kernel_rfl))⟩
  f22 := ⟨ "slices.breakPatternsCmpFunc[loop.example/g01234/impl.RayPair]", by decide, Tryz.func210.trans (congrArg some (by kernel_rfl))⟩
  f23 := ⟨ "slices.choosePivotCmpFunc[loop.example/g01234/impl.RayPair]", by decide, Tryz.func211.trans (congrArg some (by kernel_rfl))⟩
  f24 := ⟨ "slices.reverseRangeCmpFunc[loop.example/g01234/impl.RayPair]", by decide, Tryz.func212.trans (congrArg some (by kernel_rfl))⟩
  f25 := ⟨ "slices.partialInsertionSortCmpFunc[loop.example/g01234/impl.RayPair]", by decide, Tryz.func213.trans (congrArg some (by kernel_rfl))⟩
  f26 := ⟨ "slices.partitionEqualCmpFunc[loop.example/g01234/impl.RayPair]", by decide, Tryz.func214.trans (congrArg some (by kernel_rfl))⟩
  f27 := ⟨ "slices.partitionCmpFunc[loop.example/g01234/impl.RayPair]", by decide, Tryz.func215.trans (congrArg some (by kernel_rfl))⟩
  f28 := Tryz.func216.trans (congrArg some (by kernel_rfl))
  f29 := Tryz.func217.trans (congrArg some (by kernel_rfl))
  f46 := ⟨ "slices.siftDownCmpFunc[loop.example/g01234/impl.RayPair]", by decide, Tryz.func230.trans (congrArg some (by kernel_rfl))⟩
  f47 := Tryz.func231.trans (congrArg some (by kernel_rfl))
  f48 := Tryz.func232.trans (congrArg some (by kernel_rfl))
  f49 := ⟨ "slices.medianAdjacentCmpFunc[loop.example/g01234/impl.RayPair]", by decide, Tryz.func233.trans (congrArg some (by kernel_rfl))⟩
  f50 := ⟨ "slices.medianCmpFunc[loop.example/g01234/impl.RayPair]", by decide, Tryz.func234.trans (congrArg some (by kernel_rfl))⟩
  f57 := ⟨ "slices.order2CmpFunc[loop.example/g01234/impl.RayPair]", by decide, Tryz.func243.trans (congrArg some (by kernel_rfl))⟩
  t0 := Tryz.underlying0
  a0 := Tryz.isAgg0
  z0 := Tryz.sizeOf0
  v0 := Tryz.zeroValue0
  t3 := Tryz.underlying3
  a3 := Tryz.isAgg3
  z3 := Tryz.sizeOf3
  v3 := Tryz.zeroValue3
  t4 := Tryz.underlying4
  a4 := Tryz.isAgg4
  z4 := Tryz.sizeOf4
  v4 := Tryz.zeroValue4
  t5 := Tryz.underlying5
  a5 := Tryz.isAgg5
  z5 := Tryz.sizeOf5
  v5 := Tryz.zeroValue5
  t9 := Tryz.underlying9
  a9 := Tryz.isAgg9
  z9 := Tryz.sizeOf9
  v9 := Tryz.zeroValue9
  t22 := Tryz.underlying37
  a22 := Tryz.isAgg37
  z22 := Tryz.sizeOf37
  v22 := Tryz.zeroValue37
  t25 := Tryz.underlying158
  a25 := Tryz.isAgg158
  z25 := Tryz.sizeOf158
  v25 := Tryz.zeroValue158
  t39 := Tryz.underlying146
  a39 := Tryz.isAgg146
  z39 := Tryz.sizeOf146
  v39 := Tryz.zeroValue146
  t45 := Tryz.underlying180
  a45 := Tryz.isAgg180
  z45 := Tryz.sizeOf180
  v45 := Tryz.zeroValue180
  t46 := Tryz.underlying181
  a46 := Tryz.isAgg181
  z46 := Tryz.sizeOf181
  v46 := Tryz.zeroValue181
  t50 := Tryz.underlying185
  a50 := Tryz.isAgg185
  z50 := Tryz.sizeOf185
  v50 := Tryz.zeroValue185
  t53 := Tryz.underlying188
  a53 := Tryz.isAgg188
  z53 := Tryz.sizeOf188
  v53 := Tryz.zeroValue188
  t55 := Tryz.underlying113
  a55 := Tryz.isAgg113
  z55 := Tryz.sizeOf113
  v55 := Tryz.zeroValue113
  t66 := Tryz.underlying204
  a66 := Tryz.isAgg204
  z66 := Tryz.sizeOf204
  v66 := Tryz.zeroValue204
  t70 := Tryz.underlying208
  a70 := Tryz.isAgg208
  z70 := Tryz.sizeOf208
  v70 := Tryz.zeroValue208
  t76 := Tryz.underlying217
  a76 := Tryz.isAgg217
  z76 := Tryz.sizeOf217
  v76 := Tryz.zeroValue217
  t77 := Tryz.underlying218
  a77 := Tryz.isAgg218
  z77 := Tryz.sizeOf218
  v77 := Tryz.zeroValue218 }
end Go.Proofs
namespace Go.K.Link
open Go.K.Pure
def tyList : List (Nat × Ty) := [(2, .int .i64), (3, .int .i64), (4, .bool), (5, .int .u8), (6, .int .u8), (7, .pair (.int .i64) (.pair (.int .i64) (.pair (.bool) (.pair (.int .u8) (.unit))))), (8, .pair (.int .i64) (.pair (.int .i64) (.pair (.bool) (.pair (.int .u8) (.unit))))), (9, .str), (10, .str), (11, .str), (12, .int .u64), (21, .int .i32), (22, .pair (.int .i64) (.pair (.int .i64) (.unit))), (23, .pair (.int .i64) (.pair (.int .i64) (.unit))), (24, .sl 9 (.str)), (27, .pair (.int .i64) (.pair (.int .i64) (.unit))), (37, .sl 47 (.pair (.pair (.int .i64) (.pair (.int .i64) (.unit))) (.pair (.pair (.int .i64) (.pair (.int .i64) (.unit))) (.unit)))), (46, .pair (.pair (.int .i64) (.pair (.int .i64) (.unit))) (.pair (.pair (.int .i64) (.pair (.int .i64) (.unit))) (.unit))), (47, .pair (.pair (.int .i64) (.pair (.int .i64) (.unit))) (.pair (.pair (.int .i64) (.pair (.int .i64) (.unit))) (.unit))), (51, .sl 5 (.int .u8)), (61, .sl 27 (.pair (.int .i64) (.pair (.int .i64) (.unit)))), (70, .pair (.str) (.pair (.str) (.unit))), (71, .pair (.str) (.pair (.str) (.unit))), (80, .arr 2 (.str)), (81, .pair (.int .i64) (.pair (.arr 2 (.str)) (.unit))), (82, .pair (.int .i64) (.pair (.arr 2 (.str)) (.unit))), (110, .ptr (.pair (.sl 5 (.int .u8)) (.pair (.int .i64) (.pair (.int .u64) (.unit))))), (113, .int .u64), (131, .pair (.pair (.int .i64) (.pair (.int .i64) (.unit))) (.pair (.pair (.int .i64) (.pair (.int .i64) (.unit))) (.unit))), (132, .pair (.pair (.int .i64) (.pair (.int .i64) (.unit))) (.pair (.pair (.int .i64) (.pair (.int .i64) (.unit))) (.unit))), (146, .int .u64), (151, .pair (.sl 5 (.int .u8)) (.pair (.int .i64) (.pair (.int .u64) (.unit)))), (152, .pair (.sl 5 (.int .u8)) (.pair (.int .i64) (.pair (.int .u64) (.unit)))), (156, .sl 2 (.int .i64)), (173, .sl 4 (.bool)), (180, .int .i64), (188, .int .u32), (204, .int .u64), (208, .ptr (.int .i64)), (214, .ptr (.int .u8)), (217, .ptr (.int .u64)), (228, .int .u8), (229, .int .u8), (231, .int .i32), (232, .int .i32)]
def byList : List (Nat × Nat) := [(24, 16), (37, 32), (51, 1), (61, 16), (156, 8), (173, 1)]
def ftyList : List Nat := [1, 26, 28, 29, 30, 31, 33, 34, 35, 36, 39, 40, 41, 42, 44, 45, 49, 50, 52, 53, 54, 55, 56, 58, 59, 60, 63, 64, 65, 66, 68, 69, 73, 75, 76, 78, 79, 84, 85, 87, 88, 89, 90, 91, 93, 94, 95, 97, 98, 99, 100, 101, 103, 104, 105, 106, 107, 108, 109, 111, 112, 114, 115, 116, 117, 118, 119, 120, 121, 122, 123, 124, 125, 126, 128, 129, 130, 133, 134, 135, 136, 138, 139, 141, 142, 143, 144, 145, 147, 148, 149, 150, 154, 155, 157, 158, 159, 160, 161, 162, 163, 164, 165, 166, 167, 168, 169, 170, 171, 172, 174, 175, 176, 177, 178, 179, 182, 183, 184, 186, 187, 189, 191, 195, 199, 200, 201, 202, 203, 205, 206, 207, 209, 211, 213, 215, 216, 219, 221, 222, 230]
def etList : List (Nat × Nat) := [(24, 9), (37, 47), (51, 5), (61, 27), (156, 2), (173, 4)]
def fieldList : List (Nat × List Nat) := [(7, [2, 3, 4, 6]), (8, [2, 3, 4, 6]), (13, [9, 12]), (14, [9, 12]), (18, [17]), (19, [17]), (22, [2, 2]), (23, [2, 2]), (27, [2, 2]), (46, [27, 27]), (47, [27, 27]), (70, [9, 9]), (71, [9, 9]), (81, [3, 80]), (82, [3, 80]), (131, [27, 27]), (132, [27, 27]), (151, [51, 3, 113]), (152, [51, 3, 113]), (193, [192, 51]), (194, [192, 51]), (223, [17, 17, 17, 9]), (224, [17, 17, 17, 9]), (226, [225]), (227, [225]), (233, [12, 12, 188, 228, 5, 5, 229, 230, 214, 231, 232]), (234, [12, 12, 188, 228, 5, 5, 229, 230, 214, 231, 232])]
def seat : Seat := seatOf tyList byList ftyList fieldList etList
theorem seatOK : SeatOK Go.Proofs.Tryz.prog seat := seat_ok (by kernel_rfl) (by kernel_rfl) (by kernel_rfl) (by kernel_rfl)
noncomputable def laws_FnExactTunedWords_code : Code := (Go.Proofs.Tryz.f6.body).getD .skip
def laws_FnExactTunedWords_c : Cfg := ⟨6, [], [], [], [], []⟩
noncomputable def laws_toAngle_code : Code := (Go.Proofs.Tryz.f16.body).getD .skip
def laws_toAngle_c : Cfg := ⟨16, [], [], [], [], []⟩
noncomputable def laws_toAngle_s : Spec := ⟨[.v (.pair (.int .i64) (.pair (.int .i64) (.unit))) .fr], (Int × (Int × Unit)), fun v => laws_toAngle v.1, fun r => ([.v (.pair (.int .i64) (.pair (.int .i64) (.unit))) .fr r], [])⟩
noncomputable def laws_toAngle_ls : List LSum := []
noncomputable def laws_toAngle_tab : List Row := []
theorem laws_toAngle_t : ∀ r, r ∈ laws_toAngle_tab → RowIs Go.Proofs.Tryz.prog r := tab_nil
theorem laws_toAngle_rs : RoundsOK (mkCtx Go.K.Link.seat laws_toAngle_c laws_toAngle_tab) (sums laws_toAngle_ls) (loopsOf 0 laws_toAngle_code) laws_toAngle_ls := trivial
theorem laws_toAngle_e : ∀ v, (evFn (mkCtx Go.K.Link.seat laws_toAngle_c laws_toAngle_tab) (sums laws_toAngle_ls) 16 Go.Proofs.Tryz.f16 (encL laws_toAngle_s.a v)).run = (laws_toAngle_s.gen v).bind fun y => some (laws_toAngle_s.out y) := by
  rintro ⟨a, _⟩
  show _ = (laws_toAngle a).bind fun y : (Int × (Int × Unit)) => some (laws_toAngle_s.out y)
  simp only [laws_toAngle, kb_ite, kb_some, kb_none, kb_bind, kb_alt]
  kernel_rfl
theorem laws_toAngle_is : FnIs Go.Proofs.Tryz.prog 16 (modeOf []) (phi [laws_toAngle_s]) := spec_is (c := laws_toAngle_c) seatOK laws_toAngle_t Go.Proofs.Tryz.func16 rfl (code := laws_toAngle_code) rfl rfl laws_toAngle_rs laws_toAngle_e
noncomputable def spec_TunedWords_code : Code := (Go.Proofs.Tryz.f25.body).getD .skip
def spec_TunedWords_c : Cfg := ⟨25, [], [], [], [], []⟩
noncomputable def spec_l09Both_code : Code := (Go.Proofs.Tryz.f99.body).getD .skip
def spec_l09Both_c : Cfg := ⟨99, [], [], [], [], []⟩
noncomputable def spec_l09Code_code : Code := (Go.Proofs.Tryz.f96.body).getD .skip
def spec_l09Code_c : Cfg := ⟨96, [], [], [], [], []⟩
noncomputable def spec_l01Is_code : Code := (Go.Proofs.Tryz.f104.body).getD .skip
def spec_l01Is_c : Cfg := ⟨104, [], [], [], [], []⟩
noncomputable def spec_l01In_code : Code := (Go.Proofs.Tryz.f105.body).getD .skip
def spec_l01In_c : Cfg := ⟨105, [], [], [], [], []⟩
noncomputable def spec_l01In_s : Spec := ⟨[.v (.int .i64) .fr, .v (.int .i64) .fr, .v (.int .i64) .fr], Bool, fun v => spec_l01In v.1 v.2.1 v.2.2.1, fun r => ([.v (.bool) .fr r], [])⟩
noncomputable def spec_l01In_ls : List LSum := []
noncomputable def spec_l01In_tab : List Row := []
theorem spec_l01In_t : ∀ r, r ∈ spec_l01In_tab → RowIs Go.Proofs.Tryz.prog r := tab_nil
theorem spec_l01In_rs : RoundsOK (mkCtx Go.K.Link.seat spec_l01In_c spec_l01In_tab) (sums spec_l01In_ls) (loopsOf 0 spec_l01In_code) spec_l01In_ls := trivial
theorem spec_l01In_e : ∀ v, (evFn (mkCtx Go.K.Link.seat spec_l01In_c spec_l01In_tab) (sums spec_l01In_ls) 105 Go.Proofs.Tryz.f105 (encL spec_l01In_s.a v)).run = (spec_l01In_s.gen v).bind fun y => some (spec_l01In_s.out y) := by
  rintro ⟨n, ⟨low, ⟨high, _⟩⟩⟩
  show _ = (spec_l01In n low high).bind fun y : Bool => some (spec_l01In_s.out y)
  simp only [spec_l01In, kb_ite, kb_some, kb_none, kb_bind, kb_alt]
  kernel_rfl
theorem spec_l01In_is : FnIs Go.Proofs.Tryz.prog 105 (modeOf []) (phi [spec_l01In_s]) := spec_is (c := spec_l01In_c) seatOK spec_l01In_t Go.Proofs.Tryz.func105 rfl (code := spec_l01In_code) rfl rfl spec_l01In_rs spec_l01In_e
noncomputable def spec_l01Divisor_code : Code := (Go.Proofs.Tryz.f158.body).getD .skip
def spec_l01Divisor_c : Cfg := ⟨158, [], [[0, 1], [0], [4]], [], [], []⟩
noncomputable def spec_l01Divisor_l0_s : LSum := ⟨0, ⟨[(0, .val (.int .i64) .fr), (0, .val (.int .i64) .fr)], 12⟩, (.exit 0, ⟨[(0, .val (.int .i64) .fr)], 13⟩), [], spec_l01Divisor_l0⟩
noncomputable def spec_l01Divisor_s : Spec := ⟨[.v (.int .i64) .fr, .v (.int .i64) .fr], Int, fun v => spec_l01Divisor v.1 v.2.1, fun r => ([.v (.int .i64) .fr r], [])⟩
noncomputable def spec_l01Divisor_ls : List LSum := [spec_l01Divisor_l0_s]
noncomputable def spec_l01Divisor_tab : List Row := []
theorem spec_l01Divisor_t : ∀ r, r ∈ spec_l01Divisor_tab → RowIs Go.Proofs.Tryz.prog r := tab_nil
theorem spec_l01Divisor_l0_r : RoundIs (mkCtx Go.K.Link.seat spec_l01Divisor_c spec_l01Divisor_tab) (sums spec_l01Divisor_ls) 0 (bodyAt (loopsOf 0 spec_l01Divisor_code) 0) spec_l01Divisor_l0_s := by
  rintro ⟨a, ⟨b, _⟩⟩
  show _ = (spec_l01Divisor_l0 (a, (b, ()))).bind fun r : (Ctl (Int × Int × Unit) ((Int × Unit))) => some (ctlVal spec_l01Divisor_l0_s r)
  simp only [spec_l01Divisor_l0, kb_ite, kb_some, kb_none, kb_bind, kb_alt]
  kernel_rfl
theorem spec_l01Divisor_rs : RoundsOK (mkCtx Go.K.Link.seat spec_l01Divisor_c spec_l01Divisor_tab) (sums spec_l01Divisor_ls) (loopsOf 0 spec_l01Divisor_code) spec_l01Divisor_ls := ⟨⟨rfl, rfl, spec_l01Divisor_l0_r⟩, trivial⟩
theorem spec_l01Divisor_e : ∀ v, (evFn (mkCtx Go.K.Link.seat spec_l01Divisor_c spec_l01Divisor_tab) (sums spec_l01Divisor_ls) 158 Go.Proofs.Tryz.f158 (encL spec_l01Divisor_s.a v)).run = (spec_l01Divisor_s.gen v).bind fun y => some (spec_l01Divisor_s.out y) := by
  rintro ⟨a, ⟨b, _⟩⟩
  show _ = (spec_l01Divisor a b).bind fun y : Int => some (spec_l01Divisor_s.out y)
  simp only [spec_l01Divisor, kb_ite, kb_some, kb_none, kb_bind, kb_alt]
  kernel_rfl
theorem spec_l01Divisor_is : FnIs Go.Proofs.Tryz.prog 158 (modeOf []) (phi [spec_l01Divisor_s]) := spec_is (c := spec_l01Divisor_c) seatOK spec_l01Divisor_t Go.Proofs.Tryz.func158 rfl (code := spec_l01Divisor_code) rfl rfl spec_l01Divisor_rs spec_l01Divisor_e
noncomputable def spec_l01Is_s : Spec := ⟨[.v (.pair (.int .i64) (.pair (.int .i64) (.unit))) .fr], Bool, fun v => spec_l01Is v.1, fun r => ([.v (.bool) .fr r], [])⟩
noncomputable def spec_l01Is_ls : List LSum := []
noncomputable def spec_l01Is_tab : List Row := [⟨105, [], [spec_l01In_s]⟩, ⟨158, [], [spec_l01Divisor_s]⟩]
theorem spec_l01Is_t : ∀ r, r ∈ spec_l01Is_tab → RowIs Go.Proofs.Tryz.prog r := tab_cons (spec_l01In_is) (tab_cons (spec_l01Divisor_is) (tab_nil))
theorem spec_l01Is_rs : RoundsOK (mkCtx Go.K.Link.seat spec_l01Is_c spec_l01Is_tab) (sums spec_l01Is_ls) (loopsOf 0 spec_l01Is_code) spec_l01Is_ls := trivial
theorem spec_l01Is_e : ∀ v, (evFn (mkCtx Go.K.Link.seat spec_l01Is_c spec_l01Is_tab) (sums spec_l01Is_ls) 104 Go.Proofs.Tryz.f104 (encL spec_l01Is_s.a v)).run = (spec_l01Is_s.gen v).bind fun y => some (spec_l01Is_s.out y) := by
  rintro ⟨a, _⟩
  show _ = (spec_l01Is a).bind fun y : Bool => some (spec_l01Is_s.out y)
  simp only [spec_l01Is, kb_ite, kb_some, kb_none, kb_bind, kb_alt]
  kernel_rfl
theorem spec_l01Is_is : FnIs Go.Proofs.Tryz.prog 104 (modeOf []) (phi [spec_l01Is_s]) := spec_is (c := spec_l01Is_c) seatOK spec_l01Is_t Go.Proofs.Tryz.func104 rfl (code := spec_l01Is_code) rfl rfl spec_l01Is_rs spec_l01Is_e
noncomputable def spec_l04Code_code : Code := (Go.Proofs.Tryz.f85.body).getD .skip
def spec_l04Code_c : Cfg := ⟨85, [], [], [], [], []⟩
noncomputable def spec_l04Period_code : Code := (Go.Proofs.Tryz.f119.body).getD .skip
def spec_l04Period_c : Cfg := ⟨119, [], [], [], [], []⟩
noncomputable def spec_l01Orbit_code : Code := (Go.Proofs.Tryz.f151.body).getD .skip
def spec_l01Orbit_c : Cfg := ⟨151, [], [[1, 5, 6, 7, 18, 34, 42], [1, 5, 7, 18, 34, 42], [2, 3, 4, 7, 18, 34, 42], [], [], [], [5, 7, 8, 18, 34, 42], [], [2, 3, 4, 7, 18, 34, 42]], [], [], []⟩
noncomputable def spec_l01Orbit_l0_s : LSum := ⟨0, ⟨[(1, .val (.ptr (.pair (.int .i64) (.pair (.int .i64) (.unit)))) (.own .fr)), (3, .val (.int .i64) .fr), (0, .val (.int .i64) .fr)], 37⟩, (.exit 0, ⟨[(1, .val (.ptr (.pair (.int .i64) (.pair (.int .i64) (.unit)))) (.own .fr)), (3, .val (.int .i64) .fr)], 38⟩), [], spec_l01Orbit_l0⟩
noncomputable def spec_l01Double_code : Code := (Go.Proofs.Tryz.f169.body).getD .skip
def spec_l01Double_c : Cfg := ⟨169, [], [], [], [], []⟩
noncomputable def spec_l01Of_code : Code := (Go.Proofs.Tryz.f120.body).getD .skip
def spec_l01Of_c : Cfg := ⟨120, [], [], [], [], []⟩
noncomputable def spec_l01Of_s : Spec := ⟨[.v (.int .i64) .fr, .v (.int .i64) .fr], (Int × (Int × Unit)), fun v => spec_l01Of v.1 v.2.1, fun r => ([.v (.pair (.int .i64) (.pair (.int .i64) (.unit))) .fr r], [])⟩
noncomputable def spec_l01Of_ls : List LSum := []
noncomputable def spec_l01Of_tab : List Row := [⟨158, [], [spec_l01Divisor_s]⟩]
theorem spec_l01Of_t : ∀ r, r ∈ spec_l01Of_tab → RowIs Go.Proofs.Tryz.prog r := tab_cons (spec_l01Divisor_is) (tab_nil)
theorem spec_l01Of_rs : RoundsOK (mkCtx Go.K.Link.seat spec_l01Of_c spec_l01Of_tab) (sums spec_l01Of_ls) (loopsOf 0 spec_l01Of_code) spec_l01Of_ls := trivial
theorem spec_l01Of_e : ∀ v, (evFn (mkCtx Go.K.Link.seat spec_l01Of_c spec_l01Of_tab) (sums spec_l01Of_ls) 120 Go.Proofs.Tryz.f120 (encL spec_l01Of_s.a v)).run = (spec_l01Of_s.gen v).bind fun y => some (spec_l01Of_s.out y) := by
  rintro ⟨num, ⟨den, _⟩⟩
  show _ = (spec_l01Of num den).bind fun y : (Int × (Int × Unit)) => some (spec_l01Of_s.out y)
  simp only [spec_l01Of, kb_ite, kb_some, kb_none, kb_bind, kb_alt]
  kernel_rfl
theorem spec_l01Of_is : FnIs Go.Proofs.Tryz.prog 120 (modeOf []) (phi [spec_l01Of_s]) := spec_is (c := spec_l01Of_c) seatOK spec_l01Of_t Go.Proofs.Tryz.func120 rfl (code := spec_l01Of_code) rfl rfl spec_l01Of_rs spec_l01Of_e
noncomputable def spec_l01Double_s : Spec := ⟨[.v (.pair (.int .i64) (.pair (.int .i64) (.unit))) .fr], (Int × (Int × Unit)), fun v => spec_l01Double v.1, fun r => ([.v (.pair (.int .i64) (.pair (.int .i64) (.unit))) .fr r], [])⟩
noncomputable def spec_l01Double_ls : List LSum := []
noncomputable def spec_l01Double_tab : List Row := [⟨120, [], [spec_l01Of_s]⟩]
theorem spec_l01Double_t : ∀ r, r ∈ spec_l01Double_tab → RowIs Go.Proofs.Tryz.prog r := tab_cons (spec_l01Of_is) (tab_nil)
theorem spec_l01Double_rs : RoundsOK (mkCtx Go.K.Link.seat spec_l01Double_c spec_l01Double_tab) (sums spec_l01Double_ls) (loopsOf 0 spec_l01Double_code) spec_l01Double_ls := trivial
theorem spec_l01Double_e : ∀ v, (evFn (mkCtx Go.K.Link.seat spec_l01Double_c spec_l01Double_tab) (sums spec_l01Double_ls) 169 Go.Proofs.Tryz.f169 (encL spec_l01Double_s.a v)).run = (spec_l01Double_s.gen v).bind fun y => some (spec_l01Double_s.out y) := by
  rintro ⟨a, _⟩
  show _ = (spec_l01Double a).bind fun y : (Int × (Int × Unit)) => some (spec_l01Double_s.out y)
  simp only [spec_l01Double, kb_ite, kb_some, kb_none, kb_bind, kb_alt]
  kernel_rfl
theorem spec_l01Double_is : FnIs Go.Proofs.Tryz.prog 169 (modeOf []) (phi [spec_l01Double_s]) := spec_is (c := spec_l01Double_c) seatOK spec_l01Double_t Go.Proofs.Tryz.func169 rfl (code := spec_l01Double_code) rfl rfl spec_l01Double_rs spec_l01Double_e
noncomputable def spec_l01Orbit_l1_s : LSum := ⟨2, ⟨[(5, .val (.int .i64) .fr), (1, .val (.sl 27 (.pair (.int .i64) (.pair (.int .i64) (.unit)))) (.own .fr)), (0, .val (.ptr (.pair (.int .i64) (.pair (.int .i64) (.unit)))) (.own .fr))], 35⟩, (.ret, ⟨[(2, .sref 7 []), (0, .val (.int .i64) .fr), (0, .val (.bool) .fr), (2, .val (.sl 27 (.pair (.int .i64) (.pair (.int .i64) (.unit)))) (.own .fr)), (26, .sref 7 [])], 9⟩), [(.ret, ⟨[(2, .val (.sl 27 (.pair (.int .i64) (.pair (.int .i64) (.unit)))) (.own .fr)), (0, .val (.int .i64) .fr), (0, .val (.bool) .fr), (2, .val (.sl 27 (.pair (.int .i64) (.pair (.int .i64) (.unit)))) (.own .fr))], 36⟩)], spec_l01Orbit_l1⟩
noncomputable def spec_l01Orbit_s : Spec := ⟨[.v (.pair (.int .i64) (.pair (.int .i64) (.unit))) .fr], (List (Int × (Int × Unit))) × Int × Bool, fun v => spec_l01Orbit v.1, fun r => ([.v (.sl 27 (.pair (.int .i64) (.pair (.int .i64) (.unit)))) (.own .fr) r.1, .v (.int .i64) .fr r.2.1, .v (.bool) .fr r.2.2], [])⟩
noncomputable def spec_l01Orbit_ls : List LSum := [spec_l01Orbit_l0_s, spec_l01Orbit_l1_s]
noncomputable def spec_l01Orbit_tab : List Row := [⟨169, [], [spec_l01Double_s]⟩]
theorem spec_l01Orbit_t : ∀ r, r ∈ spec_l01Orbit_tab → RowIs Go.Proofs.Tryz.prog r := tab_cons (spec_l01Double_is) (tab_nil)
theorem spec_l01Orbit_l0_r : RoundIs (mkCtx Go.K.Link.seat spec_l01Orbit_c spec_l01Orbit_tab) (sums spec_l01Orbit_ls) 0 (bodyAt (loopsOf 0 spec_l01Orbit_code) 0) spec_l01Orbit_l0_s := by
  rintro ⟨a, ⟨pre, ⟨den, _⟩⟩⟩
  show _ = (spec_l01Orbit_l0 (a, (pre, (den, ())))).bind fun r : (Ctl (((Int × (Int × Unit))) × Int × Int × Unit) ((((Int × (Int × Unit))) × Int × Unit))) => some (ctlVal spec_l01Orbit_l0_s r)
  simp only [spec_l01Orbit_l0, kb_ite, kb_some, kb_none, kb_bind, kb_alt]
  kernel_rfl
theorem spec_l01Orbit_l1_r : RoundIs (mkCtx Go.K.Link.seat spec_l01Orbit_c spec_l01Orbit_tab) (sums spec_l01Orbit_ls) 2 (bodyAt (loopsOf 0 spec_l01Orbit_code) 1) spec_l01Orbit_l1_s := by
  rintro ⟨pre, ⟨out, ⟨x, _⟩⟩⟩
  show _ = (spec_l01Orbit_l1 (pre, (out, (x, ())))).bind fun r : (Ctl (Int × (List (Int × (Int × Unit))) × ((Int × (Int × Unit))) × Unit) ((Int × Bool × (List (Int × (Int × Unit))) × Unit) ⊕ ((List (Int × (Int × Unit))) × Int × Bool × (List (Int × (Int × Unit))) × Unit))) => some (ctlVal spec_l01Orbit_l1_s r)
  simp only [spec_l01Orbit_l1, kb_ite, kb_some, kb_none, kb_bind, kb_alt]
  kernel_rfl
theorem spec_l01Orbit_rs : RoundsOK (mkCtx Go.K.Link.seat spec_l01Orbit_c spec_l01Orbit_tab) (sums spec_l01Orbit_ls) (loopsOf 0 spec_l01Orbit_code) spec_l01Orbit_ls := ⟨⟨rfl, rfl, spec_l01Orbit_l0_r⟩, ⟨⟨rfl, rfl, spec_l01Orbit_l1_r⟩, trivial⟩⟩
theorem spec_l01Orbit_e : ∀ v, (evFn (mkCtx Go.K.Link.seat spec_l01Orbit_c spec_l01Orbit_tab) (sums spec_l01Orbit_ls) 151 Go.Proofs.Tryz.f151 (encL spec_l01Orbit_s.a v)).run = (spec_l01Orbit_s.gen v).bind fun y => some (spec_l01Orbit_s.out y) := by
  rintro ⟨a, _⟩
  show _ = (spec_l01Orbit a).bind fun y : (List (Int × (Int × Unit))) × Int × Bool => some (spec_l01Orbit_s.out y)
  simp only [spec_l01Orbit, kb_ite, kb_some, kb_none, kb_bind, kb_alt]
  kernel_rfl
theorem spec_l01Orbit_is : FnIs Go.Proofs.Tryz.prog 151 (modeOf []) (phi [spec_l01Orbit_s]) := spec_is (c := spec_l01Orbit_c) seatOK spec_l01Orbit_t Go.Proofs.Tryz.func151 rfl (code := spec_l01Orbit_code) rfl rfl spec_l01Orbit_rs spec_l01Orbit_e
noncomputable def spec_l04Period_s : Spec := ⟨[.v (.pair (.int .i64) (.pair (.int .i64) (.unit))) .fr], Int, fun v => spec_l04Period v.1, fun r => ([.v (.int .i64) .fr r], [])⟩
noncomputable def spec_l04Period_ls : List LSum := []
noncomputable def spec_l04Period_tab : List Row := [⟨151, [], [spec_l01Orbit_s]⟩]
theorem spec_l04Period_t : ∀ r, r ∈ spec_l04Period_tab → RowIs Go.Proofs.Tryz.prog r := tab_cons (spec_l01Orbit_is) (tab_nil)
theorem spec_l04Period_rs : RoundsOK (mkCtx Go.K.Link.seat spec_l04Period_c spec_l04Period_tab) (sums spec_l04Period_ls) (loopsOf 0 spec_l04Period_code) spec_l04Period_ls := trivial
theorem spec_l04Period_e : ∀ v, (evFn (mkCtx Go.K.Link.seat spec_l04Period_c spec_l04Period_tab) (sums spec_l04Period_ls) 119 Go.Proofs.Tryz.f119 (encL spec_l04Period_s.a v)).run = (spec_l04Period_s.gen v).bind fun y => some (spec_l04Period_s.out y) := by
  rintro ⟨x, _⟩
  show _ = (spec_l04Period x).bind fun y : Int => some (spec_l04Period_s.out y)
  simp only [spec_l04Period, kb_ite, kb_some, kb_none, kb_bind, kb_alt]
  kernel_rfl
theorem spec_l04Period_is : FnIs Go.Proofs.Tryz.prog 119 (modeOf []) (phi [spec_l04Period_s]) := spec_is (c := spec_l04Period_c) seatOK spec_l04Period_t Go.Proofs.Tryz.func119 rfl (code := spec_l04Period_code) rfl rfl spec_l04Period_rs spec_l04Period_e
noncomputable def spec_l04Code_s : Spec := ⟨[.v (.pair (.int .i64) (.pair (.int .i64) (.unit))) .fr], Int, fun v => spec_l04Code v.1, fun r => ([.v (.int .i64) .fr r], [])⟩
noncomputable def spec_l04Code_ls : List LSum := []
noncomputable def spec_l04Code_tab : List Row := [⟨119, [], [spec_l04Period_s]⟩, ⟨104, [], [spec_l01Is_s]⟩, ⟨105, [], [spec_l01In_s]⟩]
theorem spec_l04Code_t : ∀ r, r ∈ spec_l04Code_tab → RowIs Go.Proofs.Tryz.prog r := tab_cons (spec_l04Period_is) (tab_cons (spec_l01Is_is) (tab_cons (spec_l01In_is) (tab_nil)))
theorem spec_l04Code_rs : RoundsOK (mkCtx Go.K.Link.seat spec_l04Code_c spec_l04Code_tab) (sums spec_l04Code_ls) (loopsOf 0 spec_l04Code_code) spec_l04Code_ls := trivial
theorem spec_l04Code_e : ∀ v, (evFn (mkCtx Go.K.Link.seat spec_l04Code_c spec_l04Code_tab) (sums spec_l04Code_ls) 85 Go.Proofs.Tryz.f85 (encL spec_l04Code_s.a v)).run = (spec_l04Code_s.gen v).bind fun y => some (spec_l04Code_s.out y) := by
  rintro ⟨x, _⟩
  show _ = (spec_l04Code x).bind fun y : Int => some (spec_l04Code_s.out y)
  simp only [spec_l04Code, kb_ite, kb_some, kb_none, kb_bind, kb_alt]
  kernel_rfl
theorem spec_l04Code_is : FnIs Go.Proofs.Tryz.prog 85 (modeOf []) (phi [spec_l04Code_s]) := spec_is (c := spec_l04Code_c) seatOK spec_l04Code_t Go.Proofs.Tryz.func85 rfl (code := spec_l04Code_code) rfl rfl spec_l04Code_rs spec_l04Code_e
noncomputable def spec_l09Code_s : Spec := ⟨[.v (.pair (.int .i64) (.pair (.int .i64) (.unit))) .fr, .v (.pair (.int .i64) (.pair (.int .i64) (.unit))) .fr], Int, fun v => spec_l09Code v.1 v.2.1, fun r => ([.v (.int .i64) .fr r], [])⟩
noncomputable def spec_l09Code_ls : List LSum := []
noncomputable def spec_l09Code_tab : List Row := [⟨85, [], [spec_l04Code_s]⟩, ⟨104, [], [spec_l01Is_s]⟩]
theorem spec_l09Code_t : ∀ r, r ∈ spec_l09Code_tab → RowIs Go.Proofs.Tryz.prog r := tab_cons (spec_l04Code_is) (tab_cons (spec_l01Is_is) (tab_nil))
theorem spec_l09Code_rs : RoundsOK (mkCtx Go.K.Link.seat spec_l09Code_c spec_l09Code_tab) (sums spec_l09Code_ls) (loopsOf 0 spec_l09Code_code) spec_l09Code_ls := trivial
theorem spec_l09Code_e : ∀ v, (evFn (mkCtx Go.K.Link.seat spec_l09Code_c spec_l09Code_tab) (sums spec_l09Code_ls) 96 Go.Proofs.Tryz.f96 (encL spec_l09Code_s.a v)).run = (spec_l09Code_s.gen v).bind fun y => some (spec_l09Code_s.out y) := by
  rintro ⟨t, ⟨x, _⟩⟩
  show _ = (spec_l09Code t x).bind fun y : Int => some (spec_l09Code_s.out y)
  simp only [spec_l09Code, kb_ite, kb_some, kb_none, kb_bind, kb_alt]
  kernel_rfl
theorem spec_l09Code_is : FnIs Go.Proofs.Tryz.prog 96 (modeOf []) (phi [spec_l09Code_s]) := spec_is (c := spec_l09Code_c) seatOK spec_l09Code_t Go.Proofs.Tryz.func96 rfl (code := spec_l09Code_code) rfl rfl spec_l09Code_rs spec_l09Code_e
noncomputable def spec_l09Both_s : Spec := ⟨[.v (.pair (.int .i64) (.pair (.int .i64) (.unit))) .fr, .v (.pair (.int .i64) (.pair (.int .i64) (.unit))) .fr], Int, fun v => spec_l09Both v.1 v.2.1, fun r => ([.v (.int .i64) .fr r], [])⟩
noncomputable def spec_l09Both_ls : List LSum := []
noncomputable def spec_l09Both_tab : List Row := [⟨96, [], [spec_l09Code_s]⟩, ⟨85, [], [spec_l04Code_s]⟩]
theorem spec_l09Both_t : ∀ r, r ∈ spec_l09Both_tab → RowIs Go.Proofs.Tryz.prog r := tab_cons (spec_l09Code_is) (tab_cons (spec_l04Code_is) (tab_nil))
theorem spec_l09Both_rs : RoundsOK (mkCtx Go.K.Link.seat spec_l09Both_c spec_l09Both_tab) (sums spec_l09Both_ls) (loopsOf 0 spec_l09Both_code) spec_l09Both_ls := trivial
theorem spec_l09Both_e : ∀ v, (evFn (mkCtx Go.K.Link.seat spec_l09Both_c spec_l09Both_tab) (sums spec_l09Both_ls) 99 Go.Proofs.Tryz.f99 (encL spec_l09Both_s.a v)).run = (spec_l09Both_s.gen v).bind fun y => some (spec_l09Both_s.out y) := by
  rintro ⟨t, ⟨x, _⟩⟩
  show _ = (spec_l09Both t x).bind fun y : Int => some (spec_l09Both_s.out y)
  simp only [spec_l09Both, kb_ite, kb_some, kb_none, kb_bind, kb_alt]
  kernel_rfl
theorem spec_l09Both_is : FnIs Go.Proofs.Tryz.prog 99 (modeOf []) (phi [spec_l09Both_s]) := spec_is (c := spec_l09Both_c) seatOK spec_l09Both_t Go.Proofs.Tryz.func99 rfl (code := spec_l09Both_code) rfl rfl spec_l09Both_rs spec_l09Both_e
noncomputable def spec_l04Pair_code : Code := (Go.Proofs.Tryz.f87.body).getD .skip
def spec_l04Pair_c : Cfg := ⟨87, [], [[1, 2, 3, 4, 7], [2], [2]], [], [], []⟩
noncomputable def spec_l04Pairs_code : Code := (Go.Proofs.Tryz.f126.body).getD .skip
def spec_l04Pairs_c : Cfg := ⟨126, [], [[0, 3, 4, 5, 13], [3, 5, 13], [2, 3, 5, 13, 14]], [], [0], []⟩
noncomputable def spec_l04Join_code : Code := (Go.Proofs.Tryz.f176.body).getD .skip
def spec_l04Join_c : Cfg := ⟨176, [.own], [[0, 5, 6, 7, 11, 14, 58], [0, 58], [0, 4, 58, 65], [], [], [], [0, 5, 6, 7, 8, 11, 14, 58], [0, 5, 6, 7, 11, 14, 58], [0, 4, 58, 65]], [], [], []⟩
noncomputable def spec_l04Angles_code : Code := (Go.Proofs.Tryz.f139.body).getD .skip
def spec_l04Angles_c : Cfg := ⟨139, [], [[0, 3, 4, 5, 7, 27], [3, 7, 27], [2, 3, 7, 27, 28]], [], [], []⟩
noncomputable def spec_l04Angles_l0_s : LSum := ⟨0, ⟨[(0, .val (.int .i64) .fr), (2, .val (.sl 27 (.pair (.int .i64) (.pair (.int .i64) (.unit)))) (.own .fr)), (0, .val (.int .i64) .fr), (0, .val (.int .i64) .fr)], 23⟩, (.exit 0, ⟨[(3, .val (.sl 27 (.pair (.int .i64) (.pair (.int .i64) (.unit)))) (.own .fr))], 25⟩), [], spec_l04Angles_l0⟩
noncomputable def spec_l04Angles_s : Spec := ⟨[.v (.int .i64) .fr], (List (Int × (Int × Unit))), fun v => spec_l04Angles v.1, fun r => ([.v (.sl 27 (.pair (.int .i64) (.pair (.int .i64) (.unit)))) (.own .fr) r], [])⟩
noncomputable def spec_l04Angles_ls : List LSum := [spec_l04Angles_l0_s]
noncomputable def spec_l04Angles_tab : List Row := [⟨119, [], [spec_l04Period_s]⟩, ⟨120, [], [spec_l01Of_s]⟩]
theorem spec_l04Angles_t : ∀ r, r ∈ spec_l04Angles_tab → RowIs Go.Proofs.Tryz.prog r := tab_cons (spec_l04Period_is) (tab_cons (spec_l01Of_is) (tab_nil))
theorem spec_l04Angles_l0_r : RoundIs (mkCtx Go.K.Link.seat spec_l04Angles_c spec_l04Angles_tab) (sums spec_l04Angles_ls) 0 (bodyAt (loopsOf 0 spec_l04Angles_code) 0) spec_l04Angles_l0_s := by
  rintro ⟨n, ⟨out, ⟨den, ⟨k, _⟩⟩⟩⟩
  show _ = (spec_l04Angles_l0 (n, (out, (den, (k, ()))))).bind fun r : (Ctl (Int × (List (Int × (Int × Unit))) × Int × Int × Unit) (((List (Int × (Int × Unit))) × Unit))) => some (ctlVal spec_l04Angles_l0_s r)
  simp only [spec_l04Angles_l0, kb_ite, kb_some, kb_none, kb_bind, kb_alt]
  kernel_rfl
theorem spec_l04Angles_rs : RoundsOK (mkCtx Go.K.Link.seat spec_l04Angles_c spec_l04Angles_tab) (sums spec_l04Angles_ls) (loopsOf 0 spec_l04Angles_code) spec_l04Angles_ls := ⟨⟨rfl, rfl, spec_l04Angles_l0_r⟩, trivial⟩
theorem spec_l04Angles_e : ∀ v, (evFn (mkCtx Go.K.Link.seat spec_l04Angles_c spec_l04Angles_tab) (sums spec_l04Angles_ls) 139 Go.Proofs.Tryz.f139 (encL spec_l04Angles_s.a v)).run = (spec_l04Angles_s.gen v).bind fun y => some (spec_l04Angles_s.out y) := by
  rintro ⟨n, _⟩
  show _ = (spec_l04Angles n).bind fun y : (List (Int × (Int × Unit))) => some (spec_l04Angles_s.out y)
  simp only [spec_l04Angles, kb_ite, kb_some, kb_none, kb_bind, kb_alt]
  kernel_rfl
theorem spec_l04Angles_is : FnIs Go.Proofs.Tryz.prog 139 (modeOf []) (phi [spec_l04Angles_s]) := spec_is (c := spec_l04Angles_c) seatOK spec_l04Angles_t Go.Proofs.Tryz.func139 rfl (code := spec_l04Angles_code) rfl rfl spec_l04Angles_rs spec_l04Angles_e
noncomputable def spec_l04Free_code : Code := (Go.Proofs.Tryz.f199.body).getD .skip
def spec_l04Free_c : Cfg := ⟨199, [], [[1, 2, 5], [], [4]], [], [], []⟩
noncomputable def spec_l04Cross_code : Code := (Go.Proofs.Tryz.f144.body).getD .skip
def spec_l04Cross_c : Cfg := ⟨144, [], [], [], [], []⟩
noncomputable def spec_l04Inside_code : Code := (Go.Proofs.Tryz.f175.body).getD .skip
def spec_l04Inside_c : Cfg := ⟨175, [], [], [], [], []⟩
noncomputable def spec_l01Within_code : Code := (Go.Proofs.Tryz.f198.body).getD .skip
def spec_l01Within_c : Cfg := ⟨198, [], [], [], [], []⟩
noncomputable def spec_l01Less_code : Code := (Go.Proofs.Tryz.f113.body).getD .skip
def spec_l01Less_c : Cfg := ⟨113, [], [], [], [], []⟩
noncomputable def spec_l01Less_s : Spec := ⟨[.v (.pair (.int .i64) (.pair (.int .i64) (.unit))) .fr, .v (.pair (.int .i64) (.pair (.int .i64) (.unit))) .fr], Bool, fun v => spec_l01Less v.1 v.2.1, fun r => ([.v (.bool) .fr r], [])⟩
noncomputable def spec_l01Less_ls : List LSum := []
noncomputable def spec_l01Less_tab : List Row := []
theorem spec_l01Less_t : ∀ r, r ∈ spec_l01Less_tab → RowIs Go.Proofs.Tryz.prog r := tab_nil
theorem spec_l01Less_rs : RoundsOK (mkCtx Go.K.Link.seat spec_l01Less_c spec_l01Less_tab) (sums spec_l01Less_ls) (loopsOf 0 spec_l01Less_code) spec_l01Less_ls := trivial
theorem spec_l01Less_e : ∀ v, (evFn (mkCtx Go.K.Link.seat spec_l01Less_c spec_l01Less_tab) (sums spec_l01Less_ls) 113 Go.Proofs.Tryz.f113 (encL spec_l01Less_s.a v)).run = (spec_l01Less_s.gen v).bind fun y => some (spec_l01Less_s.out y) := by
  rintro ⟨a, ⟨b, _⟩⟩
  show _ = (spec_l01Less a b).bind fun y : Bool => some (spec_l01Less_s.out y)
  simp only [spec_l01Less, kb_ite, kb_some, kb_none, kb_bind, kb_alt]
  kernel_rfl
theorem spec_l01Less_is : FnIs Go.Proofs.Tryz.prog 113 (modeOf []) (phi [spec_l01Less_s]) := spec_is (c := spec_l01Less_c) seatOK spec_l01Less_t Go.Proofs.Tryz.func113 rfl (code := spec_l01Less_code) rfl rfl spec_l01Less_rs spec_l01Less_e
noncomputable def spec_l01Within_s : Spec := ⟨[.v (.pair (.int .i64) (.pair (.int .i64) (.unit))) .fr, .v (.pair (.int .i64) (.pair (.int .i64) (.unit))) .fr, .v (.pair (.int .i64) (.pair (.int .i64) (.unit))) .fr], Bool, fun v => spec_l01Within v.1 v.2.1 v.2.2.1, fun r => ([.v (.bool) .fr r], [])⟩
noncomputable def spec_l01Within_ls : List LSum := []
noncomputable def spec_l01Within_tab : List Row := [⟨113, [], [spec_l01Less_s]⟩]
theorem spec_l01Within_t : ∀ r, r ∈ spec_l01Within_tab → RowIs Go.Proofs.Tryz.prog r := tab_cons (spec_l01Less_is) (tab_nil)
theorem spec_l01Within_rs : RoundsOK (mkCtx Go.K.Link.seat spec_l01Within_c spec_l01Within_tab) (sums spec_l01Within_ls) (loopsOf 0 spec_l01Within_code) spec_l01Within_ls := trivial
theorem spec_l01Within_e : ∀ v, (evFn (mkCtx Go.K.Link.seat spec_l01Within_c spec_l01Within_tab) (sums spec_l01Within_ls) 198 Go.Proofs.Tryz.f198 (encL spec_l01Within_s.a v)).run = (spec_l01Within_s.gen v).bind fun y => some (spec_l01Within_s.out y) := by
  rintro ⟨x, ⟨a, ⟨b, _⟩⟩⟩
  show _ = (spec_l01Within x a b).bind fun y : Bool => some (spec_l01Within_s.out y)
  simp only [spec_l01Within, kb_ite, kb_some, kb_none, kb_bind, kb_alt]
  kernel_rfl
theorem spec_l01Within_is : FnIs Go.Proofs.Tryz.prog 198 (modeOf []) (phi [spec_l01Within_s]) := spec_is (c := spec_l01Within_c) seatOK spec_l01Within_t Go.Proofs.Tryz.func198 rfl (code := spec_l01Within_code) rfl rfl spec_l01Within_rs spec_l01Within_e
noncomputable def spec_l04Inside_s : Spec := ⟨[.v (.pair (.int .i64) (.pair (.int .i64) (.unit))) .fr, .v (.pair (.pair (.int .i64) (.pair (.int .i64) (.unit))) (.pair (.pair (.int .i64) (.pair (.int .i64) (.unit))) (.unit))) .fr], Bool, fun v => spec_l04Inside v.1 v.2.1, fun r => ([.v (.bool) .fr r], [])⟩
noncomputable def spec_l04Inside_ls : List LSum := []
noncomputable def spec_l04Inside_tab : List Row := [⟨198, [], [spec_l01Within_s]⟩]
theorem spec_l04Inside_t : ∀ r, r ∈ spec_l04Inside_tab → RowIs Go.Proofs.Tryz.prog r := tab_cons (spec_l01Within_is) (tab_nil)
theorem spec_l04Inside_rs : RoundsOK (mkCtx Go.K.Link.seat spec_l04Inside_c spec_l04Inside_tab) (sums spec_l04Inside_ls) (loopsOf 0 spec_l04Inside_code) spec_l04Inside_ls := trivial
theorem spec_l04Inside_e : ∀ v, (evFn (mkCtx Go.K.Link.seat spec_l04Inside_c spec_l04Inside_tab) (sums spec_l04Inside_ls) 175 Go.Proofs.Tryz.f175 (encL spec_l04Inside_s.a v)).run = (spec_l04Inside_s.gen v).bind fun y => some (spec_l04Inside_s.out y) := by
  rintro ⟨x, ⟨p, _⟩⟩
  show _ = (spec_l04Inside x p).bind fun y : Bool => some (spec_l04Inside_s.out y)
  simp only [spec_l04Inside, kb_ite, kb_some, kb_none, kb_bind, kb_alt]
  kernel_rfl
theorem spec_l04Inside_is : FnIs Go.Proofs.Tryz.prog 175 (modeOf []) (phi [spec_l04Inside_s]) := spec_is (c := spec_l04Inside_c) seatOK spec_l04Inside_t Go.Proofs.Tryz.func175 rfl (code := spec_l04Inside_code) rfl rfl spec_l04Inside_rs spec_l04Inside_e
noncomputable def spec_l04Cross_s : Spec := ⟨[.v (.pair (.pair (.int .i64) (.pair (.int .i64) (.unit))) (.pair (.pair (.int .i64) (.pair (.int .i64) (.unit))) (.unit))) .fr, .v (.pair (.pair (.int .i64) (.pair (.int .i64) (.unit))) (.pair (.pair (.int .i64) (.pair (.int .i64) (.unit))) (.unit))) .fr], Bool, fun v => spec_l04Cross v.1 v.2.1, fun r => ([.v (.bool) .fr r], [])⟩
noncomputable def spec_l04Cross_ls : List LSum := []
noncomputable def spec_l04Cross_tab : List Row := [⟨175, [], [spec_l04Inside_s]⟩]
theorem spec_l04Cross_t : ∀ r, r ∈ spec_l04Cross_tab → RowIs Go.Proofs.Tryz.prog r := tab_cons (spec_l04Inside_is) (tab_nil)
theorem spec_l04Cross_rs : RoundsOK (mkCtx Go.K.Link.seat spec_l04Cross_c spec_l04Cross_tab) (sums spec_l04Cross_ls) (loopsOf 0 spec_l04Cross_code) spec_l04Cross_ls := trivial
theorem spec_l04Cross_e : ∀ v, (evFn (mkCtx Go.K.Link.seat spec_l04Cross_c spec_l04Cross_tab) (sums spec_l04Cross_ls) 144 Go.Proofs.Tryz.f144 (encL spec_l04Cross_s.a v)).run = (spec_l04Cross_s.gen v).bind fun y => some (spec_l04Cross_s.out y) := by
  rintro ⟨a, ⟨b, _⟩⟩
  show _ = (spec_l04Cross a b).bind fun y : Bool => some (spec_l04Cross_s.out y)
  simp only [spec_l04Cross, kb_ite, kb_some, kb_none, kb_bind, kb_alt]
  kernel_rfl
theorem spec_l04Cross_is : FnIs Go.Proofs.Tryz.prog 144 (modeOf []) (phi [spec_l04Cross_s]) := spec_is (c := spec_l04Cross_c) seatOK spec_l04Cross_t Go.Proofs.Tryz.func144 rfl (code := spec_l04Cross_code) rfl rfl spec_l04Cross_rs spec_l04Cross_e
noncomputable def spec_l04Free_l0_s : LSum := ⟨0, ⟨[(1, .val (.sl 47 (.pair (.pair (.int .i64) (.pair (.int .i64) (.unit))) (.pair (.pair (.int .i64) (.pair (.int .i64) (.unit))) (.unit)))) .fr), (0, .val (.ptr (.pair (.pair (.int .i64) (.pair (.int .i64) (.unit))) (.pair (.pair (.int .i64) (.pair (.int .i64) (.unit))) (.unit)))) (.own .fr)), (2, .val (.int .i64) .fr)], 12⟩, (.ret, ⟨[(4, .val (.bool) .fr)], 13⟩), [(.exit 0, ⟨[], 18⟩)], spec_l04Free_l0⟩
noncomputable def spec_l04Free_s : Spec := ⟨[.v (.pair (.pair (.int .i64) (.pair (.int .i64) (.unit))) (.pair (.pair (.int .i64) (.pair (.int .i64) (.unit))) (.unit))) .fr, .v (.sl 47 (.pair (.pair (.int .i64) (.pair (.int .i64) (.unit))) (.pair (.pair (.int .i64) (.pair (.int .i64) (.unit))) (.unit)))) .fr], Bool, fun v => spec_l04Free v.1 v.2.1, fun r => ([.v (.bool) .fr r], [])⟩
noncomputable def spec_l04Free_ls : List LSum := [spec_l04Free_l0_s]
noncomputable def spec_l04Free_tab : List Row := [⟨144, [], [spec_l04Cross_s]⟩]
theorem spec_l04Free_t : ∀ r, r ∈ spec_l04Free_tab → RowIs Go.Proofs.Tryz.prog r := tab_cons (spec_l04Cross_is) (tab_nil)
theorem spec_l04Free_l0_r : RoundIs (mkCtx Go.K.Link.seat spec_l04Free_c spec_l04Free_tab) (sums spec_l04Free_ls) 0 (bodyAt (loopsOf 0 spec_l04Free_code) 0) spec_l04Free_l0_s := by
  rintro ⟨list, ⟨p, ⟨i, _⟩⟩⟩
  show _ = (spec_l04Free_l0 (list, (p, (i, ())))).bind fun r : (Ctl ((List ((Int × (Int × Unit)) × ((Int × (Int × Unit)) × Unit))) × (((Int × (Int × Unit)) × ((Int × (Int × Unit)) × Unit))) × Int × Unit) ((Bool × Unit) ⊕ (Unit))) => some (ctlVal spec_l04Free_l0_s r)
  simp only [spec_l04Free_l0, kb_ite, kb_some, kb_none, kb_bind, kb_alt]
  kernel_rfl
theorem spec_l04Free_rs : RoundsOK (mkCtx Go.K.Link.seat spec_l04Free_c spec_l04Free_tab) (sums spec_l04Free_ls) (loopsOf 0 spec_l04Free_code) spec_l04Free_ls := ⟨⟨rfl, rfl, spec_l04Free_l0_r⟩, trivial⟩
theorem spec_l04Free_e : ∀ v, (evFn (mkCtx Go.K.Link.seat spec_l04Free_c spec_l04Free_tab) (sums spec_l04Free_ls) 199 Go.Proofs.Tryz.f199 (encL spec_l04Free_s.a v)).run = (spec_l04Free_s.gen v).bind fun y => some (spec_l04Free_s.out y) := by
  rintro ⟨p, ⟨list, _⟩⟩
  show _ = (spec_l04Free p list).bind fun y : Bool => some (spec_l04Free_s.out y)
  simp only [spec_l04Free, kb_ite, kb_some, kb_none, kb_bind, kb_alt]
  kernel_rfl
theorem spec_l04Free_is : FnIs Go.Proofs.Tryz.prog 199 (modeOf []) (phi [spec_l04Free_s]) := spec_is (c := spec_l04Free_c) seatOK spec_l04Free_t Go.Proofs.Tryz.func199 rfl (code := spec_l04Free_code) rfl rfl spec_l04Free_rs spec_l04Free_e
noncomputable def spec_l04Join_l1_s : LSum := ⟨2, ⟨[(0, .val (.sl 47 (.pair (.pair (.int .i64) (.pair (.int .i64) (.unit))) (.pair (.pair (.int .i64) (.pair (.int .i64) (.unit))) (.unit)))) (.own .fr)), (4, .val (.sl 27 (.pair (.int .i64) (.pair (.int .i64) (.unit)))) (.own .fr)), (0, .val (.sl 4 (.bool)) (.own .fr)), (0, .val (.int .i64) .fr), (0, .val (.int .i64) .fr)], 57⟩, (.exit 2, ⟨[(0, .val (.sl 47 (.pair (.pair (.int .i64) (.pair (.int .i64) (.unit))) (.pair (.pair (.int .i64) (.pair (.int .i64) (.unit))) (.unit)))) (.own .fr)), (4, .val (.sl 27 (.pair (.int .i64) (.pair (.int .i64) (.unit)))) (.own .fr)), (0, .val (.sl 4 (.bool)) (.own .fr)), (0, .val (.int .i64) .fr)], 58⟩), [], spec_l04Join_l1⟩
noncomputable def spec_l04Join_l0_s : LSum := ⟨0, ⟨[(0, .val (.sl 47 (.pair (.pair (.int .i64) (.pair (.int .i64) (.unit))) (.pair (.pair (.int .i64) (.pair (.int .i64) (.unit))) (.unit)))) (.own .fr)), (4, .val (.sl 27 (.pair (.int .i64) (.pair (.int .i64) (.unit)))) (.own .fr)), (0, .val (.sl 4 (.bool)) (.own .fr)), (0, .val (.int .i64) .fr)], 58⟩, (.exit 0, ⟨[(0, .val (.sl 47 (.pair (.pair (.int .i64) (.pair (.int .i64) (.unit))) (.pair (.pair (.int .i64) (.pair (.int .i64) (.unit))) (.unit)))) (.own .fr))], 65⟩), [], spec_l04Join_l0⟩
noncomputable def spec_l04Join_s : Spec := ⟨[.v (.sl 47 (.pair (.pair (.int .i64) (.pair (.int .i64) (.unit))) (.pair (.pair (.int .i64) (.pair (.int .i64) (.unit))) (.unit)))) (.own .fr), .v (.int .i64) .fr], (List ((Int × (Int × Unit)) × ((Int × (Int × Unit)) × Unit))), fun v => spec_l04Join v.1 v.2.1, fun r => ([.v (.sl 47 (.pair (.pair (.int .i64) (.pair (.int .i64) (.unit))) (.pair (.pair (.int .i64) (.pair (.int .i64) (.unit))) (.unit)))) (.own .fr) r], [])⟩
noncomputable def spec_l04Join_ls : List LSum := [spec_l04Join_l0_s, spec_l04Join_l1_s]
noncomputable def spec_l04Join_tab : List Row := [⟨199, [], [spec_l04Free_s]⟩, ⟨139, [], [spec_l04Angles_s]⟩]
theorem spec_l04Join_t : ∀ r, r ∈ spec_l04Join_tab → RowIs Go.Proofs.Tryz.prog r := tab_cons (spec_l04Free_is) (tab_cons (spec_l04Angles_is) (tab_nil))
theorem spec_l04Join_l0_r : RoundIs (mkCtx Go.K.Link.seat spec_l04Join_c spec_l04Join_tab) (sums spec_l04Join_ls) 0 (bodyAt (loopsOf 0 spec_l04Join_code) 0) spec_l04Join_l0_s := by
  rintro ⟨list, ⟨angles, ⟨used, ⟨i, _⟩⟩⟩⟩
  show _ = (spec_l04Join_l0 (list, (angles, (used, (i, ()))))).bind fun r : (Ctl ((List ((Int × (Int × Unit)) × ((Int × (Int × Unit)) × Unit))) × (List (Int × (Int × Unit))) × (List Bool) × Int × Unit) (((List ((Int × (Int × Unit)) × ((Int × (Int × Unit)) × Unit))) × Unit))) => some (ctlVal spec_l04Join_l0_s r)
  simp only [spec_l04Join_l0, kb_ite, kb_some, kb_none, kb_bind, kb_alt]
  kernel_rfl
theorem spec_l04Join_l1_r : RoundIs (mkCtx Go.K.Link.seat spec_l04Join_c spec_l04Join_tab) (sums spec_l04Join_ls) 2 (bodyAt (loopsOf 0 spec_l04Join_code) 1) spec_l04Join_l1_s := by
  rintro ⟨list, ⟨angles, ⟨used, ⟨i, ⟨k, _⟩⟩⟩⟩⟩
  show _ = (spec_l04Join_l1 (list, (angles, (used, (i, (k, ())))))).bind fun r : (Ctl ((List ((Int × (Int × Unit)) × ((Int × (Int × Unit)) × Unit))) × (List (Int × (Int × Unit))) × (List Bool) × Int × Int × Unit) (((List ((Int × (Int × Unit)) × ((Int × (Int × Unit)) × Unit))) × (List (Int × (Int × Unit))) × (List Bool) × Int × Unit))) => some (ctlVal spec_l04Join_l1_s r)
  simp only [spec_l04Join_l1, kb_ite, kb_some, kb_none, kb_bind, kb_alt]
  kernel_rfl
theorem spec_l04Join_rs : RoundsOK (mkCtx Go.K.Link.seat spec_l04Join_c spec_l04Join_tab) (sums spec_l04Join_ls) (loopsOf 0 spec_l04Join_code) spec_l04Join_ls := ⟨⟨rfl, rfl, spec_l04Join_l0_r⟩, ⟨⟨rfl, rfl, spec_l04Join_l1_r⟩, trivial⟩⟩
theorem spec_l04Join_e : ∀ v, (evFn (mkCtx Go.K.Link.seat spec_l04Join_c spec_l04Join_tab) (sums spec_l04Join_ls) 176 Go.Proofs.Tryz.f176 (encL spec_l04Join_s.a v)).run = (spec_l04Join_s.gen v).bind fun y => some (spec_l04Join_s.out y) := by
  rintro ⟨list, ⟨n, _⟩⟩
  show _ = (spec_l04Join list n).bind fun y : (List ((Int × (Int × Unit)) × ((Int × (Int × Unit)) × Unit))) => some (spec_l04Join_s.out y)
  simp only [spec_l04Join, kb_ite, kb_some, kb_none, kb_bind, kb_alt]
  kernel_rfl
theorem spec_l04Join_is : FnIs Go.Proofs.Tryz.prog 176 (modeOf [.own]) (phi [spec_l04Join_s]) := spec_is (c := spec_l04Join_c) seatOK spec_l04Join_t Go.Proofs.Tryz.func176 rfl (code := spec_l04Join_code) rfl rfl spec_l04Join_rs spec_l04Join_e
noncomputable def spec_l04Pairs_l0_s : LSum := ⟨0, ⟨[(0, .val (.int .i64) .fr), (2, .val (.sl 47 (.pair (.pair (.int .i64) (.pair (.int .i64) (.unit))) (.pair (.pair (.int .i64) (.pair (.int .i64) (.unit))) (.unit)))) (.own .fr)), (0, .val (.int .i64) .fr)], 10⟩, (.exit 0, ⟨[(3, .val (.sl 47 (.pair (.pair (.int .i64) (.pair (.int .i64) (.unit))) (.pair (.pair (.int .i64) (.pair (.int .i64) (.unit))) (.unit)))) (.own .fr))], 11⟩), [], spec_l04Pairs_l0⟩
noncomputable def spec_l04Pairs_s : Spec := ⟨[.v (.int .i64) .fr], (List ((Int × (Int × Unit)) × ((Int × (Int × Unit)) × Unit))), fun v => spec_l04Pairs v.1, fun r => ([.v (.sl 47 (.pair (.pair (.int .i64) (.pair (.int .i64) (.unit))) (.pair (.pair (.int .i64) (.pair (.int .i64) (.unit))) (.unit)))) .fr r], [])⟩
noncomputable def spec_l04Pairs_ls : List LSum := [spec_l04Pairs_l0_s]
noncomputable def spec_l04Pairs_tab : List Row := [⟨176, [.own], [spec_l04Join_s]⟩]
theorem spec_l04Pairs_t : ∀ r, r ∈ spec_l04Pairs_tab → RowIs Go.Proofs.Tryz.prog r := tab_cons (spec_l04Join_is) (tab_nil)
theorem spec_l04Pairs_l0_r : RoundIs (mkCtx Go.K.Link.seat spec_l04Pairs_c spec_l04Pairs_tab) (sums spec_l04Pairs_ls) 0 (bodyAt (loopsOf 0 spec_l04Pairs_code) 0) spec_l04Pairs_l0_s := by
  rintro ⟨n, ⟨list, ⟨k, _⟩⟩⟩
  show _ = (spec_l04Pairs_l0 (n, (list, (k, ())))).bind fun r : (Ctl (Int × (List ((Int × (Int × Unit)) × ((Int × (Int × Unit)) × Unit))) × Int × Unit) (((List ((Int × (Int × Unit)) × ((Int × (Int × Unit)) × Unit))) × Unit))) => some (ctlVal spec_l04Pairs_l0_s r)
  simp only [spec_l04Pairs_l0, kb_ite, kb_some, kb_none, kb_bind, kb_alt]
  kernel_rfl
theorem spec_l04Pairs_rs : RoundsOK (mkCtx Go.K.Link.seat spec_l04Pairs_c spec_l04Pairs_tab) (sums spec_l04Pairs_ls) (loopsOf 0 spec_l04Pairs_code) spec_l04Pairs_ls := ⟨⟨rfl, rfl, spec_l04Pairs_l0_r⟩, trivial⟩
theorem spec_l04Pairs_e : ∀ v, (evFn (mkCtx Go.K.Link.seat spec_l04Pairs_c spec_l04Pairs_tab) (sums spec_l04Pairs_ls) 126 Go.Proofs.Tryz.f126 (encL spec_l04Pairs_s.a v)).run = (spec_l04Pairs_s.gen v).bind fun y => some (spec_l04Pairs_s.out y) := by
  rintro ⟨n, _⟩
  show _ = (spec_l04Pairs n).bind fun y : (List ((Int × (Int × Unit)) × ((Int × (Int × Unit)) × Unit))) => some (spec_l04Pairs_s.out y)
  simp only [spec_l04Pairs, kb_ite, kb_some, kb_none, kb_bind, kb_alt]
  kernel_rfl
theorem spec_l04Pairs_is : FnIs Go.Proofs.Tryz.prog 126 (modeOf []) (phi [spec_l04Pairs_s]) := spec_is (c := spec_l04Pairs_c) seatOK spec_l04Pairs_t Go.Proofs.Tryz.func126 rfl (code := spec_l04Pairs_code) rfl rfl spec_l04Pairs_rs spec_l04Pairs_e
noncomputable def spec_l04Pair_l0_s : LSum := ⟨0, ⟨[(1, .val (.ptr (.pair (.int .i64) (.pair (.int .i64) (.unit)))) (.own .fr)), (0, .val (.ptr (.pair (.pair (.int .i64) (.pair (.int .i64) (.unit))) (.pair (.pair (.int .i64) (.pair (.int .i64) (.unit))) (.unit)))) (.own .fr)), (0, .val (.sl 47 (.pair (.pair (.int .i64) (.pair (.int .i64) (.unit))) (.pair (.pair (.int .i64) (.pair (.int .i64) (.unit))) (.unit)))) .fr), (0, .val (.int .i64) .fr), (2, .val (.sl 47 (.pair (.pair (.int .i64) (.pair (.int .i64) (.unit))) (.pair (.pair (.int .i64) (.pair (.int .i64) (.unit))) (.unit)))) .fr)], 27⟩, (.ret, ⟨[(2, .val (.ptr (.pair (.pair (.int .i64) (.pair (.int .i64) (.unit))) (.pair (.pair (.int .i64) (.pair (.int .i64) (.unit))) (.unit)))) (.own .fr))], 32⟩), [(.exit 0, ⟨[(2, .val (.ptr (.pair (.pair (.int .i64) (.pair (.int .i64) (.unit))) (.pair (.pair (.int .i64) (.pair (.int .i64) (.unit))) (.unit)))) (.own .fr))], 32⟩)], spec_l04Pair_l0⟩
noncomputable def spec_l04Pair_s : Spec := ⟨[.v (.pair (.int .i64) (.pair (.int .i64) (.unit))) .fr], ((Int × (Int × Unit)) × ((Int × (Int × Unit)) × Unit)), fun v => spec_l04Pair v.1, fun r => ([.v (.pair (.pair (.int .i64) (.pair (.int .i64) (.unit))) (.pair (.pair (.int .i64) (.pair (.int .i64) (.unit))) (.unit))) .fr r], [])⟩
noncomputable def spec_l04Pair_ls : List LSum := [spec_l04Pair_l0_s]
noncomputable def spec_l04Pair_tab : List Row := [⟨119, [], [spec_l04Period_s]⟩, ⟨126, [], [spec_l04Pairs_s]⟩]
theorem spec_l04Pair_t : ∀ r, r ∈ spec_l04Pair_tab → RowIs Go.Proofs.Tryz.prog r := tab_cons (spec_l04Period_is) (tab_cons (spec_l04Pairs_is) (tab_nil))
theorem spec_l04Pair_l0_r : RoundIs (mkCtx Go.K.Link.seat spec_l04Pair_c spec_l04Pair_tab) (sums spec_l04Pair_ls) 0 (bodyAt (loopsOf 0 spec_l04Pair_code) 0) spec_l04Pair_l0_s := by
  rintro ⟨x, ⟨t2, ⟨list, ⟨i, ⟨t7, _⟩⟩⟩⟩⟩
  show _ = (spec_l04Pair_l0 (x, (t2, (list, (i, (t7, ())))))).bind fun r : (Ctl (((Int × (Int × Unit))) × (((Int × (Int × Unit)) × ((Int × (Int × Unit)) × Unit))) × (List ((Int × (Int × Unit)) × ((Int × (Int × Unit)) × Unit))) × Int × (List ((Int × (Int × Unit)) × ((Int × (Int × Unit)) × Unit))) × Unit) (((((Int × (Int × Unit)) × ((Int × (Int × Unit)) × Unit))) × Unit) ⊕ ((((Int × (Int × Unit)) × ((Int × (Int × Unit)) × Unit))) × Unit))) => some (ctlVal spec_l04Pair_l0_s r)
  simp only [spec_l04Pair_l0, kb_ite, kb_some, kb_none, kb_bind, kb_alt]
  kernel_rfl
theorem spec_l04Pair_rs : RoundsOK (mkCtx Go.K.Link.seat spec_l04Pair_c spec_l04Pair_tab) (sums spec_l04Pair_ls) (loopsOf 0 spec_l04Pair_code) spec_l04Pair_ls := ⟨⟨rfl, rfl, spec_l04Pair_l0_r⟩, trivial⟩
theorem spec_l04Pair_e : ∀ v, (evFn (mkCtx Go.K.Link.seat spec_l04Pair_c spec_l04Pair_tab) (sums spec_l04Pair_ls) 87 Go.Proofs.Tryz.f87 (encL spec_l04Pair_s.a v)).run = (spec_l04Pair_s.gen v).bind fun y => some (spec_l04Pair_s.out y) := by
  rintro ⟨x, _⟩
  show _ = (spec_l04Pair x).bind fun y : ((Int × (Int × Unit)) × ((Int × (Int × Unit)) × Unit)) => some (spec_l04Pair_s.out y)
  simp only [spec_l04Pair, kb_ite, kb_some, kb_none, kb_bind, kb_alt]
  kernel_rfl
theorem spec_l04Pair_is : FnIs Go.Proofs.Tryz.prog 87 (modeOf []) (phi [spec_l04Pair_s]) := spec_is (c := spec_l04Pair_c) seatOK spec_l04Pair_t Go.Proofs.Tryz.func87 rfl (code := spec_l04Pair_code) rfl rfl spec_l04Pair_rs spec_l04Pair_e
noncomputable def spec_l09Words_code : Code := (Go.Proofs.Tryz.f86.body).getD .skip
def spec_l09Words_c : Cfg := ⟨86, [], [], [], [], []⟩
noncomputable def spec_l01Expansion_code : Code := (Go.Proofs.Tryz.f90.body).getD .skip
def spec_l01Expansion_c : Cfg := ⟨90, [], [[2, 4, 5, 6, 7, 8, 12], [2, 6, 7], [2, 3]], [], [], []⟩
noncomputable def spec_l01Digit_code : Code := (Go.Proofs.Tryz.f152.body).getD .skip
def spec_l01Digit_c : Cfg := ⟨152, [], [], [], [], []⟩
noncomputable def spec_l01Digit_s : Spec := ⟨[.v (.pair (.int .i64) (.pair (.int .i64) (.unit))) .fr], (List UInt8), fun v => spec_l01Digit v.1, fun r => ([.v (.str) .fr r], [])⟩
noncomputable def spec_l01Digit_ls : List LSum := []
noncomputable def spec_l01Digit_tab : List Row := []
theorem spec_l01Digit_t : ∀ r, r ∈ spec_l01Digit_tab → RowIs Go.Proofs.Tryz.prog r := tab_nil
theorem spec_l01Digit_rs : RoundsOK (mkCtx Go.K.Link.seat spec_l01Digit_c spec_l01Digit_tab) (sums spec_l01Digit_ls) (loopsOf 0 spec_l01Digit_code) spec_l01Digit_ls := trivial
theorem spec_l01Digit_e : ∀ v, (evFn (mkCtx Go.K.Link.seat spec_l01Digit_c spec_l01Digit_tab) (sums spec_l01Digit_ls) 152 Go.Proofs.Tryz.f152 (encL spec_l01Digit_s.a v)).run = (spec_l01Digit_s.gen v).bind fun y => some (spec_l01Digit_s.out y) := by
  rintro ⟨a, _⟩
  show _ = (spec_l01Digit a).bind fun y : (List UInt8) => some (spec_l01Digit_s.out y)
  simp only [spec_l01Digit, kb_ite, kb_some, kb_none, kb_bind, kb_alt]
  kernel_rfl
theorem spec_l01Digit_is : FnIs Go.Proofs.Tryz.prog 152 (modeOf []) (phi [spec_l01Digit_s]) := spec_is (c := spec_l01Digit_c) seatOK spec_l01Digit_t Go.Proofs.Tryz.func152 rfl (code := spec_l01Digit_code) rfl rfl spec_l01Digit_rs spec_l01Digit_e
noncomputable def spec_l01Expansion_l0_s : LSum := ⟨0, ⟨[(2, .val (.ptr (.pair (.str) (.pair (.str) (.unit)))) (.own .fr)), (1, .val (.sl 27 (.pair (.int .i64) (.pair (.int .i64) (.unit)))) (.own .fr)), (0, .val (.int .i64) .fr), (0, .val (.bool) .fr), (0, .val (.ptr (.pair (.str) (.pair (.str) (.unit)))) (.own .fr)), (0, .val (.int .i64) .fr)], 36⟩, (.exit 0, ⟨[(2, .val (.ptr (.pair (.str) (.pair (.str) (.unit)))) (.own .fr)), (3, .val (.bool) .fr), (0, .val (.ptr (.pair (.str) (.pair (.str) (.unit)))) (.own .fr))], 37⟩), [], spec_l01Expansion_l0⟩
noncomputable def spec_l01Expansion_s : Spec := ⟨[.v (.pair (.int .i64) (.pair (.int .i64) (.unit))) .fr], ((List UInt8) × ((List UInt8) × Unit)) × Bool, fun v => spec_l01Expansion v.1, fun r => ([.v (.pair (.str) (.pair (.str) (.unit))) .fr r.1, .v (.bool) .fr r.2], [])⟩
noncomputable def spec_l01Expansion_ls : List LSum := [spec_l01Expansion_l0_s]
noncomputable def spec_l01Expansion_tab : List Row := [⟨151, [], [spec_l01Orbit_s]⟩, ⟨152, [], [spec_l01Digit_s]⟩]
theorem spec_l01Expansion_t : ∀ r, r ∈ spec_l01Expansion_tab → RowIs Go.Proofs.Tryz.prog r := tab_cons (spec_l01Orbit_is) (tab_cons (spec_l01Digit_is) (tab_nil))
theorem spec_l01Expansion_l0_r : RoundIs (mkCtx Go.K.Link.seat spec_l01Expansion_c spec_l01Expansion_tab) (sums spec_l01Expansion_ls) 0 (bodyAt (loopsOf 0 spec_l01Expansion_code) 0) spec_l01Expansion_l0_s := by
  rintro ⟨t2, ⟨list, ⟨pre, ⟨ok, ⟨out, ⟨i, _⟩⟩⟩⟩⟩⟩
  show _ = (spec_l01Expansion_l0 (t2, (list, (pre, (ok, (out, (i, ()))))))).bind fun r : (Ctl ((((List UInt8) × ((List UInt8) × Unit))) × (List (Int × (Int × Unit))) × Int × Bool × (((List UInt8) × ((List UInt8) × Unit))) × Int × Unit) (((((List UInt8) × ((List UInt8) × Unit))) × Bool × (((List UInt8) × ((List UInt8) × Unit))) × Unit))) => some (ctlVal spec_l01Expansion_l0_s r)
  simp only [spec_l01Expansion_l0, kb_ite, kb_some, kb_none, kb_bind, kb_alt]
  kernel_rfl
theorem spec_l01Expansion_rs : RoundsOK (mkCtx Go.K.Link.seat spec_l01Expansion_c spec_l01Expansion_tab) (sums spec_l01Expansion_ls) (loopsOf 0 spec_l01Expansion_code) spec_l01Expansion_ls := ⟨⟨rfl, rfl, spec_l01Expansion_l0_r⟩, trivial⟩
theorem spec_l01Expansion_e : ∀ v, (evFn (mkCtx Go.K.Link.seat spec_l01Expansion_c spec_l01Expansion_tab) (sums spec_l01Expansion_ls) 90 Go.Proofs.Tryz.f90 (encL spec_l01Expansion_s.a v)).run = (spec_l01Expansion_s.gen v).bind fun y => some (spec_l01Expansion_s.out y) := by
  rintro ⟨a, _⟩
  show _ = (spec_l01Expansion a).bind fun y : ((List UInt8) × ((List UInt8) × Unit)) × Bool => some (spec_l01Expansion_s.out y)
  simp only [spec_l01Expansion, kb_ite, kb_some, kb_none, kb_bind, kb_alt]
  kernel_rfl
theorem spec_l01Expansion_is : FnIs Go.Proofs.Tryz.prog 90 (modeOf []) (phi [spec_l01Expansion_s]) := spec_is (c := spec_l01Expansion_c) seatOK spec_l01Expansion_t Go.Proofs.Tryz.func90 rfl (code := spec_l01Expansion_code) rfl rfl spec_l01Expansion_rs spec_l01Expansion_e
noncomputable def spec_l09Words_s : Spec := ⟨[.v (.pair (.pair (.int .i64) (.pair (.int .i64) (.unit))) (.pair (.pair (.int .i64) (.pair (.int .i64) (.unit))) (.unit))) .fr], (List UInt8) × (List UInt8), fun v => spec_l09Words v.1, fun r => ([.v (.str) .fr r.1, .v (.str) .fr r.2], [])⟩
noncomputable def spec_l09Words_ls : List LSum := []
noncomputable def spec_l09Words_tab : List Row := [⟨90, [], [spec_l01Expansion_s]⟩]
theorem spec_l09Words_t : ∀ r, r ∈ spec_l09Words_tab → RowIs Go.Proofs.Tryz.prog r := tab_cons (spec_l01Expansion_is) (tab_nil)
theorem spec_l09Words_rs : RoundsOK (mkCtx Go.K.Link.seat spec_l09Words_c spec_l09Words_tab) (sums spec_l09Words_ls) (loopsOf 0 spec_l09Words_code) spec_l09Words_ls := trivial
theorem spec_l09Words_e : ∀ v, (evFn (mkCtx Go.K.Link.seat spec_l09Words_c spec_l09Words_tab) (sums spec_l09Words_ls) 86 Go.Proofs.Tryz.f86 (encL spec_l09Words_s.a v)).run = (spec_l09Words_s.gen v).bind fun y => some (spec_l09Words_s.out y) := by
  rintro ⟨p, _⟩
  show _ = (spec_l09Words p).bind fun y : (List UInt8) × (List UInt8) => some (spec_l09Words_s.out y)
  simp only [spec_l09Words, kb_ite, kb_some, kb_none, kb_bind, kb_alt]
  kernel_rfl
theorem spec_l09Words_is : FnIs Go.Proofs.Tryz.prog 86 (modeOf []) (phi [spec_l09Words_s]) := spec_is (c := spec_l09Words_c) seatOK spec_l09Words_t Go.Proofs.Tryz.func86 rfl (code := spec_l09Words_code) rfl rfl spec_l09Words_rs spec_l09Words_e
noncomputable def spec_l09Put_code : Code := (Go.Proofs.Tryz.f100.body).getD .skip
def spec_l09Put_c : Cfg := ⟨100, [], [[0, 1, 2, 7, 8], [7], [6]], [], [], []⟩
noncomputable def spec_l09Put_l0_s : LSum := ⟨0, ⟨[(0, .val (.str) .fr), (0, .val (.str) .fr), (0, .val (.str) .fr), (4, .val (.str) .fr), (0, .val (.int .i64) .fr)], 17⟩, (.exit 0, ⟨[(7, .val (.str) .fr)], 18⟩), [], spec_l09Put_l0⟩
noncomputable def spec_l09Put_s : Spec := ⟨[.v (.str) .fr, .v (.str) .fr, .v (.str) .fr], (List UInt8), fun v => spec_l09Put v.1 v.2.1 v.2.2.1, fun r => ([.v (.str) .fr r], [])⟩
noncomputable def spec_l09Put_ls : List LSum := [spec_l09Put_l0_s]
noncomputable def spec_l09Put_tab : List Row := []
theorem spec_l09Put_t : ∀ r, r ∈ spec_l09Put_tab → RowIs Go.Proofs.Tryz.prog r := tab_nil
theorem spec_l09Put_l0_r : RoundIs (mkCtx Go.K.Link.seat spec_l09Put_c spec_l09Put_tab) (sums spec_l09Put_ls) 0 (bodyAt (loopsOf 0 spec_l09Put_code) 0) spec_l09Put_l0_s := by
  rintro ⟨text, ⟨lower, ⟨upper, ⟨out, ⟨i, _⟩⟩⟩⟩⟩
  show _ = (spec_l09Put_l0 (text, (lower, (upper, (out, (i, ())))))).bind fun r : (Ctl ((List UInt8) × (List UInt8) × (List UInt8) × (List UInt8) × Int × Unit) (((List UInt8) × Unit))) => some (ctlVal spec_l09Put_l0_s r)
  simp only [spec_l09Put_l0, kb_ite, kb_some, kb_none, kb_bind, kb_alt]
  kernel_rfl
theorem spec_l09Put_rs : RoundsOK (mkCtx Go.K.Link.seat spec_l09Put_c spec_l09Put_tab) (sums spec_l09Put_ls) (loopsOf 0 spec_l09Put_code) spec_l09Put_ls := ⟨⟨rfl, rfl, spec_l09Put_l0_r⟩, trivial⟩
theorem spec_l09Put_e : ∀ v, (evFn (mkCtx Go.K.Link.seat spec_l09Put_c spec_l09Put_tab) (sums spec_l09Put_ls) 100 Go.Proofs.Tryz.f100 (encL spec_l09Put_s.a v)).run = (spec_l09Put_s.gen v).bind fun y => some (spec_l09Put_s.out y) := by
  rintro ⟨text, ⟨lower, ⟨upper, _⟩⟩⟩
  show _ = (spec_l09Put text lower upper).bind fun y : (List UInt8) => some (spec_l09Put_s.out y)
  simp only [spec_l09Put, kb_ite, kb_some, kb_none, kb_bind, kb_alt]
  kernel_rfl
theorem spec_l09Put_is : FnIs Go.Proofs.Tryz.prog 100 (modeOf []) (phi [spec_l09Put_s]) := spec_is (c := spec_l09Put_c) seatOK spec_l09Put_t Go.Proofs.Tryz.func100 rfl (code := spec_l09Put_code) rfl rfl spec_l09Put_rs spec_l09Put_e
noncomputable def spec_TunedWords_s : Spec := ⟨[.v (.pair (.int .i64) (.pair (.int .i64) (.unit))) .fr, .v (.pair (.int .i64) (.pair (.int .i64) (.unit))) .fr], (List (List UInt8)) × Int, fun v => spec_TunedWords v.1 v.2.1, fun r => ([.v (.sl 9 (.str)) (.own .fr) r.1, .v (.int .i64) .fr r.2], [])⟩
noncomputable def spec_TunedWords_ls : List LSum := []
noncomputable def spec_TunedWords_tab : List Row := [⟨99, [], [spec_l09Both_s]⟩, ⟨100, [], [spec_l09Put_s]⟩, ⟨86, [], [spec_l09Words_s]⟩, ⟨87, [], [spec_l04Pair_s]⟩]
theorem spec_TunedWords_t : ∀ r, r ∈ spec_TunedWords_tab → RowIs Go.Proofs.Tryz.prog r := tab_cons (spec_l09Both_is) (tab_cons (spec_l09Put_is) (tab_cons (spec_l09Words_is) (tab_cons (spec_l04Pair_is) (tab_nil))))
theorem spec_TunedWords_rs : RoundsOK (mkCtx Go.K.Link.seat spec_TunedWords_c spec_TunedWords_tab) (sums spec_TunedWords_ls) (loopsOf 0 spec_TunedWords_code) spec_TunedWords_ls := trivial
theorem spec_TunedWords_e : ∀ v, (evFn (mkCtx Go.K.Link.seat spec_TunedWords_c spec_TunedWords_tab) (sums spec_TunedWords_ls) 25 Go.Proofs.Tryz.f25 (encL spec_TunedWords_s.a v)).run = (spec_TunedWords_s.gen v).bind fun y => some (spec_TunedWords_s.out y) := by
  rintro ⟨t, ⟨x, _⟩⟩
  show _ = (spec_TunedWords t x).bind fun y : (List (List UInt8)) × Int => some (spec_TunedWords_s.out y)
  simp only [spec_TunedWords, kb_ite, kb_some, kb_none, kb_bind, kb_alt]
  kernel_rfl
theorem spec_TunedWords_is : FnIs Go.Proofs.Tryz.prog 25 (modeOf []) (phi [spec_TunedWords_s]) := spec_is (c := spec_TunedWords_c) seatOK spec_TunedWords_t Go.Proofs.Tryz.func25 rfl (code := spec_TunedWords_code) rfl rfl spec_TunedWords_rs spec_TunedWords_e
noncomputable def impl_TunedWords_code : Code := (Go.Proofs.Tryz.f26.body).getD .skip
def impl_TunedWords_c : Cfg := ⟨26, [], [], [], [], []⟩
noncomputable def impl_bothPairs_code : Code := (Go.Proofs.Tryz.f101.body).getD .skip
def impl_bothPairs_c : Cfg := ⟨101, [], [], [], [], []⟩
noncomputable def impl_wordsFor_code : Code := (Go.Proofs.Tryz.f88.body).getD .skip
def impl_wordsFor_c : Cfg := ⟨88, [], [], [], [], []⟩
noncomputable def impl_anglesCode_code : Code := (Go.Proofs.Tryz.f92.body).getD .skip
def impl_anglesCode_c : Cfg := ⟨92, [], [], [], [], []⟩
noncomputable def impl_areAll_impl_Angle_code : Code := (Go.Proofs.Tryz.f154.body).getD .skip
def impl_areAll_impl_Angle_c : Cfg := ⟨154, [], [], [], [], []⟩
noncomputable def slices_ContainsFunc__impl_Angle_impl_Angle_code : Code := (Go.Proofs.Tryz.f183.body).getD .skip
def slices_ContainsFunc__impl_Angle_impl_Angle_c : Cfg := ⟨183, [], [], [], [], []⟩
noncomputable def slices_IndexFunc__impl_Angle_impl_Angle_code : Code := (Go.Proofs.Tryz.f191.body).getD .skip
def slices_IndexFunc__impl_Angle_impl_Angle_c : Cfg := ⟨191, [], [[0, 1, 7, 8], [], [4]], [], [], []⟩
noncomputable def impl_areAll_impl_Angle_f1_code : Code := (Go.Proofs.Tryz.f184.body).getD .skip
def impl_areAll_impl_Angle_f1_c : Cfg := ⟨184, [], [], [], [], []⟩
noncomputable def impl_IsAngle_code : Code := (Go.Proofs.Tryz.f106.body).getD .skip
def impl_IsAngle_c : Cfg := ⟨106, [], [], [], [], []⟩
noncomputable def impl_within_code : Code := (Go.Proofs.Tryz.f137.body).getD .skip
def impl_within_c : Cfg := ⟨137, [], [], [], [], []⟩
noncomputable def impl_within_s : Spec := ⟨[.v (.int .i64) .fr, .v (.int .i64) .fr, .v (.int .i64) .fr], Bool, fun v => impl_within v.1 v.2.1 v.2.2.1, fun r => ([.v (.bool) .fr r], [])⟩
noncomputable def impl_within_ls : List LSum := []
noncomputable def impl_within_tab : List Row := []
theorem impl_within_t : ∀ r, r ∈ impl_within_tab → RowIs Go.Proofs.Tryz.prog r := tab_nil
theorem impl_within_rs : RoundsOK (mkCtx Go.K.Link.seat impl_within_c impl_within_tab) (sums impl_within_ls) (loopsOf 0 impl_within_code) impl_within_ls := trivial
theorem impl_within_e : ∀ v, (evFn (mkCtx Go.K.Link.seat impl_within_c impl_within_tab) (sums impl_within_ls) 137 Go.Proofs.Tryz.f137 (encL impl_within_s.a v)).run = (impl_within_s.gen v).bind fun y => some (impl_within_s.out y) := by
  rintro ⟨n, ⟨low, ⟨high, _⟩⟩⟩
  show _ = (impl_within n low high).bind fun y : Bool => some (impl_within_s.out y)
  simp only [impl_within, kb_ite, kb_some, kb_none, kb_bind, kb_alt]
  kernel_rfl
theorem impl_within_is : FnIs Go.Proofs.Tryz.prog 137 (modeOf []) (phi [impl_within_s]) := spec_is (c := impl_within_c) seatOK impl_within_t Go.Proofs.Tryz.func137 rfl (code := impl_within_code) rfl rfl impl_within_rs impl_within_e
noncomputable def impl_divisor_code : Code := (Go.Proofs.Tryz.f159.body).getD .skip
def impl_divisor_c : Cfg := ⟨159, [], [[0, 1], [0], [4]], [], [], []⟩
noncomputable def impl_divisor_l0_s : LSum := ⟨0, ⟨[(0, .val (.int .i64) .fr), (0, .val (.int .i64) .fr)], 10⟩, (.exit 0, ⟨[(0, .val (.int .i64) .fr)], 11⟩), [], impl_divisor_l0⟩
noncomputable def impl_divisor_s : Spec := ⟨[.v (.int .i64) .fr, .v (.int .i64) .fr], Int, fun v => impl_divisor v.1 v.2.1, fun r => ([.v (.int .i64) .fr r], [])⟩
noncomputable def impl_divisor_ls : List LSum := [impl_divisor_l0_s]
noncomputable def impl_divisor_tab : List Row := []
theorem impl_divisor_t : ∀ r, r ∈ impl_divisor_tab → RowIs Go.Proofs.Tryz.prog r := tab_nil
theorem impl_divisor_l0_r : RoundIs (mkCtx Go.K.Link.seat impl_divisor_c impl_divisor_tab) (sums impl_divisor_ls) 0 (bodyAt (loopsOf 0 impl_divisor_code) 0) impl_divisor_l0_s := by
  rintro ⟨a, ⟨b, _⟩⟩
  show _ = (impl_divisor_l0 (a, (b, ()))).bind fun r : (Ctl (Int × Int × Unit) ((Int × Unit))) => some (ctlVal impl_divisor_l0_s r)
  simp only [impl_divisor_l0, kb_ite, kb_some, kb_none, kb_bind, kb_alt]
  kernel_rfl
theorem impl_divisor_rs : RoundsOK (mkCtx Go.K.Link.seat impl_divisor_c impl_divisor_tab) (sums impl_divisor_ls) (loopsOf 0 impl_divisor_code) impl_divisor_ls := ⟨⟨rfl, rfl, impl_divisor_l0_r⟩, trivial⟩
theorem impl_divisor_e : ∀ v, (evFn (mkCtx Go.K.Link.seat impl_divisor_c impl_divisor_tab) (sums impl_divisor_ls) 159 Go.Proofs.Tryz.f159 (encL impl_divisor_s.a v)).run = (impl_divisor_s.gen v).bind fun y => some (impl_divisor_s.out y) := by
  rintro ⟨a, ⟨b, _⟩⟩
  show _ = (impl_divisor a b).bind fun y : Int => some (impl_divisor_s.out y)
  simp only [impl_divisor, kb_ite, kb_some, kb_none, kb_bind, kb_alt]
  kernel_rfl
theorem impl_divisor_is : FnIs Go.Proofs.Tryz.prog 159 (modeOf []) (phi [impl_divisor_s]) := spec_is (c := impl_divisor_c) seatOK impl_divisor_t Go.Proofs.Tryz.func159 rfl (code := impl_divisor_code) rfl rfl impl_divisor_rs impl_divisor_e
noncomputable def impl_IsAngle_s : Spec := ⟨[.v (.pair (.int .i64) (.pair (.int .i64) (.unit))) .fr], Bool, fun v => impl_IsAngle v.1, fun r => ([.v (.bool) .fr r], [])⟩
noncomputable def impl_IsAngle_ls : List LSum := []
noncomputable def impl_IsAngle_tab : List Row := [⟨137, [], [impl_within_s]⟩, ⟨159, [], [impl_divisor_s]⟩]
theorem impl_IsAngle_t : ∀ r, r ∈ impl_IsAngle_tab → RowIs Go.Proofs.Tryz.prog r := tab_cons (impl_within_is) (tab_cons (impl_divisor_is) (tab_nil))
theorem impl_IsAngle_rs : RoundsOK (mkCtx Go.K.Link.seat impl_IsAngle_c impl_IsAngle_tab) (sums impl_IsAngle_ls) (loopsOf 0 impl_IsAngle_code) impl_IsAngle_ls := trivial
theorem impl_IsAngle_e : ∀ v, (evFn (mkCtx Go.K.Link.seat impl_IsAngle_c impl_IsAngle_tab) (sums impl_IsAngle_ls) 106 Go.Proofs.Tryz.f106 (encL impl_IsAngle_s.a v)).run = (impl_IsAngle_s.gen v).bind fun y => some (impl_IsAngle_s.out y) := by
  rintro ⟨a, _⟩
  show _ = (impl_IsAngle a).bind fun y : Bool => some (impl_IsAngle_s.out y)
  simp only [impl_IsAngle, kb_ite, kb_some, kb_none, kb_bind, kb_alt]
  kernel_rfl
theorem impl_IsAngle_is : FnIs Go.Proofs.Tryz.prog 106 (modeOf []) (phi [impl_IsAngle_s]) := spec_is (c := impl_IsAngle_c) seatOK impl_IsAngle_t Go.Proofs.Tryz.func106 rfl (code := impl_IsAngle_code) rfl rfl impl_IsAngle_rs impl_IsAngle_e
noncomputable def impl_areAll_impl_Angle_f1_s : Spec := ⟨[.v (.pair (.int .i64) (.pair (.int .i64) (.unit))) .fr, .pfn 106 [] []], Bool, fun v => impl_areAll_impl_Angle_f1 v.1, fun r => ([.v (.bool) .fr r], [])⟩
noncomputable def impl_areAll_impl_Angle_f1_ls : List LSum := []
noncomputable def impl_areAll_impl_Angle_f1_tab : List Row := [⟨106, [], [impl_IsAngle_s]⟩]
theorem impl_areAll_impl_Angle_f1_t : ∀ r, r ∈ impl_areAll_impl_Angle_f1_tab → RowIs Go.Proofs.Tryz.prog r := tab_cons (impl_IsAngle_is) (tab_nil)
theorem impl_areAll_impl_Angle_f1_rs : RoundsOK (mkCtx Go.K.Link.seat impl_areAll_impl_Angle_f1_c impl_areAll_impl_Angle_f1_tab) (sums impl_areAll_impl_Angle_f1_ls) (loopsOf 0 impl_areAll_impl_Angle_f1_code) impl_areAll_impl_Angle_f1_ls := trivial
theorem impl_areAll_impl_Angle_f1_e : ∀ v, (evFn (mkCtx Go.K.Link.seat impl_areAll_impl_Angle_f1_c impl_areAll_impl_Angle_f1_tab) (sums impl_areAll_impl_Angle_f1_ls) 184 Go.Proofs.Tryz.f184 (encL impl_areAll_impl_Angle_f1_s.a v)).run = (impl_areAll_impl_Angle_f1_s.gen v).bind fun y => some (impl_areAll_impl_Angle_f1_s.out y) := by
  rintro ⟨x, ⟨⟨_, _⟩, _⟩⟩
  show _ = (impl_areAll_impl_Angle_f1 x).bind fun y : Bool => some (impl_areAll_impl_Angle_f1_s.out y)
  simp only [impl_areAll_impl_Angle_f1, kb_ite, kb_some, kb_none, kb_bind, kb_alt]
  kernel_rfl
theorem impl_areAll_impl_Angle_f1_is : FnIs Go.Proofs.Tryz.prog 184 (modeOf []) (phi [impl_areAll_impl_Angle_f1_s]) := spec_is (c := impl_areAll_impl_Angle_f1_c) seatOK impl_areAll_impl_Angle_f1_t Go.Proofs.Tryz.func184 rfl (code := impl_areAll_impl_Angle_f1_code) rfl rfl impl_areAll_impl_Angle_f1_rs impl_areAll_impl_Angle_f1_e
noncomputable def slices_IndexFunc__impl_Angle_impl_Angle_l0_s : LSum := ⟨0, ⟨[(0, .val (.sl 27 (.pair (.int .i64) (.pair (.int .i64) (.unit)))) .fr), (0, .fnl 184 [] [.arg (.pfn 106 [] [])]), (5, .val (.int .i64) .fr), (0, .val (.int .i64) .fr)], 10⟩, (.ret, ⟨[(4, .val (.int .i64) .fr)], 14⟩), [(.exit 0, ⟨[], 19⟩)], slices_IndexFunc__impl_Angle_impl_Angle_l0⟩
noncomputable def slices_IndexFunc__impl_Angle_impl_Angle_s : Spec := ⟨[.v (.sl 27 (.pair (.int .i64) (.pair (.int .i64) (.unit)))) .fr, .fn 184 [] [.pfn 106 [] []]], Int, fun v => slices_IndexFunc__impl_Angle_impl_Angle v.1, fun r => ([.v (.int .i64) .fr r], [])⟩
noncomputable def slices_IndexFunc__impl_Angle_impl_Angle_ls : List LSum := [slices_IndexFunc__impl_Angle_impl_Angle_l0_s]
noncomputable def slices_IndexFunc__impl_Angle_impl_Angle_tab : List Row := [⟨184, [], [impl_areAll_impl_Angle_f1_s]⟩]
theorem slices_IndexFunc__impl_Angle_impl_Angle_t : ∀ r, r ∈ slices_IndexFunc__impl_Angle_impl_Angle_tab → RowIs Go.Proofs.Tryz.prog r := tab_cons (impl_areAll_impl_Angle_f1_is) (tab_nil)
theorem slices_IndexFunc__impl_Angle_impl_Angle_l0_r : RoundIs (mkCtx Go.K.Link.seat slices_IndexFunc__impl_Angle_impl_Angle_c slices_IndexFunc__impl_Angle_impl_Angle_tab) (sums slices_IndexFunc__impl_Angle_impl_Angle_ls) 0 (bodyAt (loopsOf 0 slices_IndexFunc__impl_Angle_impl_Angle_code) 0) slices_IndexFunc__impl_Angle_impl_Angle_l0_s := by
  rintro ⟨s, ⟨_, ⟨⟨_, _⟩, _⟩, ⟨t7, ⟨t8, _⟩⟩⟩⟩
  show _ = (slices_IndexFunc__impl_Angle_impl_Angle_l0 (s, ((), (((), ()), ()), (t7, (t8, ()))))).bind fun r : (Ctl ((List (Int × (Int × Unit))) × Unit × ((Unit × Unit) × Unit) × Int × Int × Unit) ((Int × Unit) ⊕ (Unit))) => some (ctlVal slices_IndexFunc__impl_Angle_impl_Angle_l0_s r)
  simp only [slices_IndexFunc__impl_Angle_impl_Angle_l0, kb_ite, kb_some, kb_none, kb_bind, kb_alt]
  kernel_rfl
theorem slices_IndexFunc__impl_Angle_impl_Angle_rs : RoundsOK (mkCtx Go.K.Link.seat slices_IndexFunc__impl_Angle_impl_Angle_c slices_IndexFunc__impl_Angle_impl_Angle_tab) (sums slices_IndexFunc__impl_Angle_impl_Angle_ls) (loopsOf 0 slices_IndexFunc__impl_Angle_impl_Angle_code) slices_IndexFunc__impl_Angle_impl_Angle_ls := ⟨⟨rfl, rfl, slices_IndexFunc__impl_Angle_impl_Angle_l0_r⟩, trivial⟩
theorem slices_IndexFunc__impl_Angle_impl_Angle_e : ∀ v, (evFn (mkCtx Go.K.Link.seat slices_IndexFunc__impl_Angle_impl_Angle_c slices_IndexFunc__impl_Angle_impl_Angle_tab) (sums slices_IndexFunc__impl_Angle_impl_Angle_ls) 191 Go.Proofs.Tryz.f191 (encL slices_IndexFunc__impl_Angle_impl_Angle_s.a v)).run = (slices_IndexFunc__impl_Angle_impl_Angle_s.gen v).bind fun y => some (slices_IndexFunc__impl_Angle_impl_Angle_s.out y) := by
  rintro ⟨s, ⟨⟨_, ⟨⟨_, _⟩, _⟩⟩, _⟩⟩
  show _ = (slices_IndexFunc__impl_Angle_impl_Angle s).bind fun y : Int => some (slices_IndexFunc__impl_Angle_impl_Angle_s.out y)
  simp only [slices_IndexFunc__impl_Angle_impl_Angle, kb_ite, kb_some, kb_none, kb_bind, kb_alt]
  kernel_rfl
theorem slices_IndexFunc__impl_Angle_impl_Angle_is : FnIs Go.Proofs.Tryz.prog 191 (modeOf []) (phi [slices_IndexFunc__impl_Angle_impl_Angle_s]) := spec_is (c := slices_IndexFunc__impl_Angle_impl_Angle_c) seatOK slices_IndexFunc__impl_Angle_impl_Angle_t Go.Proofs.Tryz.func191 rfl (code := slices_IndexFunc__impl_Angle_impl_Angle_code) rfl rfl slices_IndexFunc__impl_Angle_impl_Angle_rs slices_IndexFunc__impl_Angle_impl_Angle_e
noncomputable def slices_ContainsFunc__impl_Angle_impl_Angle_s : Spec := ⟨[.v (.sl 27 (.pair (.int .i64) (.pair (.int .i64) (.unit)))) .fr, .fn 184 [] [.pfn 106 [] []]], Bool, fun v => slices_ContainsFunc__impl_Angle_impl_Angle v.1, fun r => ([.v (.bool) .fr r], [])⟩
noncomputable def slices_ContainsFunc__impl_Angle_impl_Angle_ls : List LSum := []
noncomputable def slices_ContainsFunc__impl_Angle_impl_Angle_tab : List Row := [⟨191, [], [slices_IndexFunc__impl_Angle_impl_Angle_s]⟩]
theorem slices_ContainsFunc__impl_Angle_impl_Angle_t : ∀ r, r ∈ slices_ContainsFunc__impl_Angle_impl_Angle_tab → RowIs Go.Proofs.Tryz.prog r := tab_cons (slices_IndexFunc__impl_Angle_impl_Angle_is) (tab_nil)
theorem slices_ContainsFunc__impl_Angle_impl_Angle_rs : RoundsOK (mkCtx Go.K.Link.seat slices_ContainsFunc__impl_Angle_impl_Angle_c slices_ContainsFunc__impl_Angle_impl_Angle_tab) (sums slices_ContainsFunc__impl_Angle_impl_Angle_ls) (loopsOf 0 slices_ContainsFunc__impl_Angle_impl_Angle_code) slices_ContainsFunc__impl_Angle_impl_Angle_ls := trivial
theorem slices_ContainsFunc__impl_Angle_impl_Angle_e : ∀ v, (evFn (mkCtx Go.K.Link.seat slices_ContainsFunc__impl_Angle_impl_Angle_c slices_ContainsFunc__impl_Angle_impl_Angle_tab) (sums slices_ContainsFunc__impl_Angle_impl_Angle_ls) 183 Go.Proofs.Tryz.f183 (encL slices_ContainsFunc__impl_Angle_impl_Angle_s.a v)).run = (slices_ContainsFunc__impl_Angle_impl_Angle_s.gen v).bind fun y => some (slices_ContainsFunc__impl_Angle_impl_Angle_s.out y) := by
  rintro ⟨s, ⟨⟨_, ⟨⟨_, _⟩, _⟩⟩, _⟩⟩
  show _ = (slices_ContainsFunc__impl_Angle_impl_Angle s).bind fun y : Bool => some (slices_ContainsFunc__impl_Angle_impl_Angle_s.out y)
  simp only [slices_ContainsFunc__impl_Angle_impl_Angle, kb_ite, kb_some, kb_none, kb_bind, kb_alt]
  kernel_rfl
theorem slices_ContainsFunc__impl_Angle_impl_Angle_is : FnIs Go.Proofs.Tryz.prog 183 (modeOf []) (phi [slices_ContainsFunc__impl_Angle_impl_Angle_s]) := spec_is (c := slices_ContainsFunc__impl_Angle_impl_Angle_c) seatOK slices_ContainsFunc__impl_Angle_impl_Angle_t Go.Proofs.Tryz.func183 rfl (code := slices_ContainsFunc__impl_Angle_impl_Angle_code) rfl rfl slices_ContainsFunc__impl_Angle_impl_Angle_rs slices_ContainsFunc__impl_Angle_impl_Angle_e
noncomputable def impl_areAll_impl_Angle_s : Spec := ⟨[.v (.sl 27 (.pair (.int .i64) (.pair (.int .i64) (.unit)))) .fr, .fn 106 [] []], Bool, fun v => impl_areAll_impl_Angle v.1, fun r => ([.v (.bool) .fr r], [])⟩
noncomputable def impl_areAll_impl_Angle_ls : List LSum := []
noncomputable def impl_areAll_impl_Angle_tab : List Row := [⟨183, [], [slices_ContainsFunc__impl_Angle_impl_Angle_s]⟩]
theorem impl_areAll_impl_Angle_t : ∀ r, r ∈ impl_areAll_impl_Angle_tab → RowIs Go.Proofs.Tryz.prog r := tab_cons (slices_ContainsFunc__impl_Angle_impl_Angle_is) (tab_nil)
theorem impl_areAll_impl_Angle_rs : RoundsOK (mkCtx Go.K.Link.seat impl_areAll_impl_Angle_c impl_areAll_impl_Angle_tab) (sums impl_areAll_impl_Angle_ls) (loopsOf 0 impl_areAll_impl_Angle_code) impl_areAll_impl_Angle_ls := trivial
theorem impl_areAll_impl_Angle_e : ∀ v, (evFn (mkCtx Go.K.Link.seat impl_areAll_impl_Angle_c impl_areAll_impl_Angle_tab) (sums impl_areAll_impl_Angle_ls) 154 Go.Proofs.Tryz.f154 (encL impl_areAll_impl_Angle_s.a v)).run = (impl_areAll_impl_Angle_s.gen v).bind fun y => some (impl_areAll_impl_Angle_s.out y) := by
  rintro ⟨list, ⟨⟨_, _⟩, _⟩⟩
  show _ = (impl_areAll_impl_Angle list).bind fun y : Bool => some (impl_areAll_impl_Angle_s.out y)
  simp only [impl_areAll_impl_Angle, kb_ite, kb_some, kb_none, kb_bind, kb_alt]
  kernel_rfl
theorem impl_areAll_impl_Angle_is : FnIs Go.Proofs.Tryz.prog 154 (modeOf []) (phi [impl_areAll_impl_Angle_s]) := spec_is (c := impl_areAll_impl_Angle_c) seatOK impl_areAll_impl_Angle_t Go.Proofs.Tryz.func154 rfl (code := impl_areAll_impl_Angle_code) rfl rfl impl_areAll_impl_Angle_rs impl_areAll_impl_Angle_e
noncomputable def impl_anglesCode_s : Spec := ⟨[.v (.sl 27 (.pair (.int .i64) (.pair (.int .i64) (.unit)))) .fr], Int, fun v => impl_anglesCode v.1, fun r => ([.v (.int .i64) .fr r], [])⟩
noncomputable def impl_anglesCode_ls : List LSum := []
noncomputable def impl_anglesCode_tab : List Row := [⟨154, [], [impl_areAll_impl_Angle_s]⟩]
theorem impl_anglesCode_t : ∀ r, r ∈ impl_anglesCode_tab → RowIs Go.Proofs.Tryz.prog r := tab_cons (impl_areAll_impl_Angle_is) (tab_nil)
theorem impl_anglesCode_rs : RoundsOK (mkCtx Go.K.Link.seat impl_anglesCode_c impl_anglesCode_tab) (sums impl_anglesCode_ls) (loopsOf 0 impl_anglesCode_code) impl_anglesCode_ls := trivial
theorem impl_anglesCode_e : ∀ v, (evFn (mkCtx Go.K.Link.seat impl_anglesCode_c impl_anglesCode_tab) (sums impl_anglesCode_ls) 92 Go.Proofs.Tryz.f92 (encL impl_anglesCode_s.a v)).run = (impl_anglesCode_s.gen v).bind fun y => some (impl_anglesCode_s.out y) := by
  rintro ⟨list, _⟩
  show _ = (impl_anglesCode list).bind fun y : Int => some (impl_anglesCode_s.out y)
  simp only [impl_anglesCode, kb_ite, kb_some, kb_none, kb_bind, kb_alt]
  kernel_rfl
theorem impl_anglesCode_is : FnIs Go.Proofs.Tryz.prog 92 (modeOf []) (phi [impl_anglesCode_s]) := spec_is (c := impl_anglesCode_c) seatOK impl_anglesCode_t Go.Proofs.Tryz.func92 rfl (code := impl_anglesCode_code) rfl rfl impl_anglesCode_rs impl_anglesCode_e
noncomputable def impl_PairOf_code : Code := (Go.Proofs.Tryz.f58.body).getD .skip
def impl_PairOf_c : Cfg := ⟨58, [], [], [], [], []⟩
noncomputable def impl_periodOf_code : Code := (Go.Proofs.Tryz.f93.body).getD .skip
def impl_periodOf_c : Cfg := ⟨93, [], [[1, 3, 4], [], [2]], [], [], []⟩
noncomputable def impl_Angle_double_code : Code := (Go.Proofs.Tryz.f155.body).getD .skip
def impl_Angle_double_c : Cfg := ⟨155, [], [], [], [], []⟩
noncomputable def impl_angle_code : Code := (Go.Proofs.Tryz.f164.body).getD .skip
def impl_angle_c : Cfg := ⟨164, [], [], [], [], []⟩
noncomputable def impl_angle_s : Spec := ⟨[.v (.int .i64) .fr, .v (.int .i64) .fr], (Int × (Int × Unit)), fun v => impl_angle v.1 v.2.1, fun r => ([.v (.pair (.int .i64) (.pair (.int .i64) (.unit))) .fr r], [])⟩
noncomputable def impl_angle_ls : List LSum := []
noncomputable def impl_angle_tab : List Row := [⟨159, [], [impl_divisor_s]⟩]
theorem impl_angle_t : ∀ r, r ∈ impl_angle_tab → RowIs Go.Proofs.Tryz.prog r := tab_cons (impl_divisor_is) (tab_nil)
theorem impl_angle_rs : RoundsOK (mkCtx Go.K.Link.seat impl_angle_c impl_angle_tab) (sums impl_angle_ls) (loopsOf 0 impl_angle_code) impl_angle_ls := trivial
theorem impl_angle_e : ∀ v, (evFn (mkCtx Go.K.Link.seat impl_angle_c impl_angle_tab) (sums impl_angle_ls) 164 Go.Proofs.Tryz.f164 (encL impl_angle_s.a v)).run = (impl_angle_s.gen v).bind fun y => some (impl_angle_s.out y) := by
  rintro ⟨num, ⟨den, _⟩⟩
  show _ = (impl_angle num den).bind fun y : (Int × (Int × Unit)) => some (impl_angle_s.out y)
  simp only [impl_angle, kb_ite, kb_some, kb_none, kb_bind, kb_alt]
  kernel_rfl
theorem impl_angle_is : FnIs Go.Proofs.Tryz.prog 164 (modeOf []) (phi [impl_angle_s]) := spec_is (c := impl_angle_c) seatOK impl_angle_t Go.Proofs.Tryz.func164 rfl (code := impl_angle_code) rfl rfl impl_angle_rs impl_angle_e
noncomputable def impl_Angle_double_s : Spec := ⟨[.v (.pair (.int .i64) (.pair (.int .i64) (.unit))) .fr], (Int × (Int × Unit)), fun v => impl_Angle_double v.1, fun r => ([.v (.pair (.int .i64) (.pair (.int .i64) (.unit))) .fr r], [])⟩
noncomputable def impl_Angle_double_ls : List LSum := []
noncomputable def impl_Angle_double_tab : List Row := [⟨164, [], [impl_angle_s]⟩]
theorem impl_Angle_double_t : ∀ r, r ∈ impl_Angle_double_tab → RowIs Go.Proofs.Tryz.prog r := tab_cons (impl_angle_is) (tab_nil)
theorem impl_Angle_double_rs : RoundsOK (mkCtx Go.K.Link.seat impl_Angle_double_c impl_Angle_double_tab) (sums impl_Angle_double_ls) (loopsOf 0 impl_Angle_double_code) impl_Angle_double_ls := trivial
theorem impl_Angle_double_e : ∀ v, (evFn (mkCtx Go.K.Link.seat impl_Angle_double_c impl_Angle_double_tab) (sums impl_Angle_double_ls) 155 Go.Proofs.Tryz.f155 (encL impl_Angle_double_s.a v)).run = (impl_Angle_double_s.gen v).bind fun y => some (impl_Angle_double_s.out y) := by
  rintro ⟨a, _⟩
  show _ = (impl_Angle_double a).bind fun y : (Int × (Int × Unit)) => some (impl_Angle_double_s.out y)
  simp only [impl_Angle_double, kb_ite, kb_some, kb_none, kb_bind, kb_alt]
  kernel_rfl
theorem impl_Angle_double_is : FnIs Go.Proofs.Tryz.prog 155 (modeOf []) (phi [impl_Angle_double_s]) := spec_is (c := impl_Angle_double_c) seatOK impl_Angle_double_t Go.Proofs.Tryz.func155 rfl (code := impl_Angle_double_code) rfl rfl impl_Angle_double_rs impl_Angle_double_e
noncomputable def impl_periodOf_l0_s : LSum := ⟨0, ⟨[(1, .val (.ptr (.pair (.int .i64) (.pair (.int .i64) (.unit)))) (.own .fr)), (1, .val (.ptr (.pair (.int .i64) (.pair (.int .i64) (.unit)))) (.own .fr)), (0, .val (.int .i64) .fr)], 11⟩, (.ret, ⟨[(2, .val (.int .i64) .fr)], 13⟩), [(.exit 0, ⟨[], 16⟩)], impl_periodOf_l0⟩
noncomputable def impl_periodOf_s : Spec := ⟨[.v (.pair (.int .i64) (.pair (.int .i64) (.unit))) .fr], Int, fun v => impl_periodOf v.1, fun r => ([.v (.int .i64) .fr r], [])⟩
noncomputable def impl_periodOf_ls : List LSum := [impl_periodOf_l0_s]
noncomputable def impl_periodOf_tab : List Row := [⟨155, [], [impl_Angle_double_s]⟩]
theorem impl_periodOf_t : ∀ r, r ∈ impl_periodOf_tab → RowIs Go.Proofs.Tryz.prog r := tab_cons (impl_Angle_double_is) (tab_nil)
theorem impl_periodOf_l0_r : RoundIs (mkCtx Go.K.Link.seat impl_periodOf_c impl_periodOf_tab) (sums impl_periodOf_ls) 0 (bodyAt (loopsOf 0 impl_periodOf_code) 0) impl_periodOf_l0_s := by
  rintro ⟨a, ⟨x, ⟨n, _⟩⟩⟩
  show _ = (impl_periodOf_l0 (a, (x, (n, ())))).bind fun r : (Ctl (((Int × (Int × Unit))) × ((Int × (Int × Unit))) × Int × Unit) ((Int × Unit) ⊕ (Unit))) => some (ctlVal impl_periodOf_l0_s r)
  simp only [impl_periodOf_l0, kb_ite, kb_some, kb_none, kb_bind, kb_alt]
  kernel_rfl
theorem impl_periodOf_rs : RoundsOK (mkCtx Go.K.Link.seat impl_periodOf_c impl_periodOf_tab) (sums impl_periodOf_ls) (loopsOf 0 impl_periodOf_code) impl_periodOf_ls := ⟨⟨rfl, rfl, impl_periodOf_l0_r⟩, trivial⟩
theorem impl_periodOf_e : ∀ v, (evFn (mkCtx Go.K.Link.seat impl_periodOf_c impl_periodOf_tab) (sums impl_periodOf_ls) 93 Go.Proofs.Tryz.f93 (encL impl_periodOf_s.a v)).run = (impl_periodOf_s.gen v).bind fun y => some (impl_periodOf_s.out y) := by
  rintro ⟨a, _⟩
  show _ = (impl_periodOf a).bind fun y : Int => some (impl_periodOf_s.out y)
  simp only [impl_periodOf, kb_ite, kb_some, kb_none, kb_bind, kb_alt]
  kernel_rfl
theorem impl_periodOf_is : FnIs Go.Proofs.Tryz.prog 93 (modeOf []) (phi [impl_periodOf_s]) := spec_is (c := impl_periodOf_c) seatOK impl_periodOf_t Go.Proofs.Tryz.func93 rfl (code := impl_periodOf_code) rfl rfl impl_periodOf_rs impl_periodOf_e
noncomputable def impl_isPeriod_code : Code := (Go.Proofs.Tryz.f94.body).getD .skip
def impl_isPeriod_c : Cfg := ⟨94, [], [], [], [], []⟩
noncomputable def impl_isPeriod_s : Spec := ⟨[.v (.int .i64) .fr], Bool, fun v => impl_isPeriod v.1, fun r => ([.v (.bool) .fr r], [])⟩
noncomputable def impl_isPeriod_ls : List LSum := []
noncomputable def impl_isPeriod_tab : List Row := [⟨137, [], [impl_within_s]⟩]
theorem impl_isPeriod_t : ∀ r, r ∈ impl_isPeriod_tab → RowIs Go.Proofs.Tryz.prog r := tab_cons (impl_within_is) (tab_nil)
theorem impl_isPeriod_rs : RoundsOK (mkCtx Go.K.Link.seat impl_isPeriod_c impl_isPeriod_tab) (sums impl_isPeriod_ls) (loopsOf 0 impl_isPeriod_code) impl_isPeriod_ls := trivial
theorem impl_isPeriod_e : ∀ v, (evFn (mkCtx Go.K.Link.seat impl_isPeriod_c impl_isPeriod_tab) (sums impl_isPeriod_ls) 94 Go.Proofs.Tryz.f94 (encL impl_isPeriod_s.a v)).run = (impl_isPeriod_s.gen v).bind fun y => some (impl_isPeriod_s.out y) := by
  rintro ⟨n, _⟩
  show _ = (impl_isPeriod n).bind fun y : Bool => some (impl_isPeriod_s.out y)
  simp only [impl_isPeriod, kb_ite, kb_some, kb_none, kb_bind, kb_alt]
  kernel_rfl
theorem impl_isPeriod_is : FnIs Go.Proofs.Tryz.prog 94 (modeOf []) (phi [impl_isPeriod_s]) := spec_is (c := impl_isPeriod_c) seatOK impl_isPeriod_t Go.Proofs.Tryz.func94 rfl (code := impl_isPeriod_code) rfl rfl impl_isPeriod_rs impl_isPeriod_e
noncomputable def impl_pairsOf_code : Code := (Go.Proofs.Tryz.f131.body).getD .skip
def impl_pairsOf_c : Cfg := ⟨131, [], [], [], [], []⟩
noncomputable def impl_anglesOfPeriod_code : Code := (Go.Proofs.Tryz.f138.body).getD .skip
def impl_anglesOfPeriod_c : Cfg := ⟨138, [], [[0, 3, 4, 10, 11, 24], [3, 24], [2, 3, 24, 26]], [], [], []⟩
noncomputable def impl_anglesOfPeriod_l0_s : LSum := ⟨0, ⟨[(0, .val (.int .i64) .fr), (2, .val (.sl 27 (.pair (.int .i64) (.pair (.int .i64) (.unit)))) (.own .fr)), (0, .val (.int .i64) .fr), (5, .val (.int .i64) .fr), (0, .val (.int .i64) .fr)], 15⟩, (.exit 0, ⟨[(3, .val (.sl 27 (.pair (.int .i64) (.pair (.int .i64) (.unit)))) (.own .fr))], 23⟩), [], impl_anglesOfPeriod_l0⟩
noncomputable def impl_anglesOfPeriod_s : Spec := ⟨[.v (.int .i64) .fr], (List (Int × (Int × Unit))), fun v => impl_anglesOfPeriod v.1, fun r => ([.v (.sl 27 (.pair (.int .i64) (.pair (.int .i64) (.unit)))) (.own .fr) r], [])⟩
noncomputable def impl_anglesOfPeriod_ls : List LSum := [impl_anglesOfPeriod_l0_s]
noncomputable def impl_anglesOfPeriod_tab : List Row := [⟨93, [], [impl_periodOf_s]⟩, ⟨164, [], [impl_angle_s]⟩]
theorem impl_anglesOfPeriod_t : ∀ r, r ∈ impl_anglesOfPeriod_tab → RowIs Go.Proofs.Tryz.prog r := tab_cons (impl_periodOf_is) (tab_cons (impl_angle_is) (tab_nil))
theorem impl_anglesOfPeriod_l0_r : RoundIs (mkCtx Go.K.Link.seat impl_anglesOfPeriod_c impl_anglesOfPeriod_tab) (sums impl_anglesOfPeriod_ls) 0 (bodyAt (loopsOf 0 impl_anglesOfPeriod_code) 0) impl_anglesOfPeriod_l0_s := by
  rintro ⟨n, ⟨out, ⟨den, ⟨t10, ⟨t11, _⟩⟩⟩⟩⟩
  show _ = (impl_anglesOfPeriod_l0 (n, (out, (den, (t10, (t11, ())))))).bind fun r : (Ctl (Int × (List (Int × (Int × Unit))) × Int × Int × Int × Unit) (((List (Int × (Int × Unit))) × Unit))) => some (ctlVal impl_anglesOfPeriod_l0_s r)
  simp only [impl_anglesOfPeriod_l0, kb_ite, kb_some, kb_none, kb_bind, kb_alt]
  kernel_rfl
theorem impl_anglesOfPeriod_rs : RoundsOK (mkCtx Go.K.Link.seat impl_anglesOfPeriod_c impl_anglesOfPeriod_tab) (sums impl_anglesOfPeriod_ls) (loopsOf 0 impl_anglesOfPeriod_code) impl_anglesOfPeriod_ls := ⟨⟨rfl, rfl, impl_anglesOfPeriod_l0_r⟩, trivial⟩
theorem impl_anglesOfPeriod_e : ∀ v, (evFn (mkCtx Go.K.Link.seat impl_anglesOfPeriod_c impl_anglesOfPeriod_tab) (sums impl_anglesOfPeriod_ls) 138 Go.Proofs.Tryz.f138 (encL impl_anglesOfPeriod_s.a v)).run = (impl_anglesOfPeriod_s.gen v).bind fun y => some (impl_anglesOfPeriod_s.out y) := by
  rintro ⟨n, _⟩
  show _ = (impl_anglesOfPeriod n).bind fun y : (List (Int × (Int × Unit))) => some (impl_anglesOfPeriod_s.out y)
  simp only [impl_anglesOfPeriod, kb_ite, kb_some, kb_none, kb_bind, kb_alt]
  kernel_rfl
theorem impl_anglesOfPeriod_is : FnIs Go.Proofs.Tryz.prog 138 (modeOf []) (phi [impl_anglesOfPeriod_s]) := spec_is (c := impl_anglesOfPeriod_c) seatOK impl_anglesOfPeriod_t Go.Proofs.Tryz.func138 rfl (code := impl_anglesOfPeriod_code) rfl rfl impl_anglesOfPeriod_rs impl_anglesOfPeriod_e
noncomputable def slices_IndexFunc__impl_Angle_impl_Angle_v2_code : Code := (Go.Proofs.Tryz.f191.body).getD .skip
def slices_IndexFunc__impl_Angle_impl_Angle_v2_c : Cfg := ⟨191, [], [[0, 1, 7, 8], [], [4]], [], [], []⟩
noncomputable def impl_pairsUpTo_f1_code : Code := (Go.Proofs.Tryz.f192.body).getD .skip
def impl_pairsUpTo_f1_c : Cfg := ⟨192, [], [], [], [], []⟩
noncomputable def impl_areAll_impl_RayPair_code : Code := (Go.Proofs.Tryz.f193.body).getD .skip
def impl_areAll_impl_RayPair_c : Cfg := ⟨193, [], [], [], [], []⟩
noncomputable def slices_ContainsFunc__impl_RayPair_impl_RayPair_code : Code := (Go.Proofs.Tryz.f206.body).getD .skip
def slices_ContainsFunc__impl_RayPair_impl_RayPair_c : Cfg := ⟨206, [], [], [], [], []⟩
noncomputable def slices_IndexFunc__impl_RayPair_impl_RayPair_code : Code := (Go.Proofs.Tryz.f133.body).getD .skip
def slices_IndexFunc__impl_RayPair_impl_RayPair_c : Cfg := ⟨133, [], [[0, 1, 7, 8], [], [4]], [], [], []⟩
noncomputable def impl_areAll_impl_RayPair_f1_code : Code := (Go.Proofs.Tryz.f207.body).getD .skip
def impl_areAll_impl_RayPair_f1_c : Cfg := ⟨207, [], [], [], [], []⟩
noncomputable def impl_pairsUpTo_f1_f1_code : Code := (Go.Proofs.Tryz.f194.body).getD .skip
def impl_pairsUpTo_f1_f1_c : Cfg := ⟨194, [], [], [], [], []⟩
noncomputable def impl_RayPair_leaf_code : Code := (Go.Proofs.Tryz.f142.body).getD .skip
def impl_RayPair_leaf_c : Cfg := ⟨142, [], [], [], [], []⟩
noncomputable def impl_RayPair_leaf_s : Spec := ⟨[.v (.pair (.pair (.int .i64) (.pair (.int .i64) (.unit))) (.pair (.pair (.int .i64) (.pair (.int .i64) (.unit))) (.unit))) .fr], ((Int × (Int × Unit)) × ((Int × (Int × Unit)) × Unit)), fun v => impl_RayPair_leaf v.1, fun r => ([.v (.pair (.pair (.int .i64) (.pair (.int .i64) (.unit))) (.pair (.pair (.int .i64) (.pair (.int .i64) (.unit))) (.unit))) .fr r], [])⟩
noncomputable def impl_RayPair_leaf_ls : List LSum := []
noncomputable def impl_RayPair_leaf_tab : List Row := []
theorem impl_RayPair_leaf_t : ∀ r, r ∈ impl_RayPair_leaf_tab → RowIs Go.Proofs.Tryz.prog r := tab_nil
theorem impl_RayPair_leaf_rs : RoundsOK (mkCtx Go.K.Link.seat impl_RayPair_leaf_c impl_RayPair_leaf_tab) (sums impl_RayPair_leaf_ls) (loopsOf 0 impl_RayPair_leaf_code) impl_RayPair_leaf_ls := trivial
theorem impl_RayPair_leaf_e : ∀ v, (evFn (mkCtx Go.K.Link.seat impl_RayPair_leaf_c impl_RayPair_leaf_tab) (sums impl_RayPair_leaf_ls) 142 Go.Proofs.Tryz.f142 (encL impl_RayPair_leaf_s.a v)).run = (impl_RayPair_leaf_s.gen v).bind fun y => some (impl_RayPair_leaf_s.out y) := by
  rintro ⟨p, _⟩
  show _ = (impl_RayPair_leaf p).bind fun y : ((Int × (Int × Unit)) × ((Int × (Int × Unit)) × Unit)) => some (impl_RayPair_leaf_s.out y)
  simp only [impl_RayPair_leaf, kb_ite, kb_some, kb_none, kb_bind, kb_alt]
  kernel_rfl
theorem impl_RayPair_leaf_is : FnIs Go.Proofs.Tryz.prog 142 (modeOf []) (phi [impl_RayPair_leaf_s]) := spec_is (c := impl_RayPair_leaf_c) seatOK impl_RayPair_leaf_t Go.Proofs.Tryz.func142 rfl (code := impl_RayPair_leaf_code) rfl rfl impl_RayPair_leaf_rs impl_RayPair_leaf_e
noncomputable def impl_Leaf_cross_code : Code := (Go.Proofs.Tryz.f143.body).getD .skip
def impl_Leaf_cross_c : Cfg := ⟨143, [], [], [], [], []⟩
noncomputable def impl_order_code : Code := (Go.Proofs.Tryz.f181.body).getD .skip
def impl_order_c : Cfg := ⟨181, [], [], [], [], []⟩
noncomputable def impl_Angle_minus_code : Code := (Go.Proofs.Tryz.f166.body).getD .skip
def impl_Angle_minus_c : Cfg := ⟨166, [], [], [], [], []⟩
noncomputable def impl_Angle_minus_s : Spec := ⟨[.v (.pair (.int .i64) (.pair (.int .i64) (.unit))) .fr, .v (.pair (.int .i64) (.pair (.int .i64) (.unit))) .fr], (Int × (Int × Unit)), fun v => impl_Angle_minus v.1 v.2.1, fun r => ([.v (.pair (.int .i64) (.pair (.int .i64) (.unit))) .fr r], [])⟩
noncomputable def impl_Angle_minus_ls : List LSum := []
noncomputable def impl_Angle_minus_tab : List Row := [⟨164, [], [impl_angle_s]⟩]
theorem impl_Angle_minus_t : ∀ r, r ∈ impl_Angle_minus_tab → RowIs Go.Proofs.Tryz.prog r := tab_cons (impl_angle_is) (tab_nil)
theorem impl_Angle_minus_rs : RoundsOK (mkCtx Go.K.Link.seat impl_Angle_minus_c impl_Angle_minus_tab) (sums impl_Angle_minus_ls) (loopsOf 0 impl_Angle_minus_code) impl_Angle_minus_ls := trivial
theorem impl_Angle_minus_e : ∀ v, (evFn (mkCtx Go.K.Link.seat impl_Angle_minus_c impl_Angle_minus_tab) (sums impl_Angle_minus_ls) 166 Go.Proofs.Tryz.f166 (encL impl_Angle_minus_s.a v)).run = (impl_Angle_minus_s.gen v).bind fun y => some (impl_Angle_minus_s.out y) := by
  rintro ⟨a, ⟨b, _⟩⟩
  show _ = (impl_Angle_minus a b).bind fun y : (Int × (Int × Unit)) => some (impl_Angle_minus_s.out y)
  simp only [impl_Angle_minus, kb_ite, kb_some, kb_none, kb_bind, kb_alt]
  kernel_rfl
theorem impl_Angle_minus_is : FnIs Go.Proofs.Tryz.prog 166 (modeOf []) (phi [impl_Angle_minus_s]) := spec_is (c := impl_Angle_minus_c) seatOK impl_Angle_minus_t Go.Proofs.Tryz.func166 rfl (code := impl_Angle_minus_code) rfl rfl impl_Angle_minus_rs impl_Angle_minus_e
noncomputable def impl_Angle_compare_code : Code := (Go.Proofs.Tryz.f114.body).getD .skip
def impl_Angle_compare_c : Cfg := ⟨114, [], [], [], [], []⟩
noncomputable def cmp_Compare_int64_code : Code := (Go.Proofs.Tryz.f165.body).getD .skip
def cmp_Compare_int64_c : Cfg := ⟨165, [], [], [], [], []⟩
noncomputable def cmp_isNaN_int64_code : Code := (Go.Proofs.Tryz.f189.body).getD .skip
def cmp_isNaN_int64_c : Cfg := ⟨189, [], [], [], [], []⟩
noncomputable def cmp_isNaN_int64_s : Spec := ⟨[.v (.int .i64) .fr], Bool, fun v => cmp_isNaN_int64 v.1, fun r => ([.v (.bool) .fr r], [])⟩
noncomputable def cmp_isNaN_int64_ls : List LSum := []
noncomputable def cmp_isNaN_int64_tab : List Row := []
theorem cmp_isNaN_int64_t : ∀ r, r ∈ cmp_isNaN_int64_tab → RowIs Go.Proofs.Tryz.prog r := tab_nil
theorem cmp_isNaN_int64_rs : RoundsOK (mkCtx Go.K.Link.seat cmp_isNaN_int64_c cmp_isNaN_int64_tab) (sums cmp_isNaN_int64_ls) (loopsOf 0 cmp_isNaN_int64_code) cmp_isNaN_int64_ls := trivial
theorem cmp_isNaN_int64_e : ∀ v, (evFn (mkCtx Go.K.Link.seat cmp_isNaN_int64_c cmp_isNaN_int64_tab) (sums cmp_isNaN_int64_ls) 189 Go.Proofs.Tryz.f189 (encL cmp_isNaN_int64_s.a v)).run = (cmp_isNaN_int64_s.gen v).bind fun y => some (cmp_isNaN_int64_s.out y) := by
  rintro ⟨x, _⟩
  show _ = (cmp_isNaN_int64 x).bind fun y : Bool => some (cmp_isNaN_int64_s.out y)
  simp only [cmp_isNaN_int64, kb_ite, kb_some, kb_none, kb_bind, kb_alt]
  kernel_rfl
theorem cmp_isNaN_int64_is : FnIs Go.Proofs.Tryz.prog 189 (modeOf []) (phi [cmp_isNaN_int64_s]) := spec_is (c := cmp_isNaN_int64_c) seatOK cmp_isNaN_int64_t Go.Proofs.Tryz.func189 rfl (code := cmp_isNaN_int64_code) rfl rfl cmp_isNaN_int64_rs cmp_isNaN_int64_e
noncomputable def cmp_Compare_int64_s : Spec := ⟨[.v (.int .i64) .fr, .v (.int .i64) .fr], Int, fun v => cmp_Compare_int64 v.1 v.2.1, fun r => ([.v (.int .i64) .fr r], [])⟩
noncomputable def cmp_Compare_int64_ls : List LSum := []
noncomputable def cmp_Compare_int64_tab : List Row := [⟨189, [], [cmp_isNaN_int64_s]⟩]
theorem cmp_Compare_int64_t : ∀ r, r ∈ cmp_Compare_int64_tab → RowIs Go.Proofs.Tryz.prog r := tab_cons (cmp_isNaN_int64_is) (tab_nil)
theorem cmp_Compare_int64_rs : RoundsOK (mkCtx Go.K.Link.seat cmp_Compare_int64_c cmp_Compare_int64_tab) (sums cmp_Compare_int64_ls) (loopsOf 0 cmp_Compare_int64_code) cmp_Compare_int64_ls := trivial
theorem cmp_Compare_int64_e : ∀ v, (evFn (mkCtx Go.K.Link.seat cmp_Compare_int64_c cmp_Compare_int64_tab) (sums cmp_Compare_int64_ls) 165 Go.Proofs.Tryz.f165 (encL cmp_Compare_int64_s.a v)).run = (cmp_Compare_int64_s.gen v).bind fun y => some (cmp_Compare_int64_s.out y) := by
  rintro ⟨x, ⟨y, _⟩⟩
  show _ = (cmp_Compare_int64 x y).bind fun y : Int => some (cmp_Compare_int64_s.out y)
  simp only [cmp_Compare_int64, kb_ite, kb_some, kb_none, kb_bind, kb_alt]
  kernel_rfl
theorem cmp_Compare_int64_is : FnIs Go.Proofs.Tryz.prog 165 (modeOf []) (phi [cmp_Compare_int64_s]) := spec_is (c := cmp_Compare_int64_c) seatOK cmp_Compare_int64_t Go.Proofs.Tryz.func165 rfl (code := cmp_Compare_int64_code) rfl rfl cmp_Compare_int64_rs cmp_Compare_int64_e
noncomputable def impl_Angle_compare_s : Spec := ⟨[.v (.pair (.int .i64) (.pair (.int .i64) (.unit))) .fr, .v (.pair (.int .i64) (.pair (.int .i64) (.unit))) .fr], Int, fun v => impl_Angle_compare v.1 v.2.1, fun r => ([.v (.int .i64) .fr r], [])⟩
noncomputable def impl_Angle_compare_ls : List LSum := []
noncomputable def impl_Angle_compare_tab : List Row := [⟨165, [], [cmp_Compare_int64_s]⟩]
theorem impl_Angle_compare_t : ∀ r, r ∈ impl_Angle_compare_tab → RowIs Go.Proofs.Tryz.prog r := tab_cons (cmp_Compare_int64_is) (tab_nil)
theorem impl_Angle_compare_rs : RoundsOK (mkCtx Go.K.Link.seat impl_Angle_compare_c impl_Angle_compare_tab) (sums impl_Angle_compare_ls) (loopsOf 0 impl_Angle_compare_code) impl_Angle_compare_ls := trivial
theorem impl_Angle_compare_e : ∀ v, (evFn (mkCtx Go.K.Link.seat impl_Angle_compare_c impl_Angle_compare_tab) (sums impl_Angle_compare_ls) 114 Go.Proofs.Tryz.f114 (encL impl_Angle_compare_s.a v)).run = (impl_Angle_compare_s.gen v).bind fun y => some (impl_Angle_compare_s.out y) := by
  rintro ⟨a, ⟨b, _⟩⟩
  show _ = (impl_Angle_compare a b).bind fun y : Int => some (impl_Angle_compare_s.out y)
  simp only [impl_Angle_compare, kb_ite, kb_some, kb_none, kb_bind, kb_alt]
  kernel_rfl
theorem impl_Angle_compare_is : FnIs Go.Proofs.Tryz.prog 114 (modeOf []) (phi [impl_Angle_compare_s]) := spec_is (c := impl_Angle_compare_c) seatOK impl_Angle_compare_t Go.Proofs.Tryz.func114 rfl (code := impl_Angle_compare_code) rfl rfl impl_Angle_compare_rs impl_Angle_compare_e
noncomputable def impl_order_s : Spec := ⟨[.v (.pair (.int .i64) (.pair (.int .i64) (.unit))) .fr, .v (.pair (.int .i64) (.pair (.int .i64) (.unit))) .fr, .v (.pair (.int .i64) (.pair (.int .i64) (.unit))) .fr], Int, fun v => impl_order v.1 v.2.1 v.2.2.1, fun r => ([.v (.int .i64) .fr r], [])⟩
noncomputable def impl_order_ls : List LSum := []
noncomputable def impl_order_tab : List Row := [⟨166, [], [impl_Angle_minus_s]⟩, ⟨114, [], [impl_Angle_compare_s]⟩]
theorem impl_order_t : ∀ r, r ∈ impl_order_tab → RowIs Go.Proofs.Tryz.prog r := tab_cons (impl_Angle_minus_is) (tab_cons (impl_Angle_compare_is) (tab_nil))
theorem impl_order_rs : RoundsOK (mkCtx Go.K.Link.seat impl_order_c impl_order_tab) (sums impl_order_ls) (loopsOf 0 impl_order_code) impl_order_ls := trivial
theorem impl_order_e : ∀ v, (evFn (mkCtx Go.K.Link.seat impl_order_c impl_order_tab) (sums impl_order_ls) 181 Go.Proofs.Tryz.f181 (encL impl_order_s.a v)).run = (impl_order_s.gen v).bind fun y => some (impl_order_s.out y) := by
  rintro ⟨a, ⟨b, ⟨c, _⟩⟩⟩
  show _ = (impl_order a b c).bind fun y : Int => some (impl_order_s.out y)
  simp only [impl_order, kb_ite, kb_some, kb_none, kb_bind, kb_alt]
  kernel_rfl
theorem impl_order_is : FnIs Go.Proofs.Tryz.prog 181 (modeOf []) (phi [impl_order_s]) := spec_is (c := impl_order_c) seatOK impl_order_t Go.Proofs.Tryz.func181 rfl (code := impl_order_code) rfl rfl impl_order_rs impl_order_e
noncomputable def impl_Leaf_cross_s : Spec := ⟨[.v (.pair (.pair (.int .i64) (.pair (.int .i64) (.unit))) (.pair (.pair (.int .i64) (.pair (.int .i64) (.unit))) (.unit))) .fr, .v (.pair (.pair (.int .i64) (.pair (.int .i64) (.unit))) (.pair (.pair (.int .i64) (.pair (.int .i64) (.unit))) (.unit))) .fr], Bool, fun v => impl_Leaf_cross v.1 v.2.1, fun r => ([.v (.bool) .fr r], [])⟩
noncomputable def impl_Leaf_cross_ls : List LSum := []
noncomputable def impl_Leaf_cross_tab : List Row := [⟨181, [], [impl_order_s]⟩]
theorem impl_Leaf_cross_t : ∀ r, r ∈ impl_Leaf_cross_tab → RowIs Go.Proofs.Tryz.prog r := tab_cons (impl_order_is) (tab_nil)
theorem impl_Leaf_cross_rs : RoundsOK (mkCtx Go.K.Link.seat impl_Leaf_cross_c impl_Leaf_cross_tab) (sums impl_Leaf_cross_ls) (loopsOf 0 impl_Leaf_cross_code) impl_Leaf_cross_ls := trivial
theorem impl_Leaf_cross_e : ∀ v, (evFn (mkCtx Go.K.Link.seat impl_Leaf_cross_c impl_Leaf_cross_tab) (sums impl_Leaf_cross_ls) 143 Go.Proofs.Tryz.f143 (encL impl_Leaf_cross_s.a v)).run = (impl_Leaf_cross_s.gen v).bind fun y => some (impl_Leaf_cross_s.out y) := by
  rintro ⟨l, ⟨m, _⟩⟩
  show _ = (impl_Leaf_cross l m).bind fun y : Bool => some (impl_Leaf_cross_s.out y)
  simp only [impl_Leaf_cross, kb_ite, kb_some, kb_none, kb_bind, kb_alt]
  kernel_rfl
theorem impl_Leaf_cross_is : FnIs Go.Proofs.Tryz.prog 143 (modeOf []) (phi [impl_Leaf_cross_s]) := spec_is (c := impl_Leaf_cross_c) seatOK impl_Leaf_cross_t Go.Proofs.Tryz.func143 rfl (code := impl_Leaf_cross_code) rfl rfl impl_Leaf_cross_rs impl_Leaf_cross_e
noncomputable def impl_pairsUpTo_f1_f1_s : Spec := ⟨[.v (.pair (.pair (.int .i64) (.pair (.int .i64) (.unit))) (.pair (.pair (.int .i64) (.pair (.int .i64) (.unit))) (.unit))) .fr, .v (.ptr (.pair (.pair (.int .i64) (.pair (.int .i64) (.unit))) (.pair (.pair (.int .i64) (.pair (.int .i64) (.unit))) (.unit)))) .fr], Bool, fun v => impl_pairsUpTo_f1_f1 v.1 v.2.1, fun r => ([.v (.bool) .fr r], [])⟩
noncomputable def impl_pairsUpTo_f1_f1_ls : List LSum := []
noncomputable def impl_pairsUpTo_f1_f1_tab : List Row := [⟨142, [], [impl_RayPair_leaf_s]⟩, ⟨143, [], [impl_Leaf_cross_s]⟩]
theorem impl_pairsUpTo_f1_f1_t : ∀ r, r ∈ impl_pairsUpTo_f1_f1_tab → RowIs Go.Proofs.Tryz.prog r := tab_cons (impl_RayPair_leaf_is) (tab_cons (impl_Leaf_cross_is) (tab_nil))
theorem impl_pairsUpTo_f1_f1_rs : RoundsOK (mkCtx Go.K.Link.seat impl_pairsUpTo_f1_f1_c impl_pairsUpTo_f1_f1_tab) (sums impl_pairsUpTo_f1_f1_ls) (loopsOf 0 impl_pairsUpTo_f1_f1_code) impl_pairsUpTo_f1_f1_ls := trivial
theorem impl_pairsUpTo_f1_f1_e : ∀ v, (evFn (mkCtx Go.K.Link.seat impl_pairsUpTo_f1_f1_c impl_pairsUpTo_f1_f1_tab) (sums impl_pairsUpTo_f1_f1_ls) 194 Go.Proofs.Tryz.f194 (encL impl_pairsUpTo_f1_f1_s.a v)).run = (impl_pairsUpTo_f1_f1_s.gen v).bind fun y => some (impl_pairsUpTo_f1_f1_s.out y) := by
  rintro ⟨p, ⟨t1, _⟩⟩
  show _ = (impl_pairsUpTo_f1_f1 p t1).bind fun y : Bool => some (impl_pairsUpTo_f1_f1_s.out y)
  simp only [impl_pairsUpTo_f1_f1, kb_ite, kb_some, kb_none, kb_bind, kb_alt]
  kernel_rfl
theorem impl_pairsUpTo_f1_f1_is : FnIs Go.Proofs.Tryz.prog 194 (modeOf []) (phi [impl_pairsUpTo_f1_f1_s]) := spec_is (c := impl_pairsUpTo_f1_f1_c) seatOK impl_pairsUpTo_f1_f1_t Go.Proofs.Tryz.func194 rfl (code := impl_pairsUpTo_f1_f1_code) rfl rfl impl_pairsUpTo_f1_f1_rs impl_pairsUpTo_f1_f1_e
noncomputable def impl_areAll_impl_RayPair_f1_s : Spec := ⟨[.v (.pair (.pair (.int .i64) (.pair (.int .i64) (.unit))) (.pair (.pair (.int .i64) (.pair (.int .i64) (.unit))) (.unit))) .fr, .pfn 194 [] [.v (.ptr (.pair (.pair (.int .i64) (.pair (.int .i64) (.unit))) (.pair (.pair (.int .i64) (.pair (.int .i64) (.unit))) (.unit)))) .fr]], Bool, fun v => impl_areAll_impl_RayPair_f1 v.1 v.2.1.2.1, fun r => ([.v (.bool) .fr r], [])⟩
noncomputable def impl_areAll_impl_RayPair_f1_ls : List LSum := []
noncomputable def impl_areAll_impl_RayPair_f1_tab : List Row := [⟨194, [], [impl_pairsUpTo_f1_f1_s]⟩]
theorem impl_areAll_impl_RayPair_f1_t : ∀ r, r ∈ impl_areAll_impl_RayPair_f1_tab → RowIs Go.Proofs.Tryz.prog r := tab_cons (impl_pairsUpTo_f1_f1_is) (tab_nil)
theorem impl_areAll_impl_RayPair_f1_rs : RoundsOK (mkCtx Go.K.Link.seat impl_areAll_impl_RayPair_f1_c impl_areAll_impl_RayPair_f1_tab) (sums impl_areAll_impl_RayPair_f1_ls) (loopsOf 0 impl_areAll_impl_RayPair_f1_code) impl_areAll_impl_RayPair_f1_ls := trivial
theorem impl_areAll_impl_RayPair_f1_e : ∀ v, (evFn (mkCtx Go.K.Link.seat impl_areAll_impl_RayPair_f1_c impl_areAll_impl_RayPair_f1_tab) (sums impl_areAll_impl_RayPair_f1_ls) 207 Go.Proofs.Tryz.f207 (encL impl_areAll_impl_RayPair_f1_s.a v)).run = (impl_areAll_impl_RayPair_f1_s.gen v).bind fun y => some (impl_areAll_impl_RayPair_f1_s.out y) := by
  rintro ⟨x, ⟨⟨_, ⟨t1_0, _⟩⟩, _⟩⟩
  show _ = (impl_areAll_impl_RayPair_f1 x t1_0).bind fun y : Bool => some (impl_areAll_impl_RayPair_f1_s.out y)
  simp only [impl_areAll_impl_RayPair_f1, kb_ite, kb_some, kb_none, kb_bind, kb_alt]
  kernel_rfl
theorem impl_areAll_impl_RayPair_f1_is : FnIs Go.Proofs.Tryz.prog 207 (modeOf []) (phi [impl_areAll_impl_RayPair_f1_s]) := spec_is (c := impl_areAll_impl_RayPair_f1_c) seatOK impl_areAll_impl_RayPair_f1_t Go.Proofs.Tryz.func207 rfl (code := impl_areAll_impl_RayPair_f1_code) rfl rfl impl_areAll_impl_RayPair_f1_rs impl_areAll_impl_RayPair_f1_e
noncomputable def slices_IndexFunc__impl_RayPair_impl_RayPair_l0_s : LSum := ⟨0, ⟨[(0, .val (.sl 47 (.pair (.pair (.int .i64) (.pair (.int .i64) (.unit))) (.pair (.pair (.int .i64) (.pair (.int .i64) (.unit))) (.unit)))) .fr), (0, .fnl 207 [] [.arg (.pfn 194 [] [.v (.ptr (.pair (.pair (.int .i64) (.pair (.int .i64) (.unit))) (.pair (.pair (.int .i64) (.pair (.int .i64) (.unit))) (.unit)))) .fr])]), (5, .val (.int .i64) .fr), (0, .val (.int .i64) .fr)], 10⟩, (.ret, ⟨[(4, .val (.int .i64) .fr)], 14⟩), [(.exit 0, ⟨[], 19⟩)], slices_IndexFunc__impl_RayPair_impl_RayPair_l0⟩
noncomputable def slices_IndexFunc__impl_RayPair_impl_RayPair_s : Spec := ⟨[.v (.sl 47 (.pair (.pair (.int .i64) (.pair (.int .i64) (.unit))) (.pair (.pair (.int .i64) (.pair (.int .i64) (.unit))) (.unit)))) .fr, .fn 207 [] [.pfn 194 [] [.v (.ptr (.pair (.pair (.int .i64) (.pair (.int .i64) (.unit))) (.pair (.pair (.int .i64) (.pair (.int .i64) (.unit))) (.unit)))) .fr]]], Int, fun v => slices_IndexFunc__impl_RayPair_impl_RayPair v.1 v.2.1.2.1.2.1, fun r => ([.v (.int .i64) .fr r], [])⟩
noncomputable def slices_IndexFunc__impl_RayPair_impl_RayPair_ls : List LSum := [slices_IndexFunc__impl_RayPair_impl_RayPair_l0_s]
noncomputable def slices_IndexFunc__impl_RayPair_impl_RayPair_tab : List Row := [⟨207, [], [impl_areAll_impl_RayPair_f1_s]⟩]
theorem slices_IndexFunc__impl_RayPair_impl_RayPair_t : ∀ r, r ∈ slices_IndexFunc__impl_RayPair_impl_RayPair_tab → RowIs Go.Proofs.Tryz.prog r := tab_cons (impl_areAll_impl_RayPair_f1_is) (tab_nil)
theorem slices_IndexFunc__impl_RayPair_impl_RayPair_l0_r : RoundIs (mkCtx Go.K.Link.seat slices_IndexFunc__impl_RayPair_impl_RayPair_c slices_IndexFunc__impl_RayPair_impl_RayPair_tab) (sums slices_IndexFunc__impl_RayPair_impl_RayPair_ls) 0 (bodyAt (loopsOf 0 slices_IndexFunc__impl_RayPair_impl_RayPair_code) 0) slices_IndexFunc__impl_RayPair_impl_RayPair_l0_s := by
  rintro ⟨s, ⟨_, ⟨⟨_, ⟨f, _⟩⟩, _⟩, ⟨t7, ⟨t8, _⟩⟩⟩⟩
  show _ = (slices_IndexFunc__impl_RayPair_impl_RayPair_l0 (s, ((), (((), (f, ())), ()), (t7, (t8, ()))))).bind fun r : (Ctl ((List ((Int × (Int × Unit)) × ((Int × (Int × Unit)) × Unit))) × Unit × ((Unit × (((Int × (Int × Unit)) × ((Int × (Int × Unit)) × Unit)) × Unit)) × Unit) × Int × Int × Unit) ((Int × Unit) ⊕ (Unit))) => some (ctlVal slices_IndexFunc__impl_RayPair_impl_RayPair_l0_s r)
  simp only [slices_IndexFunc__impl_RayPair_impl_RayPair_l0, kb_ite, kb_some, kb_none, kb_bind, kb_alt]
  kernel_rfl
theorem slices_IndexFunc__impl_RayPair_impl_RayPair_rs : RoundsOK (mkCtx Go.K.Link.seat slices_IndexFunc__impl_RayPair_impl_RayPair_c slices_IndexFunc__impl_RayPair_impl_RayPair_tab) (sums slices_IndexFunc__impl_RayPair_impl_RayPair_ls) (loopsOf 0 slices_IndexFunc__impl_RayPair_impl_RayPair_code) slices_IndexFunc__impl_RayPair_impl_RayPair_ls := ⟨⟨rfl, rfl, slices_IndexFunc__impl_RayPair_impl_RayPair_l0_r⟩, trivial⟩
theorem slices_IndexFunc__impl_RayPair_impl_RayPair_e : ∀ v, (evFn (mkCtx Go.K.Link.seat slices_IndexFunc__impl_RayPair_impl_RayPair_c slices_IndexFunc__impl_RayPair_impl_RayPair_tab) (sums slices_IndexFunc__impl_RayPair_impl_RayPair_ls) 133 Go.Proofs.Tryz.f133 (encL slices_IndexFunc__impl_RayPair_impl_RayPair_s.a v)).run = (slices_IndexFunc__impl_RayPair_impl_RayPair_s.gen v).bind fun y => some (slices_IndexFunc__impl_RayPair_impl_RayPair_s.out y) := by
  rintro ⟨s, ⟨⟨_, ⟨⟨_, ⟨f_0_1, _⟩⟩, _⟩⟩, _⟩⟩
  show _ = (slices_IndexFunc__impl_RayPair_impl_RayPair s f_0_1).bind fun y : Int => some (slices_IndexFunc__impl_RayPair_impl_RayPair_s.out y)
  simp only [slices_IndexFunc__impl_RayPair_impl_RayPair, kb_ite, kb_some, kb_none, kb_bind, kb_alt]
  kernel_rfl
theorem slices_IndexFunc__impl_RayPair_impl_RayPair_is : FnIs Go.Proofs.Tryz.prog 133 (modeOf []) (phi [slices_IndexFunc__impl_RayPair_impl_RayPair_s]) := spec_is (c := slices_IndexFunc__impl_RayPair_impl_RayPair_c) seatOK slices_IndexFunc__impl_RayPair_impl_RayPair_t Go.Proofs.Tryz.func133 rfl (code := slices_IndexFunc__impl_RayPair_impl_RayPair_code) rfl rfl slices_IndexFunc__impl_RayPair_impl_RayPair_rs slices_IndexFunc__impl_RayPair_impl_RayPair_e
noncomputable def slices_ContainsFunc__impl_RayPair_impl_RayPair_s : Spec := ⟨[.v (.sl 47 (.pair (.pair (.int .i64) (.pair (.int .i64) (.unit))) (.pair (.pair (.int .i64) (.pair (.int .i64) (.unit))) (.unit)))) .fr, .fn 207 [] [.pfn 194 [] [.v (.ptr (.pair (.pair (.int .i64) (.pair (.int .i64) (.unit))) (.pair (.pair (.int .i64) (.pair (.int .i64) (.unit))) (.unit)))) .fr]]], Bool, fun v => slices_ContainsFunc__impl_RayPair_impl_RayPair v.1 v.2.1.2.1.2.1, fun r => ([.v (.bool) .fr r], [])⟩
noncomputable def slices_ContainsFunc__impl_RayPair_impl_RayPair_ls : List LSum := []
noncomputable def slices_ContainsFunc__impl_RayPair_impl_RayPair_tab : List Row := [⟨133, [], [slices_IndexFunc__impl_RayPair_impl_RayPair_s]⟩]
theorem slices_ContainsFunc__impl_RayPair_impl_RayPair_t : ∀ r, r ∈ slices_ContainsFunc__impl_RayPair_impl_RayPair_tab → RowIs Go.Proofs.Tryz.prog r := tab_cons (slices_IndexFunc__impl_RayPair_impl_RayPair_is) (tab_nil)
theorem slices_ContainsFunc__impl_RayPair_impl_RayPair_rs : RoundsOK (mkCtx Go.K.Link.seat slices_ContainsFunc__impl_RayPair_impl_RayPair_c slices_ContainsFunc__impl_RayPair_impl_RayPair_tab) (sums slices_ContainsFunc__impl_RayPair_impl_RayPair_ls) (loopsOf 0 slices_ContainsFunc__impl_RayPair_impl_RayPair_code) slices_ContainsFunc__impl_RayPair_impl_RayPair_ls := trivial
theorem slices_ContainsFunc__impl_RayPair_impl_RayPair_e : ∀ v, (evFn (mkCtx Go.K.Link.seat slices_ContainsFunc__impl_RayPair_impl_RayPair_c slices_ContainsFunc__impl_RayPair_impl_RayPair_tab) (sums slices_ContainsFunc__impl_RayPair_impl_RayPair_ls) 206 Go.Proofs.Tryz.f206 (encL slices_ContainsFunc__impl_RayPair_impl_RayPair_s.a v)).run = (slices_ContainsFunc__impl_RayPair_impl_RayPair_s.gen v).bind fun y => some (slices_ContainsFunc__impl_RayPair_impl_RayPair_s.out y) := by
  rintro ⟨s, ⟨⟨_, ⟨⟨_, ⟨f_0_1, _⟩⟩, _⟩⟩, _⟩⟩
  show _ = (slices_ContainsFunc__impl_RayPair_impl_RayPair s f_0_1).bind fun y : Bool => some (slices_ContainsFunc__impl_RayPair_impl_RayPair_s.out y)
  simp only [slices_ContainsFunc__impl_RayPair_impl_RayPair, kb_ite, kb_some, kb_none, kb_bind, kb_alt]
  kernel_rfl
theorem slices_ContainsFunc__impl_RayPair_impl_RayPair_is : FnIs Go.Proofs.Tryz.prog 206 (modeOf []) (phi [slices_ContainsFunc__impl_RayPair_impl_RayPair_s]) := spec_is (c := slices_ContainsFunc__impl_RayPair_impl_RayPair_c) seatOK slices_ContainsFunc__impl_RayPair_impl_RayPair_t Go.Proofs.Tryz.func206 rfl (code := slices_ContainsFunc__impl_RayPair_impl_RayPair_code) rfl rfl slices_ContainsFunc__impl_RayPair_impl_RayPair_rs slices_ContainsFunc__impl_RayPair_impl_RayPair_e
noncomputable def impl_areAll_impl_RayPair_s : Spec := ⟨[.v (.sl 47 (.pair (.pair (.int .i64) (.pair (.int .i64) (.unit))) (.pair (.pair (.int .i64) (.pair (.int .i64) (.unit))) (.unit)))) .fr, .fn 194 [] [.v (.ptr (.pair (.pair (.int .i64) (.pair (.int .i64) (.unit))) (.pair (.pair (.int .i64) (.pair (.int .i64) (.unit))) (.unit)))) .fr]], Bool, fun v => impl_areAll_impl_RayPair v.1 v.2.1.2.1, fun r => ([.v (.bool) .fr r], [])⟩
noncomputable def impl_areAll_impl_RayPair_ls : List LSum := []
noncomputable def impl_areAll_impl_RayPair_tab : List Row := [⟨206, [], [slices_ContainsFunc__impl_RayPair_impl_RayPair_s]⟩]
theorem impl_areAll_impl_RayPair_t : ∀ r, r ∈ impl_areAll_impl_RayPair_tab → RowIs Go.Proofs.Tryz.prog r := tab_cons (slices_ContainsFunc__impl_RayPair_impl_RayPair_is) (tab_nil)
theorem impl_areAll_impl_RayPair_rs : RoundsOK (mkCtx Go.K.Link.seat impl_areAll_impl_RayPair_c impl_areAll_impl_RayPair_tab) (sums impl_areAll_impl_RayPair_ls) (loopsOf 0 impl_areAll_impl_RayPair_code) impl_areAll_impl_RayPair_ls := trivial
theorem impl_areAll_impl_RayPair_e : ∀ v, (evFn (mkCtx Go.K.Link.seat impl_areAll_impl_RayPair_c impl_areAll_impl_RayPair_tab) (sums impl_areAll_impl_RayPair_ls) 193 Go.Proofs.Tryz.f193 (encL impl_areAll_impl_RayPair_s.a v)).run = (impl_areAll_impl_RayPair_s.gen v).bind fun y => some (impl_areAll_impl_RayPair_s.out y) := by
  rintro ⟨list, ⟨⟨_, ⟨is'_0, _⟩⟩, _⟩⟩
  show _ = (impl_areAll_impl_RayPair list is'_0).bind fun y : Bool => some (impl_areAll_impl_RayPair_s.out y)
  simp only [impl_areAll_impl_RayPair, kb_ite, kb_some, kb_none, kb_bind, kb_alt]
  kernel_rfl
theorem impl_areAll_impl_RayPair_is : FnIs Go.Proofs.Tryz.prog 193 (modeOf []) (phi [impl_areAll_impl_RayPair_s]) := spec_is (c := impl_areAll_impl_RayPair_c) seatOK impl_areAll_impl_RayPair_t Go.Proofs.Tryz.func193 rfl (code := impl_areAll_impl_RayPair_code) rfl rfl impl_areAll_impl_RayPair_rs impl_areAll_impl_RayPair_e
noncomputable def impl_pairsUpTo_f1_s : Spec := ⟨[.v (.pair (.int .i64) (.pair (.int .i64) (.unit))) .fr, .v (.ptr (.sl 27 (.pair (.int .i64) (.pair (.int .i64) (.unit))))) .fr, .v (.ptr (.sl 47 (.pair (.pair (.int .i64) (.pair (.int .i64) (.unit))) (.pair (.pair (.int .i64) (.pair (.int .i64) (.unit))) (.unit))))) .fr], Bool, fun v => impl_pairsUpTo_f1 v.1 v.2.1 v.2.2.1, fun r => ([.v (.bool) .fr r], [])⟩
noncomputable def impl_pairsUpTo_f1_ls : List LSum := []
noncomputable def impl_pairsUpTo_f1_tab : List Row := [⟨193, [], [impl_areAll_impl_RayPair_s]⟩]
theorem impl_pairsUpTo_f1_t : ∀ r, r ∈ impl_pairsUpTo_f1_tab → RowIs Go.Proofs.Tryz.prog r := tab_cons (impl_areAll_impl_RayPair_is) (tab_nil)
theorem impl_pairsUpTo_f1_rs : RoundsOK (mkCtx Go.K.Link.seat impl_pairsUpTo_f1_c impl_pairsUpTo_f1_tab) (sums impl_pairsUpTo_f1_ls) (loopsOf 0 impl_pairsUpTo_f1_code) impl_pairsUpTo_f1_ls := trivial
theorem impl_pairsUpTo_f1_e : ∀ v, (evFn (mkCtx Go.K.Link.seat impl_pairsUpTo_f1_c impl_pairsUpTo_f1_tab) (sums impl_pairsUpTo_f1_ls) 192 Go.Proofs.Tryz.f192 (encL impl_pairsUpTo_f1_s.a v)).run = (impl_pairsUpTo_f1_s.gen v).bind fun y => some (impl_pairsUpTo_f1_s.out y) := by
  rintro ⟨a, ⟨t1, ⟨t2, _⟩⟩⟩
  show _ = (impl_pairsUpTo_f1 a t1 t2).bind fun y : Bool => some (impl_pairsUpTo_f1_s.out y)
  simp only [impl_pairsUpTo_f1, kb_ite, kb_some, kb_none, kb_bind, kb_alt]
  kernel_rfl
theorem impl_pairsUpTo_f1_is : FnIs Go.Proofs.Tryz.prog 192 (modeOf []) (phi [impl_pairsUpTo_f1_s]) := spec_is (c := impl_pairsUpTo_f1_c) seatOK impl_pairsUpTo_f1_t Go.Proofs.Tryz.func192 rfl (code := impl_pairsUpTo_f1_code) rfl rfl impl_pairsUpTo_f1_rs impl_pairsUpTo_f1_e
noncomputable def slices_IndexFunc__impl_Angle_impl_Angle_v2_l0_s : LSum := ⟨0, ⟨[(0, .val (.sl 27 (.pair (.int .i64) (.pair (.int .i64) (.unit)))) .fr), (0, .fnl 192 [] [.arg (.v (.ptr (.sl 27 (.pair (.int .i64) (.pair (.int .i64) (.unit))))) .fr), .arg (.v (.ptr (.sl 47 (.pair (.pair (.int .i64) (.pair (.int .i64) (.unit))) (.pair (.pair (.int .i64) (.pair (.int .i64) (.unit))) (.unit))))) .fr)]), (5, .val (.int .i64) .fr), (0, .val (.int .i64) .fr)], 10⟩, (.ret, ⟨[(4, .val (.int .i64) .fr)], 14⟩), [(.exit 0, ⟨[], 19⟩)], slices_IndexFunc__impl_Angle_impl_Angle_v2_l0⟩
noncomputable def slices_IndexFunc__impl_Angle_impl_Angle_v2_s : Spec := ⟨[.v (.sl 27 (.pair (.int .i64) (.pair (.int .i64) (.unit)))) .fr, .fn 192 [] [.v (.ptr (.sl 27 (.pair (.int .i64) (.pair (.int .i64) (.unit))))) .fr, .v (.ptr (.sl 47 (.pair (.pair (.int .i64) (.pair (.int .i64) (.unit))) (.pair (.pair (.int .i64) (.pair (.int .i64) (.unit))) (.unit))))) .fr]], Int, fun v => slices_IndexFunc__impl_Angle_impl_Angle_v2 v.1 v.2.1.2.1 v.2.1.2.2.1, fun r => ([.v (.int .i64) .fr r], [])⟩
noncomputable def slices_IndexFunc__impl_Angle_impl_Angle_v2_ls : List LSum := [slices_IndexFunc__impl_Angle_impl_Angle_v2_l0_s]
noncomputable def slices_IndexFunc__impl_Angle_impl_Angle_v2_tab : List Row := [⟨192, [], [impl_pairsUpTo_f1_s]⟩]
theorem slices_IndexFunc__impl_Angle_impl_Angle_v2_t : ∀ r, r ∈ slices_IndexFunc__impl_Angle_impl_Angle_v2_tab → RowIs Go.Proofs.Tryz.prog r := tab_cons (impl_pairsUpTo_f1_is) (tab_nil)
theorem slices_IndexFunc__impl_Angle_impl_Angle_v2_l0_r : RoundIs (mkCtx Go.K.Link.seat slices_IndexFunc__impl_Angle_impl_Angle_v2_c slices_IndexFunc__impl_Angle_impl_Angle_v2_tab) (sums slices_IndexFunc__impl_Angle_impl_Angle_v2_ls) 0 (bodyAt (loopsOf 0 slices_IndexFunc__impl_Angle_impl_Angle_v2_code) 0) slices_IndexFunc__impl_Angle_impl_Angle_v2_l0_s := by
  rintro ⟨s, ⟨_, ⟨f_0, ⟨f_1, _⟩⟩, ⟨t7, ⟨t8, _⟩⟩⟩⟩
  show _ = (slices_IndexFunc__impl_Angle_impl_Angle_v2_l0 (s, ((), (f_0, (f_1, ())), (t7, (t8, ()))))).bind fun r : (Ctl ((List (Int × (Int × Unit))) × Unit × (List (Int × (Int × Unit)) × (List ((Int × (Int × Unit)) × ((Int × (Int × Unit)) × Unit)) × Unit)) × Int × Int × Unit) ((Int × Unit) ⊕ (Unit))) => some (ctlVal slices_IndexFunc__impl_Angle_impl_Angle_v2_l0_s r)
  simp only [slices_IndexFunc__impl_Angle_impl_Angle_v2_l0, kb_ite, kb_some, kb_none, kb_bind, kb_alt]
  kernel_rfl
theorem slices_IndexFunc__impl_Angle_impl_Angle_v2_rs : RoundsOK (mkCtx Go.K.Link.seat slices_IndexFunc__impl_Angle_impl_Angle_v2_c slices_IndexFunc__impl_Angle_impl_Angle_v2_tab) (sums slices_IndexFunc__impl_Angle_impl_Angle_v2_ls) (loopsOf 0 slices_IndexFunc__impl_Angle_impl_Angle_v2_code) slices_IndexFunc__impl_Angle_impl_Angle_v2_ls := ⟨⟨rfl, rfl, slices_IndexFunc__impl_Angle_impl_Angle_v2_l0_r⟩, trivial⟩
theorem slices_IndexFunc__impl_Angle_impl_Angle_v2_e : ∀ v, (evFn (mkCtx Go.K.Link.seat slices_IndexFunc__impl_Angle_impl_Angle_v2_c slices_IndexFunc__impl_Angle_impl_Angle_v2_tab) (sums slices_IndexFunc__impl_Angle_impl_Angle_v2_ls) 191 Go.Proofs.Tryz.f191 (encL slices_IndexFunc__impl_Angle_impl_Angle_v2_s.a v)).run = (slices_IndexFunc__impl_Angle_impl_Angle_v2_s.gen v).bind fun y => some (slices_IndexFunc__impl_Angle_impl_Angle_v2_s.out y) := by
  rintro ⟨s, ⟨⟨_, ⟨f_0, ⟨f_1, _⟩⟩⟩, _⟩⟩
  show _ = (slices_IndexFunc__impl_Angle_impl_Angle_v2 s f_0 f_1).bind fun y : Int => some (slices_IndexFunc__impl_Angle_impl_Angle_v2_s.out y)
  simp only [slices_IndexFunc__impl_Angle_impl_Angle_v2, kb_ite, kb_some, kb_none, kb_bind, kb_alt]
  kernel_rfl
theorem slices_IndexFunc__impl_Angle_impl_Angle_v2_is : FnIs Go.Proofs.Tryz.prog 191 (modeOf []) (phi [slices_IndexFunc__impl_Angle_impl_Angle_v2_s]) := spec_is (c := slices_IndexFunc__impl_Angle_impl_Angle_v2_c) seatOK slices_IndexFunc__impl_Angle_impl_Angle_v2_t Go.Proofs.Tryz.func191 rfl (code := slices_IndexFunc__impl_Angle_impl_Angle_v2_code) rfl rfl slices_IndexFunc__impl_Angle_impl_Angle_v2_rs slices_IndexFunc__impl_Angle_impl_Angle_v2_e
theorem impl_pairsUpTo_L : PrTy Go.Proofs.Tryz.prog ⟨2, 3, 4, 61, 27, 37, 47, 100, 138, 191, 192, 195⟩ := ⟨⟨seatOK.mixed, ⟨Go.Proofs.Tryz.underlying61, by kernel_rfl, Go.Proofs.Tryz.isAgg61, Go.Proofs.Tryz.sizeOf61, Go.Proofs.Tryz.sizeOf27, by decide, by decide⟩, Go.Proofs.Tryz.underlying3, Go.Proofs.Tryz.underlying4, Go.Proofs.Tryz.isAgg3, Go.Proofs.Tryz.isAgg4, Go.Proofs.Tryz.sizeOf3, Go.Proofs.Tryz.sizeOf4, Go.Proofs.Tryz.zeroValue27, rfl, by simp [Value.cells, Value.oneCell']⟩, ⟨Go.Proofs.Tryz.underlying37, by kernel_rfl, Go.Proofs.Tryz.isAgg37, Go.Proofs.Tryz.sizeOf37, Go.Proofs.Tryz.sizeOf47, by decide, by decide⟩, Go.Proofs.Tryz.underlying2, Go.Proofs.Tryz.isAgg2, Go.Proofs.Tryz.sizeOf2, Go.Proofs.Tryz.isAgg27, Go.Proofs.Tryz.zeroValue61, Go.Proofs.Tryz.zeroValue37, Go.Proofs.Tryz.isAgg47, Go.Proofs.Tryz.sizeOf47, Go.Proofs.Tryz.zeroValue47, ⟨_, _, Go.Proofs.Tryz.underlying47, rfl, rfl, rfl, rfl⟩⟩
noncomputable def impl_pairsUpTo_s : Spec := ⟨[.v (.int .i64) .fr], List ((Int × (Int × Unit)) × ((Int × (Int × Unit)) × Unit)), fun v => impl_pairsUpTo v.1, fun r => ([.v (.sl 47 (.pair (.pair (.int .i64) (.pair (.int .i64) (.unit))) (.pair (.pair (.int .i64) (.pair (.int .i64) (.unit))) (.unit)))) (.own .fr) r], [])⟩
theorem impl_pairsUpTo_is : FnIs Go.Proofs.Tryz.prog 170 (modeOf []) (phi [impl_pairsUpTo_s]) := pairs_is (n := ⟨2, 3, 4, 61, 27, 37, 47, 100, 138, 191, 192, 195⟩) impl_pairsUpTo_L Go.Proofs.Tryz.func170 rfl rfl rfl rfl Go.Proofs.Tryz.func195 rfl rfl rfl rfl ⟨_, Go.Proofs.Tryz.func138, rfl, rfl⟩ ⟨_, Go.Proofs.Tryz.func191, rfl, rfl⟩ (A := fun p => impl_anglesOfPeriod p) (I := fun xs ys ps => slices_IndexFunc__impl_Angle_impl_Angle_v2 xs ys ps) impl_anglesOfPeriod_is (fun p xs h => by
  have e : (phi [impl_anglesOfPeriod_s] [.v (.int .i64) .fr p]).run = (impl_anglesOfPeriod p).bind fun r => some ([.v (.sl 27 (.pair (.int .i64) (.pair (.int .i64) (.unit)))) (.own .fr) r], []) := by kernel_rfl
  rw [e]
  show (impl_anglesOfPeriod p).bind _ = _
  rw [show impl_anglesOfPeriod p = some xs from h]
  rfl) slices_IndexFunc__impl_Angle_impl_Angle_v2_is (fun xs ys ps r h => by
  have e : (phi [slices_IndexFunc__impl_Angle_impl_Angle_v2_s] [.v (.sl 27 (.pair (.int .i64) (.pair (.int .i64) (.unit)))) .fr xs, .fn 192 [] [.v (.ptr (.sl 27 (.pair (.int .i64) (.pair (.int .i64) (.unit))))) .fr ys, .v (.ptr (.sl 47 (.pair (.pair (.int .i64) (.pair (.int .i64) (.unit))) (.pair (.pair (.int .i64) (.pair (.int .i64) (.unit))) (.unit))))) .fr ps]]).run = (slices_IndexFunc__impl_Angle_impl_Angle_v2 xs ys ps).bind fun r => some ([.v (.int .i64) .fr r], []) := by kernel_rfl
  rw [e]
  show (slices_IndexFunc__impl_Angle_impl_Angle_v2 xs ys ps).bind _ = _
  rw [show slices_IndexFunc__impl_Angle_impl_Angle_v2 xs ys ps = some r from h]
  rfl)
noncomputable def slices_DeleteFunc__impl_RayPair_impl_RayPair_code : Code := (Go.Proofs.Tryz.f130.body).getD .skip
def slices_DeleteFunc__impl_RayPair_impl_RayPair_c : Cfg := ⟨130, [.own], [[0, 1, 5, 6, 13], [0, 5, 13], [0, 4, 13, 39, 41]], [], [], []⟩
noncomputable def slices_IndexFunc__impl_RayPair_impl_RayPair_v2_code : Code := (Go.Proofs.Tryz.f133.body).getD .skip
def slices_IndexFunc__impl_RayPair_impl_RayPair_v2_c : Cfg := ⟨133, [], [[0, 1, 7, 8], [], [4]], [], [], []⟩
noncomputable def impl_pairsOf_f1_code : Code := (Go.Proofs.Tryz.f177.body).getD .skip
def impl_pairsOf_f1_c : Cfg := ⟨177, [], [], [], [], []⟩
noncomputable def impl_pairsOf_f1_s : Spec := ⟨[.v (.pair (.pair (.int .i64) (.pair (.int .i64) (.unit))) (.pair (.pair (.int .i64) (.pair (.int .i64) (.unit))) (.unit))) .fr, .v (.ptr (.int .i64)) .fr], Bool, fun v => impl_pairsOf_f1 v.1 v.2.1, fun r => ([.v (.bool) .fr r], [])⟩
noncomputable def impl_pairsOf_f1_ls : List LSum := []
noncomputable def impl_pairsOf_f1_tab : List Row := [⟨93, [], [impl_periodOf_s]⟩]
theorem impl_pairsOf_f1_t : ∀ r, r ∈ impl_pairsOf_f1_tab → RowIs Go.Proofs.Tryz.prog r := tab_cons (impl_periodOf_is) (tab_nil)
theorem impl_pairsOf_f1_rs : RoundsOK (mkCtx Go.K.Link.seat impl_pairsOf_f1_c impl_pairsOf_f1_tab) (sums impl_pairsOf_f1_ls) (loopsOf 0 impl_pairsOf_f1_code) impl_pairsOf_f1_ls := trivial
theorem impl_pairsOf_f1_e : ∀ v, (evFn (mkCtx Go.K.Link.seat impl_pairsOf_f1_c impl_pairsOf_f1_tab) (sums impl_pairsOf_f1_ls) 177 Go.Proofs.Tryz.f177 (encL impl_pairsOf_f1_s.a v)).run = (impl_pairsOf_f1_s.gen v).bind fun y => some (impl_pairsOf_f1_s.out y) := by
  rintro ⟨p, ⟨t1, _⟩⟩
  show _ = (impl_pairsOf_f1 p t1).bind fun y : Bool => some (impl_pairsOf_f1_s.out y)
  simp only [impl_pairsOf_f1, kb_ite, kb_some, kb_none, kb_bind, kb_alt]
  kernel_rfl
theorem impl_pairsOf_f1_is : FnIs Go.Proofs.Tryz.prog 177 (modeOf []) (phi [impl_pairsOf_f1_s]) := spec_is (c := impl_pairsOf_f1_c) seatOK impl_pairsOf_f1_t Go.Proofs.Tryz.func177 rfl (code := impl_pairsOf_f1_code) rfl rfl impl_pairsOf_f1_rs impl_pairsOf_f1_e
noncomputable def slices_IndexFunc__impl_RayPair_impl_RayPair_v2_l0_s : LSum := ⟨0, ⟨[(0, .val (.sl 47 (.pair (.pair (.int .i64) (.pair (.int .i64) (.unit))) (.pair (.pair (.int .i64) (.pair (.int .i64) (.unit))) (.unit)))) .fr), (0, .fnl 177 [] [.arg (.v (.ptr (.int .i64)) .fr)]), (5, .val (.int .i64) .fr), (0, .val (.int .i64) .fr)], 10⟩, (.ret, ⟨[(4, .val (.int .i64) .fr)], 14⟩), [(.exit 0, ⟨[], 19⟩)], slices_IndexFunc__impl_RayPair_impl_RayPair_v2_l0⟩
noncomputable def slices_IndexFunc__impl_RayPair_impl_RayPair_v2_s : Spec := ⟨[.v (.sl 47 (.pair (.pair (.int .i64) (.pair (.int .i64) (.unit))) (.pair (.pair (.int .i64) (.pair (.int .i64) (.unit))) (.unit)))) .fr, .fn 177 [] [.v (.ptr (.int .i64)) .fr]], Int, fun v => slices_IndexFunc__impl_RayPair_impl_RayPair_v2 v.1 v.2.1.2.1, fun r => ([.v (.int .i64) .fr r], [])⟩
noncomputable def slices_IndexFunc__impl_RayPair_impl_RayPair_v2_ls : List LSum := [slices_IndexFunc__impl_RayPair_impl_RayPair_v2_l0_s]
noncomputable def slices_IndexFunc__impl_RayPair_impl_RayPair_v2_tab : List Row := [⟨177, [], [impl_pairsOf_f1_s]⟩]
theorem slices_IndexFunc__impl_RayPair_impl_RayPair_v2_t : ∀ r, r ∈ slices_IndexFunc__impl_RayPair_impl_RayPair_v2_tab → RowIs Go.Proofs.Tryz.prog r := tab_cons (impl_pairsOf_f1_is) (tab_nil)
theorem slices_IndexFunc__impl_RayPair_impl_RayPair_v2_l0_r : RoundIs (mkCtx Go.K.Link.seat slices_IndexFunc__impl_RayPair_impl_RayPair_v2_c slices_IndexFunc__impl_RayPair_impl_RayPair_v2_tab) (sums slices_IndexFunc__impl_RayPair_impl_RayPair_v2_ls) 0 (bodyAt (loopsOf 0 slices_IndexFunc__impl_RayPair_impl_RayPair_v2_code) 0) slices_IndexFunc__impl_RayPair_impl_RayPair_v2_l0_s := by
  rintro ⟨s, ⟨_, ⟨f, _⟩, ⟨t7, ⟨t8, _⟩⟩⟩⟩
  show _ = (slices_IndexFunc__impl_RayPair_impl_RayPair_v2_l0 (s, ((), (f, ()), (t7, (t8, ()))))).bind fun r : (Ctl ((List ((Int × (Int × Unit)) × ((Int × (Int × Unit)) × Unit))) × Unit × (Int × Unit) × Int × Int × Unit) ((Int × Unit) ⊕ (Unit))) => some (ctlVal slices_IndexFunc__impl_RayPair_impl_RayPair_v2_l0_s r)
  simp only [slices_IndexFunc__impl_RayPair_impl_RayPair_v2_l0, kb_ite, kb_some, kb_none, kb_bind, kb_alt]
  kernel_rfl
theorem slices_IndexFunc__impl_RayPair_impl_RayPair_v2_rs : RoundsOK (mkCtx Go.K.Link.seat slices_IndexFunc__impl_RayPair_impl_RayPair_v2_c slices_IndexFunc__impl_RayPair_impl_RayPair_v2_tab) (sums slices_IndexFunc__impl_RayPair_impl_RayPair_v2_ls) (loopsOf 0 slices_IndexFunc__impl_RayPair_impl_RayPair_v2_code) slices_IndexFunc__impl_RayPair_impl_RayPair_v2_ls := ⟨⟨rfl, rfl, slices_IndexFunc__impl_RayPair_impl_RayPair_v2_l0_r⟩, trivial⟩
theorem slices_IndexFunc__impl_RayPair_impl_RayPair_v2_e : ∀ v, (evFn (mkCtx Go.K.Link.seat slices_IndexFunc__impl_RayPair_impl_RayPair_v2_c slices_IndexFunc__impl_RayPair_impl_RayPair_v2_tab) (sums slices_IndexFunc__impl_RayPair_impl_RayPair_v2_ls) 133 Go.Proofs.Tryz.f133 (encL slices_IndexFunc__impl_RayPair_impl_RayPair_v2_s.a v)).run = (slices_IndexFunc__impl_RayPair_impl_RayPair_v2_s.gen v).bind fun y => some (slices_IndexFunc__impl_RayPair_impl_RayPair_v2_s.out y) := by
  rintro ⟨s, ⟨⟨_, ⟨f_0, _⟩⟩, _⟩⟩
  show _ = (slices_IndexFunc__impl_RayPair_impl_RayPair_v2 s f_0).bind fun y : Int => some (slices_IndexFunc__impl_RayPair_impl_RayPair_v2_s.out y)
  simp only [slices_IndexFunc__impl_RayPair_impl_RayPair_v2, kb_ite, kb_some, kb_none, kb_bind, kb_alt]
  kernel_rfl
theorem slices_IndexFunc__impl_RayPair_impl_RayPair_v2_is : FnIs Go.Proofs.Tryz.prog 133 (modeOf []) (phi [slices_IndexFunc__impl_RayPair_impl_RayPair_v2_s]) := spec_is (c := slices_IndexFunc__impl_RayPair_impl_RayPair_v2_c) seatOK slices_IndexFunc__impl_RayPair_impl_RayPair_v2_t Go.Proofs.Tryz.func133 rfl (code := slices_IndexFunc__impl_RayPair_impl_RayPair_v2_code) rfl rfl slices_IndexFunc__impl_RayPair_impl_RayPair_v2_rs slices_IndexFunc__impl_RayPair_impl_RayPair_v2_e
noncomputable def slices_DeleteFunc__impl_RayPair_impl_RayPair_l0_s : LSum := ⟨0, ⟨[(0, .val (.sl 47 (.pair (.pair (.int .i64) (.pair (.int .i64) (.unit))) (.pair (.pair (.int .i64) (.pair (.int .i64) (.unit))) (.unit)))) (.own .fr)), (0, .fnl 177 [] [.arg (.v (.ptr (.int .i64)) .fr)]), (3, .val (.int .i64) .fr), (0, .val (.int .i64) .fr)], 35⟩, (.exit 0, ⟨[(0, .val (.sl 47 (.pair (.pair (.int .i64) (.pair (.int .i64) (.unit))) (.pair (.pair (.int .i64) (.pair (.int .i64) (.unit))) (.unit)))) (.own .fr)), (4, .val (.int .i64) .fr)], 36⟩), [], slices_DeleteFunc__impl_RayPair_impl_RayPair_l0⟩
noncomputable def slices_DeleteFunc__impl_RayPair_impl_RayPair_s : Spec := ⟨[.v (.sl 47 (.pair (.pair (.int .i64) (.pair (.int .i64) (.unit))) (.pair (.pair (.int .i64) (.pair (.int .i64) (.unit))) (.unit)))) (.own .fr), .fn 177 [] [.v (.ptr (.int .i64)) .fr]], (List ((Int × (Int × Unit)) × ((Int × (Int × Unit)) × Unit))), fun v => slices_DeleteFunc__impl_RayPair_impl_RayPair v.1 v.2.1.2.1, fun r => ([.v (.sl 47 (.pair (.pair (.int .i64) (.pair (.int .i64) (.unit))) (.pair (.pair (.int .i64) (.pair (.int .i64) (.unit))) (.unit)))) (.own .fr) r], [])⟩
noncomputable def slices_DeleteFunc__impl_RayPair_impl_RayPair_ls : List LSum := [slices_DeleteFunc__impl_RayPair_impl_RayPair_l0_s]
noncomputable def slices_DeleteFunc__impl_RayPair_impl_RayPair_tab : List Row := [⟨133, [], [slices_IndexFunc__impl_RayPair_impl_RayPair_v2_s]⟩, ⟨177, [], [impl_pairsOf_f1_s]⟩]
theorem slices_DeleteFunc__impl_RayPair_impl_RayPair_t : ∀ r, r ∈ slices_DeleteFunc__impl_RayPair_impl_RayPair_tab → RowIs Go.Proofs.Tryz.prog r := tab_cons (slices_IndexFunc__impl_RayPair_impl_RayPair_v2_is) (tab_cons (impl_pairsOf_f1_is) (tab_nil))
theorem slices_DeleteFunc__impl_RayPair_impl_RayPair_l0_r : RoundIs (mkCtx Go.K.Link.seat slices_DeleteFunc__impl_RayPair_impl_RayPair_c slices_DeleteFunc__impl_RayPair_impl_RayPair_tab) (sums slices_DeleteFunc__impl_RayPair_impl_RayPair_ls) 0 (bodyAt (loopsOf 0 slices_DeleteFunc__impl_RayPair_impl_RayPair_code) 0) slices_DeleteFunc__impl_RayPair_impl_RayPair_l0_s := by
  rintro ⟨s, ⟨_, ⟨del, _⟩, ⟨i, ⟨j, _⟩⟩⟩⟩
  show _ = (slices_DeleteFunc__impl_RayPair_impl_RayPair_l0 (s, ((), (del, ()), (i, (j, ()))))).bind fun r : (Ctl ((List ((Int × (Int × Unit)) × ((Int × (Int × Unit)) × Unit))) × Unit × (Int × Unit) × Int × Int × Unit) (((List ((Int × (Int × Unit)) × ((Int × (Int × Unit)) × Unit))) × Int × Unit))) => some (ctlVal slices_DeleteFunc__impl_RayPair_impl_RayPair_l0_s r)
  simp only [slices_DeleteFunc__impl_RayPair_impl_RayPair_l0, kb_ite, kb_some, kb_none, kb_bind, kb_alt]
  kernel_rfl
theorem slices_DeleteFunc__impl_RayPair_impl_RayPair_rs : RoundsOK (mkCtx Go.K.Link.seat slices_DeleteFunc__impl_RayPair_impl_RayPair_c slices_DeleteFunc__impl_RayPair_impl_RayPair_tab) (sums slices_DeleteFunc__impl_RayPair_impl_RayPair_ls) (loopsOf 0 slices_DeleteFunc__impl_RayPair_impl_RayPair_code) slices_DeleteFunc__impl_RayPair_impl_RayPair_ls := ⟨⟨rfl, rfl, slices_DeleteFunc__impl_RayPair_impl_RayPair_l0_r⟩, trivial⟩
theorem slices_DeleteFunc__impl_RayPair_impl_RayPair_e : ∀ v, (evFn (mkCtx Go.K.Link.seat slices_DeleteFunc__impl_RayPair_impl_RayPair_c slices_DeleteFunc__impl_RayPair_impl_RayPair_tab) (sums slices_DeleteFunc__impl_RayPair_impl_RayPair_ls) 130 Go.Proofs.Tryz.f130 (encL slices_DeleteFunc__impl_RayPair_impl_RayPair_s.a v)).run = (slices_DeleteFunc__impl_RayPair_impl_RayPair_s.gen v).bind fun y => some (slices_DeleteFunc__impl_RayPair_impl_RayPair_s.out y) := by
  rintro ⟨s, ⟨⟨_, ⟨del_0, _⟩⟩, _⟩⟩
  show _ = (slices_DeleteFunc__impl_RayPair_impl_RayPair s del_0).bind fun y : (List ((Int × (Int × Unit)) × ((Int × (Int × Unit)) × Unit))) => some (slices_DeleteFunc__impl_RayPair_impl_RayPair_s.out y)
  simp only [slices_DeleteFunc__impl_RayPair_impl_RayPair, kb_ite, kb_some, kb_none, kb_bind, kb_alt]
  kernel_rfl
theorem slices_DeleteFunc__impl_RayPair_impl_RayPair_is : FnIs Go.Proofs.Tryz.prog 130 (modeOf [.own]) (phi [slices_DeleteFunc__impl_RayPair_impl_RayPair_s]) := spec_is (c := slices_DeleteFunc__impl_RayPair_impl_RayPair_c) seatOK slices_DeleteFunc__impl_RayPair_impl_RayPair_t Go.Proofs.Tryz.func130 rfl (code := slices_DeleteFunc__impl_RayPair_impl_RayPair_code) rfl rfl slices_DeleteFunc__impl_RayPair_impl_RayPair_rs slices_DeleteFunc__impl_RayPair_impl_RayPair_e
noncomputable def impl_pairsOf_f2_code : Code := (Go.Proofs.Tryz.f178.body).getD .skip
def impl_pairsOf_f2_c : Cfg := ⟨178, [], [], [], [], []⟩
noncomputable def impl_pairsOf_f2_s : Spec := ⟨[.v (.pair (.pair (.int .i64) (.pair (.int .i64) (.unit))) (.pair (.pair (.int .i64) (.pair (.int .i64) (.unit))) (.unit))) .fr, .v (.pair (.pair (.int .i64) (.pair (.int .i64) (.unit))) (.pair (.pair (.int .i64) (.pair (.int .i64) (.unit))) (.unit))) .fr], Int, fun v => impl_pairsOf_f2 v.1 v.2.1, fun r => ([.v (.int .i64) .fr r], [])⟩
noncomputable def impl_pairsOf_f2_ls : List LSum := []
noncomputable def impl_pairsOf_f2_tab : List Row := [⟨114, [], [impl_Angle_compare_s]⟩]
theorem impl_pairsOf_f2_t : ∀ r, r ∈ impl_pairsOf_f2_tab → RowIs Go.Proofs.Tryz.prog r := tab_cons (impl_Angle_compare_is) (tab_nil)
theorem impl_pairsOf_f2_rs : RoundsOK (mkCtx Go.K.Link.seat impl_pairsOf_f2_c impl_pairsOf_f2_tab) (sums impl_pairsOf_f2_ls) (loopsOf 0 impl_pairsOf_f2_code) impl_pairsOf_f2_ls := trivial
theorem impl_pairsOf_f2_e : ∀ v, (evFn (mkCtx Go.K.Link.seat impl_pairsOf_f2_c impl_pairsOf_f2_tab) (sums impl_pairsOf_f2_ls) 178 Go.Proofs.Tryz.f178 (encL impl_pairsOf_f2_s.a v)).run = (impl_pairsOf_f2_s.gen v).bind fun y => some (impl_pairsOf_f2_s.out y) := by
  rintro ⟨p, ⟨q, _⟩⟩
  show _ = (impl_pairsOf_f2 p q).bind fun y : Int => some (impl_pairsOf_f2_s.out y)
  simp only [impl_pairsOf_f2, kb_ite, kb_some, kb_none, kb_bind, kb_alt]
  kernel_rfl
theorem impl_pairsOf_f2_is : FnIs Go.Proofs.Tryz.prog 178 (modeOf []) (phi [impl_pairsOf_f2_s]) := spec_is (c := impl_pairsOf_f2_c) seatOK impl_pairsOf_f2_t Go.Proofs.Tryz.func178 rfl (code := impl_pairsOf_f2_code) rfl rfl impl_pairsOf_f2_rs impl_pairsOf_f2_e
noncomputable def slices_SortFunc__impl_RayPair_impl_RayPair_s : Spec := ⟨[.v (.sl 47 (.pair (.pair (.int .i64) (.pair (.int .i64) (.unit))) (.pair (.pair (.int .i64) (.pair (.int .i64) (.unit))) (.unit)))) (.own .fr), .fn 178 [] []], List ((Int × (Int × Unit)) × ((Int × (Int × Unit)) × Unit)), fun v => slices_SortFunc__impl_RayPair_impl_RayPair v.1, fun r => ([], [.v (.sl 47 (.pair (.pair (.int .i64) (.pair (.int .i64) (.unit))) (.pair (.pair (.int .i64) (.pair (.int .i64) (.unit))) (.unit)))) (.own .fr) r])⟩
theorem slices_SortFunc__impl_RayPair_impl_RayPair_is : FnIs Go.Proofs.Tryz.prog 173 (modeOf [.mut]) (phi [slices_SortFunc__impl_RayPair_impl_RayPair_s]) := sortFunc_is (cs := []) (cf := fun c x y => impl_pairsOf_f2 x y ) Go.Proofs.Tryz.sortL173 ⟨_, Go.Proofs.Tryz.func173, rfl, rfl⟩ (T := 47) (e := (.pair (.pair (.int .i64) (.pair (.int .i64) (.unit))) (.pair (.pair (.int .i64) (.pair (.int .i64) (.unit))) (.unit)))) rfl rfl Go.Proofs.Tryz.isAgg47 Go.Proofs.Tryz.sizeOf47 impl_pairsOf_f2_is (fun c x y r h => by
  have e : (phi [impl_pairsOf_f2_s] (.v (.pair (.pair (.int .i64) (.pair (.int .i64) (.unit))) (.pair (.pair (.int .i64) (.pair (.int .i64) (.unit))) (.unit))) .fr x :: .v (.pair (.pair (.int .i64) (.pair (.int .i64) (.unit))) (.pair (.pair (.int .i64) (.pair (.int .i64) (.unit))) (.unit))) .fr y :: encL [] c)).run = (impl_pairsOf_f2 x y ).bind fun r => some ([.v (.int .i64) .fr r], []) := by kernel_rfl
  rw [e]
  show (impl_pairsOf_f2 x y ).bind _ = _
  rw [show impl_pairsOf_f2 x y  = some r from h]
  rfl)
noncomputable def impl_pairsOf_s : Spec := ⟨[.v (.int .i64) .fr], (List ((Int × (Int × Unit)) × ((Int × (Int × Unit)) × Unit))), fun v => impl_pairsOf v.1, fun r => ([.v (.sl 47 (.pair (.pair (.int .i64) (.pair (.int .i64) (.unit))) (.pair (.pair (.int .i64) (.pair (.int .i64) (.unit))) (.unit)))) (.own .fr) r], [])⟩
noncomputable def impl_pairsOf_ls : List LSum := []
noncomputable def impl_pairsOf_tab : List Row := [⟨130, [.own], [slices_DeleteFunc__impl_RayPair_impl_RayPair_s]⟩, ⟨170, [], [impl_pairsUpTo_s]⟩, ⟨173, [.mut], [slices_SortFunc__impl_RayPair_impl_RayPair_s]⟩]
theorem impl_pairsOf_t : ∀ r, r ∈ impl_pairsOf_tab → RowIs Go.Proofs.Tryz.prog r := tab_cons (slices_DeleteFunc__impl_RayPair_impl_RayPair_is) (tab_cons (impl_pairsUpTo_is) (tab_cons (slices_SortFunc__impl_RayPair_impl_RayPair_is) (tab_nil)))
theorem impl_pairsOf_rs : RoundsOK (mkCtx Go.K.Link.seat impl_pairsOf_c impl_pairsOf_tab) (sums impl_pairsOf_ls) (loopsOf 0 impl_pairsOf_code) impl_pairsOf_ls := trivial
theorem impl_pairsOf_e : ∀ v, (evFn (mkCtx Go.K.Link.seat impl_pairsOf_c impl_pairsOf_tab) (sums impl_pairsOf_ls) 131 Go.Proofs.Tryz.f131 (encL impl_pairsOf_s.a v)).run = (impl_pairsOf_s.gen v).bind fun y => some (impl_pairsOf_s.out y) := by
  rintro ⟨n, _⟩
  show _ = (impl_pairsOf n).bind fun y : (List ((Int × (Int × Unit)) × ((Int × (Int × Unit)) × Unit))) => some (impl_pairsOf_s.out y)
  simp only [impl_pairsOf, kb_ite, kb_some, kb_none, kb_bind, kb_alt]
  kernel_rfl
theorem impl_pairsOf_is : FnIs Go.Proofs.Tryz.prog 131 (modeOf []) (phi [impl_pairsOf_s]) := spec_is (c := impl_pairsOf_c) seatOK impl_pairsOf_t Go.Proofs.Tryz.func131 rfl (code := impl_pairsOf_code) rfl rfl impl_pairsOf_rs impl_pairsOf_e
noncomputable def slices_IndexFunc__impl_RayPair_impl_RayPair_v3_code : Code := (Go.Proofs.Tryz.f133.body).getD .skip
def slices_IndexFunc__impl_RayPair_impl_RayPair_v3_c : Cfg := ⟨133, [], [[0, 1, 7, 8], [], [4]], [], [], []⟩
noncomputable def impl_PairOf_f1_code : Code := (Go.Proofs.Tryz.f134.body).getD .skip
def impl_PairOf_f1_c : Cfg := ⟨134, [], [], [], [], []⟩
noncomputable def impl_PairOf_f1_s : Spec := ⟨[.v (.pair (.pair (.int .i64) (.pair (.int .i64) (.unit))) (.pair (.pair (.int .i64) (.pair (.int .i64) (.unit))) (.unit))) .fr, .v (.ptr (.pair (.int .i64) (.pair (.int .i64) (.unit)))) .fr], Bool, fun v => impl_PairOf_f1 v.1 v.2.1, fun r => ([.v (.bool) .fr r], [])⟩
noncomputable def impl_PairOf_f1_ls : List LSum := []
noncomputable def impl_PairOf_f1_tab : List Row := []
theorem impl_PairOf_f1_t : ∀ r, r ∈ impl_PairOf_f1_tab → RowIs Go.Proofs.Tryz.prog r := tab_nil
theorem impl_PairOf_f1_rs : RoundsOK (mkCtx Go.K.Link.seat impl_PairOf_f1_c impl_PairOf_f1_tab) (sums impl_PairOf_f1_ls) (loopsOf 0 impl_PairOf_f1_code) impl_PairOf_f1_ls := trivial
theorem impl_PairOf_f1_e : ∀ v, (evFn (mkCtx Go.K.Link.seat impl_PairOf_f1_c impl_PairOf_f1_tab) (sums impl_PairOf_f1_ls) 134 Go.Proofs.Tryz.f134 (encL impl_PairOf_f1_s.a v)).run = (impl_PairOf_f1_s.gen v).bind fun y => some (impl_PairOf_f1_s.out y) := by
  rintro ⟨p, ⟨t1, _⟩⟩
  show _ = (impl_PairOf_f1 p t1).bind fun y : Bool => some (impl_PairOf_f1_s.out y)
  simp only [impl_PairOf_f1, kb_ite, kb_some, kb_none, kb_bind, kb_alt]
  kernel_rfl
theorem impl_PairOf_f1_is : FnIs Go.Proofs.Tryz.prog 134 (modeOf []) (phi [impl_PairOf_f1_s]) := spec_is (c := impl_PairOf_f1_c) seatOK impl_PairOf_f1_t Go.Proofs.Tryz.func134 rfl (code := impl_PairOf_f1_code) rfl rfl impl_PairOf_f1_rs impl_PairOf_f1_e
noncomputable def slices_IndexFunc__impl_RayPair_impl_RayPair_v3_l0_s : LSum := ⟨0, ⟨[(0, .val (.sl 47 (.pair (.pair (.int .i64) (.pair (.int .i64) (.unit))) (.pair (.pair (.int .i64) (.pair (.int .i64) (.unit))) (.unit)))) .fr), (0, .fnl 134 [] [.arg (.v (.ptr (.pair (.int .i64) (.pair (.int .i64) (.unit)))) .fr)]), (5, .val (.int .i64) .fr), (0, .val (.int .i64) .fr)], 10⟩, (.ret, ⟨[(4, .val (.int .i64) .fr)], 14⟩), [(.exit 0, ⟨[], 19⟩)], slices_IndexFunc__impl_RayPair_impl_RayPair_v3_l0⟩
noncomputable def slices_IndexFunc__impl_RayPair_impl_RayPair_v3_s : Spec := ⟨[.v (.sl 47 (.pair (.pair (.int .i64) (.pair (.int .i64) (.unit))) (.pair (.pair (.int .i64) (.pair (.int .i64) (.unit))) (.unit)))) .fr, .fn 134 [] [.v (.ptr (.pair (.int .i64) (.pair (.int .i64) (.unit)))) .fr]], Int, fun v => slices_IndexFunc__impl_RayPair_impl_RayPair_v3 v.1 v.2.1.2.1, fun r => ([.v (.int .i64) .fr r], [])⟩
noncomputable def slices_IndexFunc__impl_RayPair_impl_RayPair_v3_ls : List LSum := [slices_IndexFunc__impl_RayPair_impl_RayPair_v3_l0_s]
noncomputable def slices_IndexFunc__impl_RayPair_impl_RayPair_v3_tab : List Row := [⟨134, [], [impl_PairOf_f1_s]⟩]
theorem slices_IndexFunc__impl_RayPair_impl_RayPair_v3_t : ∀ r, r ∈ slices_IndexFunc__impl_RayPair_impl_RayPair_v3_tab → RowIs Go.Proofs.Tryz.prog r := tab_cons (impl_PairOf_f1_is) (tab_nil)
theorem slices_IndexFunc__impl_RayPair_impl_RayPair_v3_l0_r : RoundIs (mkCtx Go.K.Link.seat slices_IndexFunc__impl_RayPair_impl_RayPair_v3_c slices_IndexFunc__impl_RayPair_impl_RayPair_v3_tab) (sums slices_IndexFunc__impl_RayPair_impl_RayPair_v3_ls) 0 (bodyAt (loopsOf 0 slices_IndexFunc__impl_RayPair_impl_RayPair_v3_code) 0) slices_IndexFunc__impl_RayPair_impl_RayPair_v3_l0_s := by
  rintro ⟨s, ⟨_, ⟨f, _⟩, ⟨t7, ⟨t8, _⟩⟩⟩⟩
  show _ = (slices_IndexFunc__impl_RayPair_impl_RayPair_v3_l0 (s, ((), (f, ()), (t7, (t8, ()))))).bind fun r : (Ctl ((List ((Int × (Int × Unit)) × ((Int × (Int × Unit)) × Unit))) × Unit × ((Int × (Int × Unit)) × Unit) × Int × Int × Unit) ((Int × Unit) ⊕ (Unit))) => some (ctlVal slices_IndexFunc__impl_RayPair_impl_RayPair_v3_l0_s r)
  simp only [slices_IndexFunc__impl_RayPair_impl_RayPair_v3_l0, kb_ite, kb_some, kb_none, kb_bind, kb_alt]
  kernel_rfl
theorem slices_IndexFunc__impl_RayPair_impl_RayPair_v3_rs : RoundsOK (mkCtx Go.K.Link.seat slices_IndexFunc__impl_RayPair_impl_RayPair_v3_c slices_IndexFunc__impl_RayPair_impl_RayPair_v3_tab) (sums slices_IndexFunc__impl_RayPair_impl_RayPair_v3_ls) (loopsOf 0 slices_IndexFunc__impl_RayPair_impl_RayPair_v3_code) slices_IndexFunc__impl_RayPair_impl_RayPair_v3_ls := ⟨⟨rfl, rfl, slices_IndexFunc__impl_RayPair_impl_RayPair_v3_l0_r⟩, trivial⟩
theorem slices_IndexFunc__impl_RayPair_impl_RayPair_v3_e : ∀ v, (evFn (mkCtx Go.K.Link.seat slices_IndexFunc__impl_RayPair_impl_RayPair_v3_c slices_IndexFunc__impl_RayPair_impl_RayPair_v3_tab) (sums slices_IndexFunc__impl_RayPair_impl_RayPair_v3_ls) 133 Go.Proofs.Tryz.f133 (encL slices_IndexFunc__impl_RayPair_impl_RayPair_v3_s.a v)).run = (slices_IndexFunc__impl_RayPair_impl_RayPair_v3_s.gen v).bind fun y => some (slices_IndexFunc__impl_RayPair_impl_RayPair_v3_s.out y) := by
  rintro ⟨s, ⟨⟨_, ⟨f_0, _⟩⟩, _⟩⟩
  show _ = (slices_IndexFunc__impl_RayPair_impl_RayPair_v3 s f_0).bind fun y : Int => some (slices_IndexFunc__impl_RayPair_impl_RayPair_v3_s.out y)
  simp only [slices_IndexFunc__impl_RayPair_impl_RayPair_v3, kb_ite, kb_some, kb_none, kb_bind, kb_alt]
  kernel_rfl
theorem slices_IndexFunc__impl_RayPair_impl_RayPair_v3_is : FnIs Go.Proofs.Tryz.prog 133 (modeOf []) (phi [slices_IndexFunc__impl_RayPair_impl_RayPair_v3_s]) := spec_is (c := slices_IndexFunc__impl_RayPair_impl_RayPair_v3_c) seatOK slices_IndexFunc__impl_RayPair_impl_RayPair_v3_t Go.Proofs.Tryz.func133 rfl (code := slices_IndexFunc__impl_RayPair_impl_RayPair_v3_code) rfl rfl slices_IndexFunc__impl_RayPair_impl_RayPair_v3_rs slices_IndexFunc__impl_RayPair_impl_RayPair_v3_e
noncomputable def impl_PairOf_s : Spec := ⟨[.v (.pair (.int .i64) (.pair (.int .i64) (.unit))) .fr], ((Int × (Int × Unit)) × ((Int × (Int × Unit)) × Unit)) × Int, fun v => impl_PairOf v.1, fun r => ([.v (.pair (.pair (.int .i64) (.pair (.int .i64) (.unit))) (.pair (.pair (.int .i64) (.pair (.int .i64) (.unit))) (.unit))) .fr r.1, .v (.int .i64) .fr r.2], [])⟩
noncomputable def impl_PairOf_ls : List LSum := []
noncomputable def impl_PairOf_tab : List Row := [⟨131, [], [impl_pairsOf_s]⟩, ⟨133, [], [slices_IndexFunc__impl_RayPair_impl_RayPair_v3_s]⟩, ⟨92, [], [impl_anglesCode_s]⟩, ⟨93, [], [impl_periodOf_s]⟩, ⟨94, [], [impl_isPeriod_s]⟩]
theorem impl_PairOf_t : ∀ r, r ∈ impl_PairOf_tab → RowIs Go.Proofs.Tryz.prog r := tab_cons (impl_pairsOf_is) (tab_cons (slices_IndexFunc__impl_RayPair_impl_RayPair_v3_is) (tab_cons (impl_anglesCode_is) (tab_cons (impl_periodOf_is) (tab_cons (impl_isPeriod_is) (tab_nil)))))
theorem impl_PairOf_rs : RoundsOK (mkCtx Go.K.Link.seat impl_PairOf_c impl_PairOf_tab) (sums impl_PairOf_ls) (loopsOf 0 impl_PairOf_code) impl_PairOf_ls := trivial
theorem impl_PairOf_e : ∀ v, (evFn (mkCtx Go.K.Link.seat impl_PairOf_c impl_PairOf_tab) (sums impl_PairOf_ls) 58 Go.Proofs.Tryz.f58 (encL impl_PairOf_s.a v)).run = (impl_PairOf_s.gen v).bind fun y => some (impl_PairOf_s.out y) := by
  rintro ⟨x, _⟩
  show _ = (impl_PairOf x).bind fun y : ((Int × (Int × Unit)) × ((Int × (Int × Unit)) × Unit)) × Int => some (impl_PairOf_s.out y)
  simp only [impl_PairOf, kb_ite, kb_some, kb_none, kb_bind, kb_alt]
  kernel_rfl
theorem impl_PairOf_is : FnIs Go.Proofs.Tryz.prog 58 (modeOf []) (phi [impl_PairOf_s]) := spec_is (c := impl_PairOf_c) seatOK impl_PairOf_t Go.Proofs.Tryz.func58 rfl (code := impl_PairOf_code) rfl rfl impl_PairOf_rs impl_PairOf_e
noncomputable def impl_wordsOf_code : Code := (Go.Proofs.Tryz.f102.body).getD .skip
def impl_wordsOf_c : Cfg := ⟨102, [], [[2, 3, 4, 19, 20, 21], [2, 4], [2], [], [], [], [2, 3, 4, 5, 7, 19, 20, 21, 31, 32], [2, 3, 4, 19, 20, 21], [2]], [], [], []⟩
noncomputable def impl_ExpansionOf_code : Code := (Go.Proofs.Tryz.f80.body).getD .skip
def impl_ExpansionOf_c : Cfg := ⟨80, [], [], [], [], []⟩
noncomputable def impl_orbitOf_code : Code := (Go.Proofs.Tryz.f136.body).getD .skip
def impl_orbitOf_c : Cfg := ⟨136, [], [], [], [], []⟩
noncomputable def impl_Angle_orbit_code : Code := (Go.Proofs.Tryz.f167.body).getD .skip
def impl_Angle_orbit_c : Cfg := ⟨167, [], [[1, 5, 12, 20], [], [2, 3, 4, 5, 12, 20]], [], [], []⟩
noncomputable def slices_Index__impl_Angle_impl_Angle_code : Code := (Go.Proofs.Tryz.f190.body).getD .skip
def slices_Index__impl_Angle_impl_Angle_c : Cfg := ⟨190, [], [[0, 3, 7, 8], [], [4]], [], [], []⟩
noncomputable def slices_Index__impl_Angle_impl_Angle_l0_s : LSum := ⟨0, ⟨[(0, .val (.sl 27 (.pair (.int .i64) (.pair (.int .i64) (.unit)))) .fr), (2, .val (.ptr (.pair (.int .i64) (.pair (.int .i64) (.unit)))) (.own .fr)), (3, .val (.int .i64) .fr), (0, .val (.int .i64) .fr)], 10⟩, (.ret, ⟨[(4, .val (.int .i64) .fr)], 14⟩), [(.exit 0, ⟨[], 19⟩)], slices_Index__impl_Angle_impl_Angle_l0⟩
noncomputable def slices_Index__impl_Angle_impl_Angle_s : Spec := ⟨[.v (.sl 27 (.pair (.int .i64) (.pair (.int .i64) (.unit)))) .fr, .v (.pair (.int .i64) (.pair (.int .i64) (.unit))) .fr], Int, fun v => slices_Index__impl_Angle_impl_Angle v.1 v.2.1, fun r => ([.v (.int .i64) .fr r], [])⟩
noncomputable def slices_Index__impl_Angle_impl_Angle_ls : List LSum := [slices_Index__impl_Angle_impl_Angle_l0_s]
noncomputable def slices_Index__impl_Angle_impl_Angle_tab : List Row := []
theorem slices_Index__impl_Angle_impl_Angle_t : ∀ r, r ∈ slices_Index__impl_Angle_impl_Angle_tab → RowIs Go.Proofs.Tryz.prog r := tab_nil
theorem slices_Index__impl_Angle_impl_Angle_l0_r : RoundIs (mkCtx Go.K.Link.seat slices_Index__impl_Angle_impl_Angle_c slices_Index__impl_Angle_impl_Angle_tab) (sums slices_Index__impl_Angle_impl_Angle_ls) 0 (bodyAt (loopsOf 0 slices_Index__impl_Angle_impl_Angle_code) 0) slices_Index__impl_Angle_impl_Angle_l0_s := by
  rintro ⟨s, ⟨v, ⟨t7, ⟨t8, _⟩⟩⟩⟩
  show _ = (slices_Index__impl_Angle_impl_Angle_l0 (s, (v, (t7, (t8, ()))))).bind fun r : (Ctl ((List (Int × (Int × Unit))) × ((Int × (Int × Unit))) × Int × Int × Unit) ((Int × Unit) ⊕ (Unit))) => some (ctlVal slices_Index__impl_Angle_impl_Angle_l0_s r)
  simp only [slices_Index__impl_Angle_impl_Angle_l0, kb_ite, kb_some, kb_none, kb_bind, kb_alt]
  kernel_rfl
theorem slices_Index__impl_Angle_impl_Angle_rs : RoundsOK (mkCtx Go.K.Link.seat slices_Index__impl_Angle_impl_Angle_c slices_Index__impl_Angle_impl_Angle_tab) (sums slices_Index__impl_Angle_impl_Angle_ls) (loopsOf 0 slices_Index__impl_Angle_impl_Angle_code) slices_Index__impl_Angle_impl_Angle_ls := ⟨⟨rfl, rfl, slices_Index__impl_Angle_impl_Angle_l0_r⟩, trivial⟩
theorem slices_Index__impl_Angle_impl_Angle_e : ∀ v, (evFn (mkCtx Go.K.Link.seat slices_Index__impl_Angle_impl_Angle_c slices_Index__impl_Angle_impl_Angle_tab) (sums slices_Index__impl_Angle_impl_Angle_ls) 190 Go.Proofs.Tryz.f190 (encL slices_Index__impl_Angle_impl_Angle_s.a v)).run = (slices_Index__impl_Angle_impl_Angle_s.gen v).bind fun y => some (slices_Index__impl_Angle_impl_Angle_s.out y) := by
  rintro ⟨s, ⟨v, _⟩⟩
  show _ = (slices_Index__impl_Angle_impl_Angle s v).bind fun y : Int => some (slices_Index__impl_Angle_impl_Angle_s.out y)
  simp only [slices_Index__impl_Angle_impl_Angle, kb_ite, kb_some, kb_none, kb_bind, kb_alt]
  kernel_rfl
theorem slices_Index__impl_Angle_impl_Angle_is : FnIs Go.Proofs.Tryz.prog 190 (modeOf []) (phi [slices_Index__impl_Angle_impl_Angle_s]) := spec_is (c := slices_Index__impl_Angle_impl_Angle_c) seatOK slices_Index__impl_Angle_impl_Angle_t Go.Proofs.Tryz.func190 rfl (code := slices_Index__impl_Angle_impl_Angle_code) rfl rfl slices_Index__impl_Angle_impl_Angle_rs slices_Index__impl_Angle_impl_Angle_e
noncomputable def impl_Angle_orbit_l0_s : LSum := ⟨0, ⟨[(1, .val (.ptr (.pair (.int .i64) (.pair (.int .i64) (.unit)))) (.own .fr)), (3, .val (.sl 27 (.pair (.int .i64) (.pair (.int .i64) (.unit)))) (.own .fr))], 17⟩, (.ret, ⟨[(2, .sref 5 []), (0, .val (.int .i64) .fr), (0, .val (.bool) .fr), (0, .val (.sl 27 (.pair (.int .i64) (.pair (.int .i64) (.unit)))) (.own .fr)), (6, .sref 5 [])], 10⟩), [(.ret, ⟨[(2, .val (.sl 27 (.pair (.int .i64) (.pair (.int .i64) (.unit)))) (.own .fr)), (0, .val (.int .i64) .fr), (0, .val (.bool) .fr), (0, .val (.sl 27 (.pair (.int .i64) (.pair (.int .i64) (.unit)))) (.own .fr))], 17⟩)], impl_Angle_orbit_l0⟩
noncomputable def impl_Angle_orbit_s : Spec := ⟨[.v (.pair (.int .i64) (.pair (.int .i64) (.unit))) .fr], (List (Int × (Int × Unit))) × Int × Bool, fun v => impl_Angle_orbit v.1, fun r => ([.v (.sl 27 (.pair (.int .i64) (.pair (.int .i64) (.unit)))) (.own .fr) r.1, .v (.int .i64) .fr r.2.1, .v (.bool) .fr r.2.2], [])⟩
noncomputable def impl_Angle_orbit_ls : List LSum := [impl_Angle_orbit_l0_s]
noncomputable def impl_Angle_orbit_tab : List Row := [⟨155, [], [impl_Angle_double_s]⟩, ⟨190, [], [slices_Index__impl_Angle_impl_Angle_s]⟩]
theorem impl_Angle_orbit_t : ∀ r, r ∈ impl_Angle_orbit_tab → RowIs Go.Proofs.Tryz.prog r := tab_cons (impl_Angle_double_is) (tab_cons (slices_Index__impl_Angle_impl_Angle_is) (tab_nil))
theorem impl_Angle_orbit_l0_r : RoundIs (mkCtx Go.K.Link.seat impl_Angle_orbit_c impl_Angle_orbit_tab) (sums impl_Angle_orbit_ls) 0 (bodyAt (loopsOf 0 impl_Angle_orbit_code) 0) impl_Angle_orbit_l0_s := by
  rintro ⟨a, ⟨list, _⟩⟩
  show _ = (impl_Angle_orbit_l0 (a, (list, ()))).bind fun r : (Ctl (((Int × (Int × Unit))) × (List (Int × (Int × Unit))) × Unit) ((Int × Bool × (List (Int × (Int × Unit))) × Unit) ⊕ ((List (Int × (Int × Unit))) × Int × Bool × (List (Int × (Int × Unit))) × Unit))) => some (ctlVal impl_Angle_orbit_l0_s r)
  simp only [impl_Angle_orbit_l0, kb_ite, kb_some, kb_none, kb_bind, kb_alt]
  kernel_rfl
theorem impl_Angle_orbit_rs : RoundsOK (mkCtx Go.K.Link.seat impl_Angle_orbit_c impl_Angle_orbit_tab) (sums impl_Angle_orbit_ls) (loopsOf 0 impl_Angle_orbit_code) impl_Angle_orbit_ls := ⟨⟨rfl, rfl, impl_Angle_orbit_l0_r⟩, trivial⟩
theorem impl_Angle_orbit_e : ∀ v, (evFn (mkCtx Go.K.Link.seat impl_Angle_orbit_c impl_Angle_orbit_tab) (sums impl_Angle_orbit_ls) 167 Go.Proofs.Tryz.f167 (encL impl_Angle_orbit_s.a v)).run = (impl_Angle_orbit_s.gen v).bind fun y => some (impl_Angle_orbit_s.out y) := by
  rintro ⟨a, _⟩
  show _ = (impl_Angle_orbit a).bind fun y : (List (Int × (Int × Unit))) × Int × Bool => some (impl_Angle_orbit_s.out y)
  simp only [impl_Angle_orbit, kb_ite, kb_some, kb_none, kb_bind, kb_alt]
  kernel_rfl
theorem impl_Angle_orbit_is : FnIs Go.Proofs.Tryz.prog 167 (modeOf []) (phi [impl_Angle_orbit_s]) := spec_is (c := impl_Angle_orbit_c) seatOK impl_Angle_orbit_t Go.Proofs.Tryz.func167 rfl (code := impl_Angle_orbit_code) rfl rfl impl_Angle_orbit_rs impl_Angle_orbit_e
noncomputable def impl_orbitOf_s : Spec := ⟨[.v (.pair (.int .i64) (.pair (.int .i64) (.unit))) .fr], (List (Int × (Int × Unit))) × Int × Int, fun v => impl_orbitOf v.1, fun r => ([.v (.sl 27 (.pair (.int .i64) (.pair (.int .i64) (.unit)))) (.own .fr) r.1, .v (.int .i64) .fr r.2.1, .v (.int .i64) .fr r.2.2], [])⟩
noncomputable def impl_orbitOf_ls : List LSum := []
noncomputable def impl_orbitOf_tab : List Row := [⟨167, [], [impl_Angle_orbit_s]⟩, ⟨106, [], [impl_IsAngle_s]⟩]
theorem impl_orbitOf_t : ∀ r, r ∈ impl_orbitOf_tab → RowIs Go.Proofs.Tryz.prog r := tab_cons (impl_Angle_orbit_is) (tab_cons (impl_IsAngle_is) (tab_nil))
theorem impl_orbitOf_rs : RoundsOK (mkCtx Go.K.Link.seat impl_orbitOf_c impl_orbitOf_tab) (sums impl_orbitOf_ls) (loopsOf 0 impl_orbitOf_code) impl_orbitOf_ls := trivial
theorem impl_orbitOf_e : ∀ v, (evFn (mkCtx Go.K.Link.seat impl_orbitOf_c impl_orbitOf_tab) (sums impl_orbitOf_ls) 136 Go.Proofs.Tryz.f136 (encL impl_orbitOf_s.a v)).run = (impl_orbitOf_s.gen v).bind fun y => some (impl_orbitOf_s.out y) := by
  rintro ⟨a, _⟩
  show _ = (impl_orbitOf a).bind fun y : (List (Int × (Int × Unit))) × Int × Int => some (impl_orbitOf_s.out y)
  simp only [impl_orbitOf, kb_ite, kb_some, kb_none, kb_bind, kb_alt]
  kernel_rfl
theorem impl_orbitOf_is : FnIs Go.Proofs.Tryz.prog 136 (modeOf []) (phi [impl_orbitOf_s]) := spec_is (c := impl_orbitOf_c) seatOK impl_orbitOf_t Go.Proofs.Tryz.func136 rfl (code := impl_orbitOf_code) rfl rfl impl_orbitOf_rs impl_orbitOf_e
noncomputable def impl_spelled_code : Code := (Go.Proofs.Tryz.f148.body).getD .skip
def impl_spelled_c : Cfg := ⟨148, [], [[0, 1, 2, 6, 7, 10, 11, 12, 21], [1, 6, 7, 21], [6]], [], [], []⟩
noncomputable def impl_ExpansionOf_f1_code : Code := (Go.Proofs.Tryz.f149.body).getD .skip
def impl_ExpansionOf_f1_c : Cfg := ⟨149, [], [], [], [], []⟩
noncomputable def impl_ExpansionOf_f1_s : Spec := ⟨[.v (.pair (.int .i64) (.pair (.int .i64) (.unit))) .fr], Int, fun v => impl_ExpansionOf_f1 v.1, fun r => ([.v (.int .u8) .fr r], [])⟩
noncomputable def impl_ExpansionOf_f1_ls : List LSum := []
noncomputable def impl_ExpansionOf_f1_tab : List Row := []
theorem impl_ExpansionOf_f1_t : ∀ r, r ∈ impl_ExpansionOf_f1_tab → RowIs Go.Proofs.Tryz.prog r := tab_nil
theorem impl_ExpansionOf_f1_rs : RoundsOK (mkCtx Go.K.Link.seat impl_ExpansionOf_f1_c impl_ExpansionOf_f1_tab) (sums impl_ExpansionOf_f1_ls) (loopsOf 0 impl_ExpansionOf_f1_code) impl_ExpansionOf_f1_ls := trivial
theorem impl_ExpansionOf_f1_e : ∀ v, (evFn (mkCtx Go.K.Link.seat impl_ExpansionOf_f1_c impl_ExpansionOf_f1_tab) (sums impl_ExpansionOf_f1_ls) 149 Go.Proofs.Tryz.f149 (encL impl_ExpansionOf_f1_s.a v)).run = (impl_ExpansionOf_f1_s.gen v).bind fun y => some (impl_ExpansionOf_f1_s.out y) := by
  rintro ⟨a, _⟩
  show _ = (impl_ExpansionOf_f1 a).bind fun y : Int => some (impl_ExpansionOf_f1_s.out y)
  simp only [impl_ExpansionOf_f1, kb_ite, kb_some, kb_none, kb_bind, kb_alt]
  kernel_rfl
theorem impl_ExpansionOf_f1_is : FnIs Go.Proofs.Tryz.prog 149 (modeOf []) (phi [impl_ExpansionOf_f1_s]) := spec_is (c := impl_ExpansionOf_f1_c) seatOK impl_ExpansionOf_f1_t Go.Proofs.Tryz.func149 rfl (code := impl_ExpansionOf_f1_code) rfl rfl impl_ExpansionOf_f1_rs impl_ExpansionOf_f1_e
noncomputable def impl_spelled_l0_s : LSum := ⟨0, ⟨[(0, .val (.sl 27 (.pair (.int .i64) (.pair (.int .i64) (.unit)))) .fr), (0, .val (.int .i64) .fr), (0, .fnl 149 [] []), (3, .val (.ptr (.pair (.str) (.pair (.str) (.unit)))) (.own .fr)), (0, .val (.sl 5 (.int .u8)) (.own .fr)), (2, .val (.sl 27 (.pair (.int .i64) (.pair (.int .i64) (.unit)))) .fr), (0, .val (.int .i64) .fr), (0, .val (.int .i64) .fr)], 19⟩, (.exit 0, ⟨[(1, .val (.int .i64) .fr), (4, .val (.ptr (.pair (.str) (.pair (.str) (.unit)))) (.own .fr)), (0, .val (.sl 5 (.int .u8)) (.own .fr))], 24⟩), [], impl_spelled_l0⟩
noncomputable def impl_sequence_code : Code := (Go.Proofs.Tryz.f157.body).getD .skip
def impl_sequence_c : Cfg := ⟨157, [], [[0, 1, 4], [0, 1, 4], [4]], [], [], []⟩
noncomputable def impl_root_code : Code := (Go.Proofs.Tryz.f185.body).getD .skip
def impl_root_c : Cfg := ⟨185, [], [[0, 3], [0, 3], [2]], [], [], []⟩
noncomputable def strings_Repeat_s : Spec := ⟨[.v (.str) .fr, .v (.int .i64) .fr], List UInt8, fun v => strings_Repeat v.1 v.2.1, fun r => ([.v (.str) .fr r], [])⟩
theorem strings_Repeat_is : FnIs (drI := drZ) Go.Proofs.Tryz.prog 202 (modeOf []) (phi [strings_Repeat_s]) := repeat_is Go.Proofs.Tryz.repL Go.Proofs.Tryz.repX ⟨_, Go.Proofs.Tryz.func202, rfl, rfl⟩
noncomputable def impl_root_l0_s : LSum := ⟨0, ⟨[(0, .val (.str) .fr), (2, .val (.int .i64) .fr)], 22⟩, (.exit 0, ⟨[(0, .val (.str) .fr), (2, .val (.int .i64) .fr)], 22⟩), [], impl_root_l0⟩
noncomputable def impl_root_s : Spec := ⟨[.v (.str) .fr], (List UInt8), fun v => impl_root v.1, fun r => ([.v (.str) .fr r], [])⟩
noncomputable def impl_root_ls : List LSum := [impl_root_l0_s]
noncomputable def impl_root_tab : List Row := [⟨202, [], [strings_Repeat_s]⟩]
theorem impl_root_t : ∀ r, r ∈ impl_root_tab → RowIs (drI := drZ) Go.Proofs.Tryz.prog r := tab_cons (drI := drZ) (strings_Repeat_is) (tab_nil (drI := drZ))
theorem impl_root_l0_r : RoundIs (mkCtx Go.K.Link.seat impl_root_c impl_root_tab) (sums impl_root_ls) 0 (bodyAt (loopsOf 0 impl_root_code) 0) impl_root_l0_s := by
  rintro ⟨word', ⟨n, _⟩⟩
  show _ = (impl_root_l0 (word', (n, ()))).bind fun r : (Ctl ((List UInt8) × Int × Unit) (((List UInt8) × Int × Unit))) => some (ctlVal impl_root_l0_s r)
  simp only [impl_root_l0, kb_ite, kb_some, kb_none, kb_bind, kb_alt]
  kernel_rfl
theorem impl_root_rs : RoundsOK (mkCtx Go.K.Link.seat impl_root_c impl_root_tab) (sums impl_root_ls) (loopsOf 0 impl_root_code) impl_root_ls := ⟨⟨rfl, rfl, impl_root_l0_r⟩, trivial⟩
theorem impl_root_e : ∀ v, (evFn (mkCtx Go.K.Link.seat impl_root_c impl_root_tab) (sums impl_root_ls) 185 Go.Proofs.Tryz.f185 (encL impl_root_s.a v)).run = (impl_root_s.gen v).bind fun y => some (impl_root_s.out y) := by
  rintro ⟨word', _⟩
  show _ = (impl_root word').bind fun y : (List UInt8) => some (impl_root_s.out y)
  simp only [impl_root, kb_ite, kb_some, kb_none, kb_bind, kb_alt]
  kernel_rfl
theorem impl_root_is : FnIs (drI := drZ) Go.Proofs.Tryz.prog 185 (modeOf []) (phi [impl_root_s]) := spec_is (drI := drZ) (c := impl_root_c) seatOK impl_root_t Go.Proofs.Tryz.func185 rfl (code := impl_root_code) rfl rfl impl_root_rs impl_root_e
noncomputable def impl_sequence_l0_s : LSum := ⟨0, ⟨[(0, .val (.str) .fr), (0, .val (.str) .fr), (2, .val (.ptr (.pair (.str) (.pair (.str) (.unit)))) (.own .fr))], 36⟩, (.exit 0, ⟨[(0, .val (.str) .fr), (0, .val (.str) .fr), (2, .val (.ptr (.pair (.str) (.pair (.str) (.unit)))) (.own .fr))], 36⟩), [], impl_sequence_l0⟩
noncomputable def impl_sequence_s : Spec := ⟨[.v (.str) .fr, .v (.str) .fr], ((List UInt8) × ((List UInt8) × Unit)), fun v => impl_sequence v.1 v.2.1, fun r => ([.v (.pair (.str) (.pair (.str) (.unit))) .fr r], [])⟩
noncomputable def impl_sequence_ls : List LSum := [impl_sequence_l0_s]
noncomputable def impl_sequence_tab : List Row := [⟨185, [], [impl_root_s]⟩]
theorem impl_sequence_t : ∀ r, r ∈ impl_sequence_tab → RowIs (drI := drZ) Go.Proofs.Tryz.prog r := tab_cons (drI := drZ) (impl_root_is) (tab_nil (drI := drZ))
theorem impl_sequence_l0_r : RoundIs (mkCtx Go.K.Link.seat impl_sequence_c impl_sequence_tab) (sums impl_sequence_ls) 0 (bodyAt (loopsOf 0 impl_sequence_code) 0) impl_sequence_l0_s := by
  rintro ⟨pre, ⟨per, ⟨t4, _⟩⟩⟩
  show _ = (impl_sequence_l0 (pre, (per, (t4, ())))).bind fun r : (Ctl ((List UInt8) × (List UInt8) × (((List UInt8) × ((List UInt8) × Unit))) × Unit) (((List UInt8) × (List UInt8) × (((List UInt8) × ((List UInt8) × Unit))) × Unit))) => some (ctlVal impl_sequence_l0_s r)
  simp only [impl_sequence_l0, kb_ite, kb_some, kb_none, kb_bind, kb_alt]
  kernel_rfl
theorem impl_sequence_rs : RoundsOK (mkCtx Go.K.Link.seat impl_sequence_c impl_sequence_tab) (sums impl_sequence_ls) (loopsOf 0 impl_sequence_code) impl_sequence_ls := ⟨⟨rfl, rfl, impl_sequence_l0_r⟩, trivial⟩
theorem impl_sequence_e : ∀ v, (evFn (mkCtx Go.K.Link.seat impl_sequence_c impl_sequence_tab) (sums impl_sequence_ls) 157 Go.Proofs.Tryz.f157 (encL impl_sequence_s.a v)).run = (impl_sequence_s.gen v).bind fun y => some (impl_sequence_s.out y) := by
  rintro ⟨pre, ⟨per, _⟩⟩
  show _ = (impl_sequence pre per).bind fun y : ((List UInt8) × ((List UInt8) × Unit)) => some (impl_sequence_s.out y)
  simp only [impl_sequence, kb_ite, kb_some, kb_none, kb_bind, kb_alt]
  kernel_rfl
theorem impl_sequence_is : FnIs (drI := drZ) Go.Proofs.Tryz.prog 157 (modeOf []) (phi [impl_sequence_s]) := spec_is (drI := drZ) (c := impl_sequence_c) seatOK impl_sequence_t Go.Proofs.Tryz.func157 rfl (code := impl_sequence_code) rfl rfl impl_sequence_rs impl_sequence_e
noncomputable def impl_spelled_s : Spec := ⟨[.v (.sl 27 (.pair (.int .i64) (.pair (.int .i64) (.unit)))) .fr, .v (.int .i64) .fr, .fn 149 [] []], ((List UInt8) × ((List UInt8) × Unit)), fun v => impl_spelled v.1 v.2.1, fun r => ([.v (.pair (.str) (.pair (.str) (.unit))) .fr r], [])⟩
noncomputable def impl_spelled_ls : List LSum := [impl_spelled_l0_s]
noncomputable def impl_spelled_tab : List Row := [⟨149, [], [impl_ExpansionOf_f1_s]⟩, ⟨157, [], [impl_sequence_s]⟩]
theorem impl_spelled_t : ∀ r, r ∈ impl_spelled_tab → RowIs (drI := drZ) Go.Proofs.Tryz.prog r := tab_cons (drI := drZ) ((weak_is impl_ExpansionOf_f1_is)) (tab_cons (drI := drZ) (impl_sequence_is) (tab_nil (drI := drZ)))
theorem impl_spelled_l0_r : RoundIs (mkCtx Go.K.Link.seat impl_spelled_c impl_spelled_tab) (sums impl_spelled_ls) 0 (bodyAt (loopsOf 0 impl_spelled_code) 0) impl_spelled_l0_s := by
  rintro ⟨list, ⟨pre, ⟨_, _, ⟨t6, ⟨word', ⟨t10, ⟨t11, ⟨t12, _⟩⟩⟩⟩⟩⟩⟩⟩
  show _ = (impl_spelled_l0 (list, (pre, ((), (), (t6, (word', (t10, (t11, (t12, ()))))))))).bind fun r : (Ctl ((List (Int × (Int × Unit))) × Int × Unit × Unit × (((List UInt8) × ((List UInt8) × Unit))) × (List Int) × (List (Int × (Int × Unit))) × Int × Int × Unit) ((Int × (((List UInt8) × ((List UInt8) × Unit))) × (List Int) × Unit))) => some (ctlVal impl_spelled_l0_s r)
  simp only [impl_spelled_l0, kb_ite, kb_some, kb_none, kb_bind, kb_alt]
  kernel_rfl
theorem impl_spelled_rs : RoundsOK (mkCtx Go.K.Link.seat impl_spelled_c impl_spelled_tab) (sums impl_spelled_ls) (loopsOf 0 impl_spelled_code) impl_spelled_ls := ⟨⟨rfl, rfl, impl_spelled_l0_r⟩, trivial⟩
theorem impl_spelled_e : ∀ v, (evFn (mkCtx Go.K.Link.seat impl_spelled_c impl_spelled_tab) (sums impl_spelled_ls) 148 Go.Proofs.Tryz.f148 (encL impl_spelled_s.a v)).run = (impl_spelled_s.gen v).bind fun y => some (impl_spelled_s.out y) := by
  rintro ⟨list, ⟨pre, ⟨⟨_, _⟩, _⟩⟩⟩
  show _ = (impl_spelled list pre).bind fun y : ((List UInt8) × ((List UInt8) × Unit)) => some (impl_spelled_s.out y)
  simp only [impl_spelled, kb_ite, kb_some, kb_none, kb_bind, kb_alt]
  kernel_rfl
theorem impl_spelled_is : FnIs (drI := drZ) Go.Proofs.Tryz.prog 148 (modeOf []) (phi [impl_spelled_s]) := spec_is (drI := drZ) (c := impl_spelled_c) seatOK impl_spelled_t Go.Proofs.Tryz.func148 rfl (code := impl_spelled_code) rfl rfl impl_spelled_rs impl_spelled_e
noncomputable def impl_ExpansionOf_s : Spec := ⟨[.v (.pair (.int .i64) (.pair (.int .i64) (.unit))) .fr], ((List UInt8) × ((List UInt8) × Unit)) × Int, fun v => impl_ExpansionOf v.1, fun r => ([.v (.pair (.str) (.pair (.str) (.unit))) .fr r.1, .v (.int .i64) .fr r.2], [])⟩
noncomputable def impl_ExpansionOf_ls : List LSum := []
noncomputable def impl_ExpansionOf_tab : List Row := [⟨136, [], [impl_orbitOf_s]⟩, ⟨148, [], [impl_spelled_s]⟩]
theorem impl_ExpansionOf_t : ∀ r, r ∈ impl_ExpansionOf_tab → RowIs (drI := drZ) Go.Proofs.Tryz.prog r := tab_cons (drI := drZ) ((weak_is impl_orbitOf_is)) (tab_cons (drI := drZ) (impl_spelled_is) (tab_nil (drI := drZ)))
theorem impl_ExpansionOf_rs : RoundsOK (mkCtx Go.K.Link.seat impl_ExpansionOf_c impl_ExpansionOf_tab) (sums impl_ExpansionOf_ls) (loopsOf 0 impl_ExpansionOf_code) impl_ExpansionOf_ls := trivial
theorem impl_ExpansionOf_e : ∀ v, (evFn (mkCtx Go.K.Link.seat impl_ExpansionOf_c impl_ExpansionOf_tab) (sums impl_ExpansionOf_ls) 80 Go.Proofs.Tryz.f80 (encL impl_ExpansionOf_s.a v)).run = (impl_ExpansionOf_s.gen v).bind fun y => some (impl_ExpansionOf_s.out y) := by
  rintro ⟨a, _⟩
  show _ = (impl_ExpansionOf a).bind fun y : ((List UInt8) × ((List UInt8) × Unit)) × Int => some (impl_ExpansionOf_s.out y)
  simp only [impl_ExpansionOf, kb_ite, kb_some, kb_none, kb_bind, kb_alt]
  kernel_rfl
theorem impl_ExpansionOf_is : FnIs (drI := drZ) Go.Proofs.Tryz.prog 80 (modeOf []) (phi [impl_ExpansionOf_s]) := spec_is (drI := drZ) (c := impl_ExpansionOf_c) seatOK impl_ExpansionOf_t Go.Proofs.Tryz.func80 rfl (code := impl_ExpansionOf_code) rfl rfl impl_ExpansionOf_rs impl_ExpansionOf_e
noncomputable def impl_Sequence_at_code : Code := (Go.Proofs.Tryz.f156.body).getD .skip
def impl_Sequence_at_c : Cfg := ⟨156, [], [], [], [], []⟩
noncomputable def impl_Sequence_at_s : Spec := ⟨[.v (.pair (.str) (.pair (.str) (.unit))) .fr, .v (.int .i64) .fr], Int, fun v => impl_Sequence_at v.1 v.2.1, fun r => ([.v (.int .u8) .fr r], [])⟩
noncomputable def impl_Sequence_at_ls : List LSum := []
noncomputable def impl_Sequence_at_tab : List Row := []
theorem impl_Sequence_at_t : ∀ r, r ∈ impl_Sequence_at_tab → RowIs Go.Proofs.Tryz.prog r := tab_nil
theorem impl_Sequence_at_rs : RoundsOK (mkCtx Go.K.Link.seat impl_Sequence_at_c impl_Sequence_at_tab) (sums impl_Sequence_at_ls) (loopsOf 0 impl_Sequence_at_code) impl_Sequence_at_ls := trivial
theorem impl_Sequence_at_e : ∀ v, (evFn (mkCtx Go.K.Link.seat impl_Sequence_at_c impl_Sequence_at_tab) (sums impl_Sequence_at_ls) 156 Go.Proofs.Tryz.f156 (encL impl_Sequence_at_s.a v)).run = (impl_Sequence_at_s.gen v).bind fun y => some (impl_Sequence_at_s.out y) := by
  rintro ⟨s, ⟨k, _⟩⟩
  show _ = (impl_Sequence_at s k).bind fun y : Int => some (impl_Sequence_at_s.out y)
  simp only [impl_Sequence_at, kb_ite, kb_some, kb_none, kb_bind, kb_alt]
  kernel_rfl
theorem impl_Sequence_at_is : FnIs Go.Proofs.Tryz.prog 156 (modeOf []) (phi [impl_Sequence_at_s]) := spec_is (c := impl_Sequence_at_c) seatOK impl_Sequence_at_t Go.Proofs.Tryz.func156 rfl (code := impl_Sequence_at_code) rfl rfl impl_Sequence_at_rs impl_Sequence_at_e
noncomputable def impl_wordsOf_l1_s : LSum := ⟨2, ⟨[(2, .val (.ptr (.pair (.int .i64) (.pair (.arr 2 (.str)) (.unit)))) (.own .fr)), (0, .val (.int .i64) .fr), (0, .val (.ptr (.pair (.int .i64) (.pair (.arr 2 (.str)) (.unit)))) (.own .fr)), (0, .val (.int .i64) .fr), (1, .val (.ptr (.pair (.str) (.pair (.str) (.unit)))) (.own .fr)), (11, .val (.sl 27 (.pair (.int .i64) (.pair (.int .i64) (.unit)))) (.own .fr)), (0, .val (.int .i64) .fr), (0, .val (.int .i64) .fr), (9, .val (.int .i64) .fr), (0, .val (.int .i64) .fr)], 16⟩, (.exit 2, ⟨[(2, .val (.ptr (.pair (.int .i64) (.pair (.arr 2 (.str)) (.unit)))) (.own .fr)), (0, .val (.int .i64) .fr), (0, .val (.ptr (.pair (.int .i64) (.pair (.arr 2 (.str)) (.unit)))) (.own .fr)), (14, .val (.sl 27 (.pair (.int .i64) (.pair (.int .i64) (.unit)))) (.own .fr)), (0, .val (.int .i64) .fr), (0, .val (.int .i64) .fr)], 27⟩), [], impl_wordsOf_l1⟩
noncomputable def impl_wordsOf_l0_s : LSum := ⟨0, ⟨[(2, .val (.ptr (.pair (.int .i64) (.pair (.arr 2 (.str)) (.unit)))) (.own .fr)), (0, .val (.int .i64) .fr), (0, .val (.ptr (.pair (.int .i64) (.pair (.arr 2 (.str)) (.unit)))) (.own .fr)), (14, .val (.sl 27 (.pair (.int .i64) (.pair (.int .i64) (.unit)))) (.own .fr)), (0, .val (.int .i64) .fr), (0, .val (.int .i64) .fr)], 27⟩, (.exit 0, ⟨[(2, .val (.ptr (.pair (.int .i64) (.pair (.arr 2 (.str)) (.unit)))) (.own .fr)), (1, .val (.ptr (.pair (.int .i64) (.pair (.arr 2 (.str)) (.unit)))) (.own .fr))], 44⟩), [], impl_wordsOf_l0⟩
noncomputable def impl_wordsOf_s : Spec := ⟨[.v (.pair (.pair (.int .i64) (.pair (.int .i64) (.unit))) (.pair (.pair (.int .i64) (.pair (.int .i64) (.unit))) (.unit))) .fr], (Int × ((List (List UInt8)) × Unit)), fun v => impl_wordsOf v.1, fun r => ([.v (.pair (.int .i64) (.pair (.arr 2 (.str)) (.unit))) .fr r], [])⟩
noncomputable def impl_wordsOf_ls : List LSum := [impl_wordsOf_l0_s, impl_wordsOf_l1_s]
noncomputable def impl_wordsOf_tab : List Row := [⟨156, [], [impl_Sequence_at_s]⟩, ⟨80, [], [impl_ExpansionOf_s]⟩, ⟨93, [], [impl_periodOf_s]⟩]
theorem impl_wordsOf_t : ∀ r, r ∈ impl_wordsOf_tab → RowIs (drI := drZ) Go.Proofs.Tryz.prog r := tab_cons (drI := drZ) ((weak_is impl_Sequence_at_is)) (tab_cons (drI := drZ) (impl_ExpansionOf_is) (tab_cons (drI := drZ) ((weak_is impl_periodOf_is)) (tab_nil (drI := drZ))))
theorem impl_wordsOf_l0_r : RoundIs (mkCtx Go.K.Link.seat impl_wordsOf_c impl_wordsOf_tab) (sums impl_wordsOf_ls) 0 (bodyAt (loopsOf 0 impl_wordsOf_code) 0) impl_wordsOf_l0_s := by
  rintro ⟨t2, ⟨n, ⟨w, ⟨t19, ⟨t20, ⟨t21, _⟩⟩⟩⟩⟩⟩
  show _ = (impl_wordsOf_l0 (t2, (n, (w, (t19, (t20, (t21, ()))))))).bind fun r : (Ctl (((Int × ((List (List UInt8)) × Unit))) × Int × ((Int × ((List (List UInt8)) × Unit))) × (List (Int × (Int × Unit))) × Int × Int × Unit) ((((Int × ((List (List UInt8)) × Unit))) × ((Int × ((List (List UInt8)) × Unit))) × Unit))) => some (ctlVal impl_wordsOf_l0_s r)
  simp only [impl_wordsOf_l0, kb_ite, kb_some, kb_none, kb_bind, kb_alt]
  kernel_rfl
theorem impl_wordsOf_l1_r : RoundIs (mkCtx Go.K.Link.seat impl_wordsOf_c impl_wordsOf_tab) (sums impl_wordsOf_ls) 2 (bodyAt (loopsOf 0 impl_wordsOf_code) 1) impl_wordsOf_l1_s := by
  rintro ⟨t2, ⟨n, ⟨w, ⟨i, ⟨s, ⟨t19, ⟨t20, ⟨t21, ⟨t31, ⟨t32, _⟩⟩⟩⟩⟩⟩⟩⟩⟩⟩
  show _ = (impl_wordsOf_l1 (t2, (n, (w, (i, (s, (t19, (t20, (t21, (t31, (t32, ()))))))))))).bind fun r : (Ctl (((Int × ((List (List UInt8)) × Unit))) × Int × ((Int × ((List (List UInt8)) × Unit))) × Int × (((List UInt8) × ((List UInt8) × Unit))) × (List (Int × (Int × Unit))) × Int × Int × Int × Int × Unit) ((((Int × ((List (List UInt8)) × Unit))) × Int × ((Int × ((List (List UInt8)) × Unit))) × (List (Int × (Int × Unit))) × Int × Int × Unit))) => some (ctlVal impl_wordsOf_l1_s r)
  simp only [impl_wordsOf_l1, kb_ite, kb_some, kb_none, kb_bind, kb_alt]
  kernel_rfl
theorem impl_wordsOf_rs : RoundsOK (mkCtx Go.K.Link.seat impl_wordsOf_c impl_wordsOf_tab) (sums impl_wordsOf_ls) (loopsOf 0 impl_wordsOf_code) impl_wordsOf_ls := ⟨⟨rfl, rfl, impl_wordsOf_l0_r⟩, ⟨⟨rfl, rfl, impl_wordsOf_l1_r⟩, trivial⟩⟩
theorem impl_wordsOf_e : ∀ v, (evFn (mkCtx Go.K.Link.seat impl_wordsOf_c impl_wordsOf_tab) (sums impl_wordsOf_ls) 102 Go.Proofs.Tryz.f102 (encL impl_wordsOf_s.a v)).run = (impl_wordsOf_s.gen v).bind fun y => some (impl_wordsOf_s.out y) := by
  rintro ⟨p, _⟩
  show _ = (impl_wordsOf p).bind fun y : (Int × ((List (List UInt8)) × Unit)) => some (impl_wordsOf_s.out y)
  simp only [impl_wordsOf, kb_ite, kb_some, kb_none, kb_bind, kb_alt]
  kernel_rfl
theorem impl_wordsOf_is : FnIs (drI := drZ) Go.Proofs.Tryz.prog 102 (modeOf []) (phi [impl_wordsOf_s]) := spec_is (drI := drZ) (c := impl_wordsOf_c) seatOK impl_wordsOf_t Go.Proofs.Tryz.func102 rfl (code := impl_wordsOf_code) rfl rfl impl_wordsOf_rs impl_wordsOf_e
noncomputable def impl_wordsFor_s : Spec := ⟨[.v (.pair (.int .i64) (.pair (.int .i64) (.unit))) .fr, .v (.sl 27 (.pair (.int .i64) (.pair (.int .i64) (.unit)))) .fr], (Int × ((List (List UInt8)) × Unit)) × Int, fun v => impl_wordsFor v.1 v.2.1, fun r => ([.v (.pair (.int .i64) (.pair (.arr 2 (.str)) (.unit))) .fr r.1, .v (.int .i64) .fr r.2], [])⟩
noncomputable def impl_wordsFor_ls : List LSum := []
noncomputable def impl_wordsFor_tab : List Row := [⟨58, [], [impl_PairOf_s]⟩, ⟨92, [], [impl_anglesCode_s]⟩, ⟨102, [], [impl_wordsOf_s]⟩]
theorem impl_wordsFor_t : ∀ r, r ∈ impl_wordsFor_tab → RowIs (drI := drZ) Go.Proofs.Tryz.prog r := tab_cons (drI := drZ) ((weak_is impl_PairOf_is)) (tab_cons (drI := drZ) ((weak_is impl_anglesCode_is)) (tab_cons (drI := drZ) (impl_wordsOf_is) (tab_nil (drI := drZ))))
theorem impl_wordsFor_rs : RoundsOK (mkCtx Go.K.Link.seat impl_wordsFor_c impl_wordsFor_tab) (sums impl_wordsFor_ls) (loopsOf 0 impl_wordsFor_code) impl_wordsFor_ls := trivial
theorem impl_wordsFor_e : ∀ v, (evFn (mkCtx Go.K.Link.seat impl_wordsFor_c impl_wordsFor_tab) (sums impl_wordsFor_ls) 88 Go.Proofs.Tryz.f88 (encL impl_wordsFor_s.a v)).run = (impl_wordsFor_s.gen v).bind fun y => some (impl_wordsFor_s.out y) := by
  rintro ⟨t, ⟨others, _⟩⟩
  show _ = (impl_wordsFor t others).bind fun y : (Int × ((List (List UInt8)) × Unit)) × Int => some (impl_wordsFor_s.out y)
  simp only [impl_wordsFor, kb_ite, kb_some, kb_none, kb_bind, kb_alt]
  kernel_rfl
theorem impl_wordsFor_is : FnIs (drI := drZ) Go.Proofs.Tryz.prog 88 (modeOf []) (phi [impl_wordsFor_s]) := spec_is (drI := drZ) (c := impl_wordsFor_c) seatOK impl_wordsFor_t Go.Proofs.Tryz.func88 rfl (code := impl_wordsFor_code) rfl rfl impl_wordsFor_rs impl_wordsFor_e
noncomputable def impl_bothPairs_s : Spec := ⟨[.v (.pair (.int .i64) (.pair (.int .i64) (.unit))) .fr, .v (.pair (.int .i64) (.pair (.int .i64) (.unit))) .fr], (Int × ((List (List UInt8)) × Unit)) × ((Int × (Int × Unit)) × ((Int × (Int × Unit)) × Unit)) × Int, fun v => impl_bothPairs v.1 v.2.1, fun r => ([.v (.pair (.int .i64) (.pair (.arr 2 (.str)) (.unit))) .fr r.1, .v (.pair (.pair (.int .i64) (.pair (.int .i64) (.unit))) (.pair (.pair (.int .i64) (.pair (.int .i64) (.unit))) (.unit))) .fr r.2.1, .v (.int .i64) .fr r.2.2], [])⟩
noncomputable def impl_bothPairs_ls : List LSum := []
noncomputable def impl_bothPairs_tab : List Row := [⟨58, [], [impl_PairOf_s]⟩, ⟨88, [], [impl_wordsFor_s]⟩]
theorem impl_bothPairs_t : ∀ r, r ∈ impl_bothPairs_tab → RowIs (drI := drZ) Go.Proofs.Tryz.prog r := tab_cons (drI := drZ) ((weak_is impl_PairOf_is)) (tab_cons (drI := drZ) (impl_wordsFor_is) (tab_nil (drI := drZ)))
theorem impl_bothPairs_rs : RoundsOK (mkCtx Go.K.Link.seat impl_bothPairs_c impl_bothPairs_tab) (sums impl_bothPairs_ls) (loopsOf 0 impl_bothPairs_code) impl_bothPairs_ls := trivial
theorem impl_bothPairs_e : ∀ v, (evFn (mkCtx Go.K.Link.seat impl_bothPairs_c impl_bothPairs_tab) (sums impl_bothPairs_ls) 101 Go.Proofs.Tryz.f101 (encL impl_bothPairs_s.a v)).run = (impl_bothPairs_s.gen v).bind fun y => some (impl_bothPairs_s.out y) := by
  rintro ⟨t, ⟨x, _⟩⟩
  show _ = (impl_bothPairs t x).bind fun y : (Int × ((List (List UInt8)) × Unit)) × ((Int × (Int × Unit)) × ((Int × (Int × Unit)) × Unit)) × Int => some (impl_bothPairs_s.out y)
  simp only [impl_bothPairs, kb_ite, kb_some, kb_none, kb_bind, kb_alt]
  kernel_rfl
theorem impl_bothPairs_is : FnIs (drI := drZ) Go.Proofs.Tryz.prog 101 (modeOf []) (phi [impl_bothPairs_s]) := spec_is (drI := drZ) (c := impl_bothPairs_c) seatOK impl_bothPairs_t Go.Proofs.Tryz.func101 rfl (code := impl_bothPairs_code) rfl rfl impl_bothPairs_rs impl_bothPairs_e
noncomputable def impl_words_put_code : Code := (Go.Proofs.Tryz.f103.body).getD .skip
def impl_words_put_c : Cfg := ⟨103, [], [[2, 5, 9, 10, 11], [5], [4]], [], [], []⟩
noncomputable def impl_words_put_l0_s : LSum := ⟨0, ⟨[(2, .val (.ptr (.pair (.int .i64) (.pair (.arr 2 (.str)) (.unit)))) (.own .fr)), (2, .val (.str) .fr), (3, .val (.sl 5 (.int .u8)) .fr), (0, .val (.int .i64) .fr), (0, .val (.int .i64) .fr)], 12⟩, (.exit 0, ⟨[(5, .val (.str) .fr)], 18⟩), [], impl_words_put_l0⟩
noncomputable def impl_words_put_s : Spec := ⟨[.v (.pair (.int .i64) (.pair (.arr 2 (.str)) (.unit))) .fr, .v (.str) .fr], (List UInt8), fun v => impl_words_put v.1 v.2.1, fun r => ([.v (.str) .fr r], [])⟩
noncomputable def impl_words_put_ls : List LSum := [impl_words_put_l0_s]
noncomputable def impl_words_put_tab : List Row := []
theorem impl_words_put_t : ∀ r, r ∈ impl_words_put_tab → RowIs Go.Proofs.Tryz.prog r := tab_nil
theorem impl_words_put_l0_r : RoundIs (mkCtx Go.K.Link.seat impl_words_put_c impl_words_put_tab) (sums impl_words_put_ls) 0 (bodyAt (loopsOf 0 impl_words_put_code) 0) impl_words_put_l0_s := by
  rintro ⟨w, ⟨out, ⟨t9, ⟨t10, ⟨t11, _⟩⟩⟩⟩⟩
  show _ = (impl_words_put_l0 (w, (out, (t9, (t10, (t11, ())))))).bind fun r : (Ctl (((Int × ((List (List UInt8)) × Unit))) × (List UInt8) × (List Int) × Int × Int × Unit) (((List UInt8) × Unit))) => some (ctlVal impl_words_put_l0_s r)
  simp only [impl_words_put_l0, kb_ite, kb_some, kb_none, kb_bind, kb_alt]
  kernel_rfl
theorem impl_words_put_rs : RoundsOK (mkCtx Go.K.Link.seat impl_words_put_c impl_words_put_tab) (sums impl_words_put_ls) (loopsOf 0 impl_words_put_code) impl_words_put_ls := ⟨⟨rfl, rfl, impl_words_put_l0_r⟩, trivial⟩
theorem impl_words_put_e : ∀ v, (evFn (mkCtx Go.K.Link.seat impl_words_put_c impl_words_put_tab) (sums impl_words_put_ls) 103 Go.Proofs.Tryz.f103 (encL impl_words_put_s.a v)).run = (impl_words_put_s.gen v).bind fun y => some (impl_words_put_s.out y) := by
  rintro ⟨w, ⟨letters, _⟩⟩
  show _ = (impl_words_put w letters).bind fun y : (List UInt8) => some (impl_words_put_s.out y)
  simp only [impl_words_put, kb_ite, kb_some, kb_none, kb_bind, kb_alt]
  kernel_rfl
theorem impl_words_put_is : FnIs Go.Proofs.Tryz.prog 103 (modeOf []) (phi [impl_words_put_s]) := spec_is (c := impl_words_put_c) seatOK impl_words_put_t Go.Proofs.Tryz.func103 rfl (code := impl_words_put_code) rfl rfl impl_words_put_rs impl_words_put_e
noncomputable def impl_TunedWords_s : Spec := ⟨[.v (.pair (.int .i64) (.pair (.int .i64) (.unit))) .fr, .v (.pair (.int .i64) (.pair (.int .i64) (.unit))) .fr], (List (List UInt8)) × Int, fun v => impl_TunedWords v.1 v.2.1, fun r => ([.v (.sl 9 (.str)) (.own .fr) r.1, .v (.int .i64) .fr r.2], [])⟩
noncomputable def impl_TunedWords_ls : List LSum := []
noncomputable def impl_TunedWords_tab : List Row := [⟨101, [], [impl_bothPairs_s]⟩, ⟨102, [], [impl_wordsOf_s]⟩, ⟨103, [], [impl_words_put_s]⟩]
theorem impl_TunedWords_t : ∀ r, r ∈ impl_TunedWords_tab → RowIs (drI := drZ) Go.Proofs.Tryz.prog r := tab_cons (drI := drZ) (impl_bothPairs_is) (tab_cons (drI := drZ) (impl_wordsOf_is) (tab_cons (drI := drZ) ((weak_is impl_words_put_is)) (tab_nil (drI := drZ))))
theorem impl_TunedWords_rs : RoundsOK (mkCtx Go.K.Link.seat impl_TunedWords_c impl_TunedWords_tab) (sums impl_TunedWords_ls) (loopsOf 0 impl_TunedWords_code) impl_TunedWords_ls := trivial
theorem impl_TunedWords_e : ∀ v, (evFn (mkCtx Go.K.Link.seat impl_TunedWords_c impl_TunedWords_tab) (sums impl_TunedWords_ls) 26 Go.Proofs.Tryz.f26 (encL impl_TunedWords_s.a v)).run = (impl_TunedWords_s.gen v).bind fun y => some (impl_TunedWords_s.out y) := by
  rintro ⟨t, ⟨x, _⟩⟩
  show _ = (impl_TunedWords t x).bind fun y : (List (List UInt8)) × Int => some (impl_TunedWords_s.out y)
  simp only [impl_TunedWords, kb_ite, kb_some, kb_none, kb_bind, kb_alt]
  kernel_rfl
theorem impl_TunedWords_is : FnIs (drI := drZ) Go.Proofs.Tryz.prog 26 (modeOf []) (phi [impl_TunedWords_s]) := spec_is (drI := drZ) (c := impl_TunedWords_c) seatOK impl_TunedWords_t Go.Proofs.Tryz.func26 rfl (code := impl_TunedWords_code) rfl rfl impl_TunedWords_rs impl_TunedWords_e
noncomputable def laws_eqStringS_code : Code := (Go.Proofs.Tryz.f18.body).getD .skip
def laws_eqStringS_c : Cfg := ⟨18, [], [[0, 1, 5], [], [4]], [], [], []⟩
noncomputable def laws_eqStringS_l0_s : LSum := ⟨0, ⟨[(0, .val (.sl 9 (.str)) .fr), (0, .val (.sl 9 (.str)) .fr), (3, .val (.int .i64) .fr)], 20⟩, (.ret, ⟨[(4, .val (.bool) .fr)], 21⟩), [(.exit 0, ⟨[], 26⟩)], laws_eqStringS_l0⟩
noncomputable def laws_eqStringS_s : Spec := ⟨[.v (.sl 9 (.str)) .fr, .v (.sl 9 (.str)) .fr], Bool, fun v => laws_eqStringS v.1 v.2.1, fun r => ([.v (.bool) .fr r], [])⟩
noncomputable def laws_eqStringS_ls : List LSum := [laws_eqStringS_l0_s]
noncomputable def laws_eqStringS_tab : List Row := []
theorem laws_eqStringS_t : ∀ r, r ∈ laws_eqStringS_tab → RowIs Go.Proofs.Tryz.prog r := tab_nil
theorem laws_eqStringS_l0_r : RoundIs (mkCtx Go.K.Link.seat laws_eqStringS_c laws_eqStringS_tab) (sums laws_eqStringS_ls) 0 (bodyAt (loopsOf 0 laws_eqStringS_code) 0) laws_eqStringS_l0_s := by
  rintro ⟨a, ⟨b, ⟨i, _⟩⟩⟩
  show _ = (laws_eqStringS_l0 (a, (b, (i, ())))).bind fun r : (Ctl ((List (List UInt8)) × (List (List UInt8)) × Int × Unit) ((Bool × Unit) ⊕ (Unit))) => some (ctlVal laws_eqStringS_l0_s r)
  simp only [laws_eqStringS_l0, kb_ite, kb_some, kb_none, kb_bind, kb_alt]
  kernel_rfl
theorem laws_eqStringS_rs : RoundsOK (mkCtx Go.K.Link.seat laws_eqStringS_c laws_eqStringS_tab) (sums laws_eqStringS_ls) (loopsOf 0 laws_eqStringS_code) laws_eqStringS_ls := ⟨⟨rfl, rfl, laws_eqStringS_l0_r⟩, trivial⟩
theorem laws_eqStringS_e : ∀ v, (evFn (mkCtx Go.K.Link.seat laws_eqStringS_c laws_eqStringS_tab) (sums laws_eqStringS_ls) 18 Go.Proofs.Tryz.f18 (encL laws_eqStringS_s.a v)).run = (laws_eqStringS_s.gen v).bind fun y => some (laws_eqStringS_s.out y) := by
  rintro ⟨a, ⟨b, _⟩⟩
  show _ = (laws_eqStringS a b).bind fun y : Bool => some (laws_eqStringS_s.out y)
  simp only [laws_eqStringS, kb_ite, kb_some, kb_none, kb_bind, kb_alt]
  kernel_rfl
theorem laws_eqStringS_is : FnIs Go.Proofs.Tryz.prog 18 (modeOf []) (phi [laws_eqStringS_s]) := spec_is (c := laws_eqStringS_c) seatOK laws_eqStringS_t Go.Proofs.Tryz.func18 rfl (code := laws_eqStringS_code) rfl rfl laws_eqStringS_rs laws_eqStringS_e
noncomputable def laws_markStringS_code : Code := (Go.Proofs.Tryz.f19.body).getD .skip
def laws_markStringS_c : Cfg := ⟨19, [.mut], [[0, 1, 5], [0, 1], [0, 4]], [], [], []⟩
noncomputable def laws_markText_code : Code := (Go.Proofs.Tryz.f89.body).getD .skip
def laws_markText_c : Cfg := ⟨89, [], [[0, 3], [3], [2]], [], [], []⟩
noncomputable def laws_markText_l0_s : LSum := ⟨0, ⟨[(0, .val (.int .i64) .fr), (2, .val (.str) .fr)], 16⟩, (.exit 0, ⟨[(3, .val (.str) .fr)], 16⟩), [], laws_markText_l0⟩
noncomputable def laws_markText_s : Spec := ⟨[.v (.int .i64) .fr], (List UInt8), fun v => laws_markText v.1, fun r => ([.v (.str) .fr r], [])⟩
noncomputable def laws_markText_ls : List LSum := [laws_markText_l0_s]
noncomputable def laws_markText_tab : List Row := []
theorem laws_markText_t : ∀ r, r ∈ laws_markText_tab → RowIs Go.Proofs.Tryz.prog r := tab_nil
theorem laws_markText_l0_r : RoundIs (mkCtx Go.K.Link.seat laws_markText_c laws_markText_tab) (sums laws_markText_ls) 0 (bodyAt (loopsOf 0 laws_markText_code) 0) laws_markText_l0_s := by
  rintro ⟨k, ⟨out, _⟩⟩
  show _ = (laws_markText_l0 (k, (out, ()))).bind fun r : (Ctl (Int × (List UInt8) × Unit) (((List UInt8) × Unit))) => some (ctlVal laws_markText_l0_s r)
  simp only [laws_markText_l0, kb_ite, kb_some, kb_none, kb_bind, kb_alt]
  kernel_rfl
theorem laws_markText_rs : RoundsOK (mkCtx Go.K.Link.seat laws_markText_c laws_markText_tab) (sums laws_markText_ls) (loopsOf 0 laws_markText_code) laws_markText_ls := ⟨⟨rfl, rfl, laws_markText_l0_r⟩, trivial⟩
theorem laws_markText_e : ∀ v, (evFn (mkCtx Go.K.Link.seat laws_markText_c laws_markText_tab) (sums laws_markText_ls) 89 Go.Proofs.Tryz.f89 (encL laws_markText_s.a v)).run = (laws_markText_s.gen v).bind fun y => some (laws_markText_s.out y) := by
  rintro ⟨k, _⟩
  show _ = (laws_markText k).bind fun y : (List UInt8) => some (laws_markText_s.out y)
  simp only [laws_markText, kb_ite, kb_some, kb_none, kb_bind, kb_alt]
  kernel_rfl
theorem laws_markText_is : FnIs Go.Proofs.Tryz.prog 89 (modeOf []) (phi [laws_markText_s]) := spec_is (c := laws_markText_c) seatOK laws_markText_t Go.Proofs.Tryz.func89 rfl (code := laws_markText_code) rfl rfl laws_markText_rs laws_markText_e
noncomputable def laws_markStringS_l0_s : LSum := ⟨0, ⟨[(0, .val (.sl 9 (.str)) (.own .fr)), (0, .val (.int .i64) .fr), (3, .val (.int .i64) .fr)], 14⟩, (.exit 0, ⟨[(0, .val (.sl 9 (.str)) (.own .fr)), (0, .val (.int .i64) .fr)], 18⟩), [], laws_markStringS_l0⟩
noncomputable def laws_markStringS_s : Spec := ⟨[.v (.sl 9 (.str)) (.own .fr), .v (.int .i64) .fr], Int × (List (List UInt8)), fun v => laws_markStringS v.1 v.2.1, fun r => ([.v (.int .i64) .fr r.1], [.v (.sl 9 (.str)) (.own .fr) r.2])⟩
noncomputable def laws_markStringS_ls : List LSum := [laws_markStringS_l0_s]
noncomputable def laws_markStringS_tab : List Row := [⟨89, [], [laws_markText_s]⟩]
theorem laws_markStringS_t : ∀ r, r ∈ laws_markStringS_tab → RowIs Go.Proofs.Tryz.prog r := tab_cons (laws_markText_is) (tab_nil)
theorem laws_markStringS_l0_r : RoundIs (mkCtx Go.K.Link.seat laws_markStringS_c laws_markStringS_tab) (sums laws_markStringS_ls) 0 (bodyAt (loopsOf 0 laws_markStringS_code) 0) laws_markStringS_l0_s := by
  rintro ⟨a, ⟨k, ⟨i, _⟩⟩⟩
  show _ = (laws_markStringS_l0 (a, (k, (i, ())))).bind fun r : (Ctl ((List (List UInt8)) × Int × Int × Unit) (((List (List UInt8)) × Int × Unit))) => some (ctlVal laws_markStringS_l0_s r)
  simp only [laws_markStringS_l0, kb_ite, kb_some, kb_none, kb_bind, kb_alt]
  kernel_rfl
theorem laws_markStringS_rs : RoundsOK (mkCtx Go.K.Link.seat laws_markStringS_c laws_markStringS_tab) (sums laws_markStringS_ls) (loopsOf 0 laws_markStringS_code) laws_markStringS_ls := ⟨⟨rfl, rfl, laws_markStringS_l0_r⟩, trivial⟩
theorem laws_markStringS_e : ∀ v, (evFn (mkCtx Go.K.Link.seat laws_markStringS_c laws_markStringS_tab) (sums laws_markStringS_ls) 19 Go.Proofs.Tryz.f19 (encL laws_markStringS_s.a v)).run = (laws_markStringS_s.gen v).bind fun y => some (laws_markStringS_s.out y) := by
  rintro ⟨a, ⟨k, _⟩⟩
  show _ = (laws_markStringS a k).bind fun y : Int × (List (List UInt8)) => some (laws_markStringS_s.out y)
  simp only [laws_markStringS, kb_ite, kb_some, kb_none, kb_bind, kb_alt]
  kernel_rfl
theorem laws_markStringS_is : FnIs Go.Proofs.Tryz.prog 19 (modeOf [.mut]) (phi [laws_markStringS_s]) := spec_is (c := laws_markStringS_c) seatOK laws_markStringS_t Go.Proofs.Tryz.func19 rfl (code := laws_markStringS_code) rfl rfl laws_markStringS_rs laws_markStringS_e
noncomputable def laws_heldStringS_code : Code := (Go.Proofs.Tryz.f20.body).getD .skip
def laws_heldStringS_c : Cfg := ⟨20, [], [[0, 1, 5], [1], [4]], [], [], []⟩
noncomputable def laws_heldStringS_l0_s : LSum := ⟨0, ⟨[(0, .val (.sl 9 (.str)) .fr), (0, .val (.int .i64) .fr), (3, .val (.int .i64) .fr)], 16⟩, (.ret, ⟨[(4, .val (.int .i64) .fr)], 17⟩), [(.exit 0, ⟨[(1, .val (.int .i64) .fr)], 20⟩)], laws_heldStringS_l0⟩
noncomputable def laws_heldStringS_s : Spec := ⟨[.v (.sl 9 (.str)) .fr, .v (.int .i64) .fr], Int, fun v => laws_heldStringS v.1 v.2.1, fun r => ([.v (.int .i64) .fr r], [])⟩
noncomputable def laws_heldStringS_ls : List LSum := [laws_heldStringS_l0_s]
noncomputable def laws_heldStringS_tab : List Row := [⟨89, [], [laws_markText_s]⟩]
theorem laws_heldStringS_t : ∀ r, r ∈ laws_heldStringS_tab → RowIs Go.Proofs.Tryz.prog r := tab_cons (laws_markText_is) (tab_nil)
theorem laws_heldStringS_l0_r : RoundIs (mkCtx Go.K.Link.seat laws_heldStringS_c laws_heldStringS_tab) (sums laws_heldStringS_ls) 0 (bodyAt (loopsOf 0 laws_heldStringS_code) 0) laws_heldStringS_l0_s := by
  rintro ⟨a, ⟨k, ⟨i, _⟩⟩⟩
  show _ = (laws_heldStringS_l0 (a, (k, (i, ())))).bind fun r : (Ctl ((List (List UInt8)) × Int × Int × Unit) ((Int × Unit) ⊕ (Int × Unit))) => some (ctlVal laws_heldStringS_l0_s r)
  simp only [laws_heldStringS_l0, kb_ite, kb_some, kb_none, kb_bind, kb_alt]
  kernel_rfl
theorem laws_heldStringS_rs : RoundsOK (mkCtx Go.K.Link.seat laws_heldStringS_c laws_heldStringS_tab) (sums laws_heldStringS_ls) (loopsOf 0 laws_heldStringS_code) laws_heldStringS_ls := ⟨⟨rfl, rfl, laws_heldStringS_l0_r⟩, trivial⟩
theorem laws_heldStringS_e : ∀ v, (evFn (mkCtx Go.K.Link.seat laws_heldStringS_c laws_heldStringS_tab) (sums laws_heldStringS_ls) 20 Go.Proofs.Tryz.f20 (encL laws_heldStringS_s.a v)).run = (laws_heldStringS_s.gen v).bind fun y => some (laws_heldStringS_s.out y) := by
  rintro ⟨a, ⟨k, _⟩⟩
  show _ = (laws_heldStringS a k).bind fun y : Int => some (laws_heldStringS_s.out y)
  simp only [laws_heldStringS, kb_ite, kb_some, kb_none, kb_bind, kb_alt]
  kernel_rfl
theorem laws_heldStringS_is : FnIs Go.Proofs.Tryz.prog 20 (modeOf []) (phi [laws_heldStringS_s]) := spec_is (c := laws_heldStringS_c) seatOK laws_heldStringS_t Go.Proofs.Tryz.func20 rfl (code := laws_heldStringS_code) rfl rfl laws_heldStringS_rs laws_heldStringS_e
noncomputable def laws_FnExactTunedWords_s : Spec := ⟨[.v (.pair (.int .i64) (.pair (.int .i64) (.unit))) .fr, .v (.pair (.int .i64) (.pair (.int .i64) (.unit))) .fr], Bool, fun v => laws_FnExactTunedWords v.1 v.2.1, fun r => ([.v (.bool) .fr r], [])⟩
noncomputable def laws_FnExactTunedWords_ls : List LSum := []
noncomputable def laws_FnExactTunedWords_tab : List Row := [⟨16, [], [laws_toAngle_s]⟩, ⟨18, [], [laws_eqStringS_s]⟩, ⟨19, [.mut], [laws_markStringS_s]⟩, ⟨20, [], [laws_heldStringS_s]⟩, ⟨25, [], [spec_TunedWords_s]⟩, ⟨26, [], [impl_TunedWords_s]⟩]
theorem laws_FnExactTunedWords_t : ∀ r, r ∈ laws_FnExactTunedWords_tab → RowIs (drI := drZ) Go.Proofs.Tryz.prog r := tab_cons (drI := drZ) ((weak_is laws_toAngle_is)) (tab_cons (drI := drZ) ((weak_is laws_eqStringS_is)) (tab_cons (drI := drZ) ((weak_is laws_markStringS_is)) (tab_cons (drI := drZ) ((weak_is laws_heldStringS_is)) (tab_cons (drI := drZ) ((weak_is spec_TunedWords_is)) (tab_cons (drI := drZ) (impl_TunedWords_is) (tab_nil (drI := drZ)))))))
theorem laws_FnExactTunedWords_rs : RoundsOK (mkCtx Go.K.Link.seat laws_FnExactTunedWords_c laws_FnExactTunedWords_tab) (sums laws_FnExactTunedWords_ls) (loopsOf 0 laws_FnExactTunedWords_code) laws_FnExactTunedWords_ls := trivial
theorem laws_FnExactTunedWords_e : ∀ v, (evFn (mkCtx Go.K.Link.seat laws_FnExactTunedWords_c laws_FnExactTunedWords_tab) (sums laws_FnExactTunedWords_ls) 6 Go.Proofs.Tryz.f6 (encL laws_FnExactTunedWords_s.a v)).run = (laws_FnExactTunedWords_s.gen v).bind fun y => some (laws_FnExactTunedWords_s.out y) := by
  rintro ⟨aT, ⟨aX, _⟩⟩
  show _ = (laws_FnExactTunedWords aT aX).bind fun y : Bool => some (laws_FnExactTunedWords_s.out y)
  simp only [laws_FnExactTunedWords, kb_ite, kb_some, kb_none, kb_bind, kb_alt]
  kernel_rfl
theorem laws_FnExactTunedWords_is : FnIs (drI := drZ) Go.Proofs.Tryz.prog 6 (modeOf []) (phi [laws_FnExactTunedWords_s]) := spec_is (drI := drZ) (c := laws_FnExactTunedWords_c) seatOK laws_FnExactTunedWords_t Go.Proofs.Tryz.func6 rfl (code := laws_FnExactTunedWords_code) rfl rfl laws_FnExactTunedWords_rs laws_FnExactTunedWords_e
end Go.K.Link
namespace Go.Proofs.YtgeageanmhpfjaaGreat
open Go.K Go.K.Link Go.RowKit
theorem Tryz.own : ownKnob Tryz.prog.godebug = none := by kernel_rfl
theorem Tryz.laidOut : laidOutB Tryz.prog = true := by kernel_rfl
end Go.Proofs.YtgeageanmhpfjaaGreat

