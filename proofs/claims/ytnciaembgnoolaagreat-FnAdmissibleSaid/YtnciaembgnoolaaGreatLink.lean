/- What each function of the program gives, as a plain function, with the proof that it gives it; no condition. -/
import Derived.Test.YtnciaembgnoolaaGreatP1
import Derived.Test.YtnciaembgnoolaaGreatS1
import Derived.Test.YtnciaembgnoolaaGreatK3
import Derived.Test.YtnciaembgnoolaaGreatRows
import Derived.Shelf.Lay
import Derived.Ground.SlsfProg
import Derived.Ground.NamesProg
set_option linter.all false
set_option maxRecDepth 100000
set_option maxHeartbeats 4000000
set_option linter.all false
namespace Go.Proofs
open Go.Shelf Go.RowKit
def Tryz.repL_ren : Go.Shelf.Ren := ⟨fun | 105 => 244 | 212 => 279 | 99 => 280 | 165 => 281 | 166 => 282 | 170 => 283 | 169 => 284 | 263 => 304 | 264 => 259 | 206 => 305 | 240 => 306 | 241 => 307 | 276 => 316 | 277 => 317 | n => n, fun | 9 => 9 | 3 => 3 | 4 => 4 | 20 => 20 | 0 => 0 | 46 => 101 | 109 => 249 | 5 => 5 | 72 => 253 | 76 => 257 | 51 => 271 | 146 => 273 | 53 => 100 | 148 => 236 | 70 => 251 | 37 => 22 | 75 => 256 | 127 => 276 | 164 => 285 | 80 => 116 | n => n, fun | n => n⟩
theorem Tryz.repL : Go.Proofs.Lays.n105 Tryz.prog Tryz.repL_ren := {
  mixed := by kernel_rfl
  f99 := Tryz.func280.trans (congrArg some (by kernel_rfl))
  f105 := Tryz.func244.trans (congrArg some (by kernel_rfl))
  f165 := Tryz.func281.trans (congrArg some (by kernel_rfl))
  f166 := Tryz.func282.trans (congrArg some (by kernel_rfl))
  f169 := Tryz.func284.trans (congrArg some (by kernel_rfl))
  f170 := Tryz.func283.trans (congrArg some (by kernel_rfl))
  f206 := Tryz.func305.trans (congrArg some (by kernel_rfl))
  f212 := Tryz.func279.trans (congrArg some (by kernel_rfl))
  f240 := Tryz.func306.trans (congrArg some (by kernel_rfl))
  f241 := Tryz.func307.trans (congrArg some (by kernel_rfl))
  f263 := Tryz.func304.trans (congrArg some (by kernel_rfl))
  f264 := Tryz.func259.trans (congrArg some (by kernel_rfl))
  f276 := Tryz.func316.trans (congrArg some (by kernel_rfl))
  f277 := Tryz.func317.trans (congrArg some (by kernel_rfl))
  t0 := Tryz.underlying0
  a0 := Tryz.isAgg0
  z0 := Tryz.sizeOf0
  v0 := Tryz.zeroValue0
  t3 := Tryz.underlying3
  a3 := Tryz.isAgg3
  z3 := Tryz.sizeOf3
  v3 := Tryz.zeroValue3
  t4 := Tryz.underlying4
  a4 := Tryz.isAgg4
  z4 := Tryz.sizeOf4
  v4 := Tryz.zeroValue4
  t5 := Tryz.underlying5
  a5 := Tryz.isAgg5
  z5 := Tryz.sizeOf5
  v5 := Tryz.zeroValue5
  t9 := Tryz.underlying9
  a9 := Tryz.isAgg9
  z9 := Tryz.sizeOf9
  v9 := Tryz.zeroValue9
  t20 := Tryz.underlying20
  a20 := Tryz.isAgg20
  z20 := Tryz.sizeOf20
  v20 := Tryz.zeroValue20
  t37 := Tryz.underlying22
  a37 := Tryz.isAgg22
  z37 := Tryz.sizeOf22
  v37 := Tryz.zeroValue22
  t46 := Tryz.underlying101
  a46 := Tryz.isAgg101
  z46 := Tryz.sizeOf101
  v46 := Tryz.zeroValue101
  t51 := Tryz.underlying271
  a51 := Tryz.isAgg271
  z51 := Tryz.sizeOf271
  v51 := Tryz.zeroValue271
  t53 := Tryz.underlying100
  a53 := Tryz.isAgg100
  z53 := Tryz.sizeOf100
  v53 := Tryz.zeroValue100
  t70 := Tryz.underlying251
  a70 := Tryz.isAgg251
  z70 := Tryz.sizeOf251
  v70 := Tryz.zeroValue251
  t72 := Tryz.underlying253
  a72 := Tryz.isAgg253
  z72 := Tryz.sizeOf253
  v72 := Tryz.zeroValue253
  t75 := Tryz.underlying256
  a75 := Tryz.isAgg256
  z75 := Tryz.sizeOf256
  v75 := Tryz.zeroValue256
  t76 := Tryz.underlying257
  a76 := Tryz.isAgg257
  z76 := Tryz.sizeOf257
  v76 := Tryz.zeroValue257
  t109 := Tryz.underlying249
  a109 := Tryz.isAgg249
  z109 := Tryz.sizeOf249
  v109 := Tryz.zeroValue249
  t127 := Tryz.underlying276
  a127 := Tryz.isAgg276
  z127 := Tryz.sizeOf276
  v127 := Tryz.zeroValue276
  t146 := Tryz.underlying273
  a146 := Tryz.isAgg273
  z146 := Tryz.sizeOf273
  v146 := Tryz.zeroValue273
  t148 := Tryz.underlying236
  a148 := Tryz.isAgg236
  z148 := Tryz.sizeOf236
  v148 := Tryz.zeroValue236
  t164 := Tryz.underlying285
  a164 := Tryz.isAgg285
  z164 := Tryz.sizeOf285
  v164 := Tryz.zeroValue285 }
theorem Tryz.repX : Builder.Extra Tryz.prog Tryz.repL_ren := {
  sizeBuilder := by kernel_rfl
  liesBuilder := by kernel_rfl
  t5 := Tryz.repL.t5
  a5 := Tryz.repL.a5
  z5 := Tryz.repL.z5
  v5 := Tryz.repL.v5
  infoByte := by kernel_rfl
  cellsByte := by kernel_rfl
  sizeByte := by kernel_rfl
  neB5 := by decide }
def Tryz.sortL234_ren : Go.Shelf.Ren := ⟨fun | 6 => 234 | 15 => 271 | 14 => 270 | 28 => 301 | 29 => 302 | 20 => 293 | 21 => 294 | 22 => 295 | 23 => 296 | 24 => 297 | 25 => 298 | 26 => 299 | 27 => 300 | 46 => 311 | 47 => 312 | 48 => 313 | 49 => 314 | 50 => 315 | 57 => 327 | n => n, fun | 22 => 83 | 24 => 88 | 25 => 221 | 3 => 3 | 39 => 101 | 0 => 0 | 53 => 271 | 55 => 100 | 4 => 4 | 46 => 265 | 45 => 264 | 50 => 231 | 5 => 5 | 9 => 9 | 66 => 279 | 70 => 283 | 76 => 294 | 77 => 295 | n => n, fun | n => n⟩
theorem Tryz.sortL234 : Go.Proofs.SlLaysF0.n6 Tryz.prog Tryz.sortL234_ren := {
  mixed := by kernel_rfl
  f6 := ⟨ "slices.SortFunc[[]loop.example/g01234/impl.RayPair,loop.example/g01234/impl.RayPair]", by decide, Tryz.func234.trans (congrArg some (by kernel_rfl))⟩
  f14 := ⟨ "slices.pdqsortCmpFunc[loop.example/g01234/impl.RayPair]", by decide, Tryz.func270.trans (congrArg some (by kernel_rfl))⟩
  f15 := Tryz.func271.trans (congrArg some (by kernel_rfl))
  f20 := ⟨ "slices.insertionSortCmpFunc[loop.example/g01234/impl.RayPair]", by decide, Tryz.func293.trans (congrArg some (by kernel_rfl))⟩
  f21 := ⟨ "slices.heapSortCmpFunc[loop.example/g01234/impl.RayPair]", by decide, Tryz.func294.trans (congrArg some (by kernel_rfl))⟩
  f22 := ⟨ "slices.breakPatternsCmpFunc[loop.example/g01234/impl.RayPair]", by decide, Tryz.func295.trans (congrArg some (by kernel_rfl))⟩
  f23 := ⟨ "slices.choosePivotCmpFunc[loop.example/g01234/impl.RayPair]", by decide, Tryz.func296.trans (congrArg some (by kernel_rfl))⟩
  f24 := ⟨ "slices.reverseRangeCmpFunc[loop.example/g01234/impl.RayPair]", by decide, Tryz.func297.trans (congrArg some (by kernel_rfl))⟩
  f25 := ⟨ "slices.partialInsertionSortCmpFunc[loop.example/g01234/impl.RayPair]", by decide, Tryz.func298.trans (congrArg some (by kernel_rfl))⟩
  f26 := ⟨ "slices.partitionEqualCmpFunc[loop.example/g01234/impl.RayPair]", by decide, Tryz.func299.trans (congrArg some (by kernel_rfl))⟩
  f27 := ⟨ "slices.partitionCmpFunc[loop.example/g01234/impl.RayPair]", by decide, Tryz.func300.trans (congrArg some (by kernel_rfl))⟩
  f28 := Tryz.func301.trans (congrArg some (by kernel_rfl))
  f29 := Tryz.func302.trans (congrArg some (by kernel_rfl))
  f46 := ⟨ "slices.siftDownCmpFunc[loop.example/g01234/impl.RayPair]", by decide, Tryz.func311.trans (congrArg some (by kernel_rfl))⟩
  f47 := Tryz.func312.trans (congrArg some (by kernel_rfl))
  f48 := Tryz.func313.trans (congrArg some (by kernel_rfl))
  f49 := ⟨ "slices.medianAdjacentCmpFunc[loop.example/g01234/impl.RayPair]", by decide, Tryz.func314.trans (congrArg some (by kernel_rfl))⟩
  f50 := ⟨ "slices.medianCmpFunc[loop.example/g01234/impl.RayPair]", by decide, Tryz.func315.trans (congrArg some (by kernel_rfl))⟩
  f57 := ⟨ "slices.order2CmpFunc[loop.example/g01234/impl.RayPair]", by decide, Tryz.func327.trans (congrArg some (by kernel_rfl))⟩
  t0 := Tryz.underlying0
  a0 := Tryz.isAgg0
  z0 := Tryz.sizeOf0
  v0 := Tryz.zeroValue0
  t3 := Tryz.underlying3
  a3 := Tryz.isAgg3
  z3 := Tryz.sizeOf3
  v3 := Tryz.zeroValue3
  t4 := Tryz.underlying4
  a4 := Tryz.isAgg4
  z4 := Tryz.sizeOf4
  v4 := Tryz.zeroValue4
  t5 := Tryz.underlying5
  a5 := Tryz.isAgg5
  z5 := Tryz.sizeOf5
  v5 := Tryz.zeroValue5
  t9 := Tryz.underlying9
  a9 := Tryz.isAgg9
  z9 := Tryz.sizeOf9
  v9 := Tryz.zeroValue9
  t22 := Tryz.underlying83
  a22 := Tryz.isAgg83
  z22 := Tryz.sizeOf83
  v22 := Tryz.zeroValue83
  t25 := Tryz.underlying221
  a25 := Tryz.isAgg221
  z25 := Tryz.sizeOf221
  v25 := Tryz.zeroValue221
  t39 := Tryz.underlying101
  a39 := Tryz.isAgg101
  z39 := Tryz.sizeOf101
  v39 := Tryz.zeroValue101
  t45 := Tryz.underlying264
  a45 := Tryz.isAgg264
  z45 := Tryz.sizeOf264
  v45 := Tryz.zeroValue264
  t46 := Tryz.underlying265
  a46 := Tryz.isAgg265
  z46 := Tryz.sizeOf265
  v46 := Tryz.zeroValue265
  t50 := Tryz.underlying231
  a50 := Tryz.isAgg231
  z50 := Tryz.sizeOf231
  v50 := Tryz.zeroValue231
  t53 := Tryz.underlying271
  a53 := Tryz.isAgg271
  z53 := Tryz.sizeOf271
  v53 := Tryz.zeroValue271
  t55 := Tryz.underlying100
  a55 := Tryz.isAgg100
  z55 := Tryz.sizeOf100
  v55 := Tryz.zeroValue100
  t66 := Tryz.underlying279
  a66 := Tryz.isAgg279
  z66 := Tryz.sizeOf279
  v66 := Tryz.zeroValue279
  t70 := Tryz.underlying283
  a70 := Tryz.isAgg283
  z70 := Tryz.sizeOf283
  v70 := Tryz.zeroValue283
  t76 := Tryz.underlying294
  a76 := Tryz.isAgg294
  z76 := Tryz.sizeOf294
  v76 := Tryz.zeroValue294
  t77 := Tryz.underlying295
  a77 := Tryz.isAgg295
  z77 := Tryz.sizeOf295
  v77 := Tryz.zeroValue295 }
def Tryz.ixbL_ren : Go.Shelf.Ren := ⟨fun | 137 => 224 | 217 => 261 | 266 => 290 | n => n, fun | 9 => 9 | 5 => 5 | 3 => 3 | n => n, fun | n => n⟩
theorem Tryz.ixbL : Go.Proofs.Lays.n137 Tryz.prog Tryz.ixbL_ren := {
  mixed := by kernel_rfl
  f137 := Tryz.func224.trans (congrArg some (by kernel_rfl))
  f217 := Tryz.func261.trans (congrArg some (by kernel_rfl))
  f266 := Tryz.func290.trans (congrArg some (by kernel_rfl))
  t3 := Tryz.underlying3
  a3 := Tryz.isAgg3
  z3 := Tryz.sizeOf3
  v3 := Tryz.zeroValue3
  t5 := Tryz.underlying5
  a5 := Tryz.isAgg5
  z5 := Tryz.sizeOf5
  v5 := Tryz.zeroValue5
  t9 := Tryz.underlying9
  a9 := Tryz.isAgg9
  z9 := Tryz.sizeOf9
  v9 := Tryz.zeroValue9 }
end Go.Proofs
namespace Go.K.Link
open Go.K.Pure
def zsq : List (Nat × Ty) := [(2, .int .i64), (3, .int .i64), (4, .bool), (5, .int .u8), (6, .int .u8), (7, .pair (.int .i64) (.pair (.int .i64) (.pair (.bool) (.pair (.int .u8) (.unit))))), (8, .pair (.int .i64) (.pair (.int .i64) (.pair (.bool) (.pair (.int .u8) (.unit))))), (9, .str), (10, .str), (11, .str), (12, .int .u64), (21, .int .i32), (22, .sl 5 (.int .u8)), (24, .pair (.int .i64) (.pair (.int .i64) (.unit))), (25, .pair (.int .i64) (.pair (.int .i64) (.unit))), (27, .pair (.str) (.pair (.str) (.unit))), (28, .pair (.str) (.pair (.str) (.unit))), (46, .sl 54 (.pair (.pair (.int .i64) (.pair (.int .i64) (.unit))) (.pair (.pair (.int .i64) (.pair (.int .i64) (.unit))) (.unit)))), (48, .sl 52 (.sl 25 (.pair (.int .i64) (.pair (.int .i64) (.unit))))), (52, .sl 25 (.pair (.int .i64) (.pair (.int .i64) (.unit)))), (53, .pair (.pair (.int .i64) (.pair (.int .i64) (.unit))) (.pair (.pair (.int .i64) (.pair (.int .i64) (.unit))) (.unit))), (54, .pair (.pair (.int .i64) (.pair (.int .i64) (.unit))) (.pair (.pair (.int .i64) (.pair (.int .i64) (.unit))) (.unit))), (63, .sl 2 (.int .i64)), (79, .sl 9 (.str)), (83, .sl 88 (.pair (.pair (.int .i64) (.pair (.int .i64) (.unit))) (.pair (.pair (.int .i64) (.pair (.int .i64) (.unit))) (.unit)))), (86, .sl 4 (.bool)), (87, .pair (.pair (.int .i64) (.pair (.int .i64) (.unit))) (.pair (.pair (.int .i64) (.pair (.int .i64) (.unit))) (.unit))), (88, .pair (.pair (.int .i64) (.pair (.int .i64) (.unit))) (.pair (.pair (.int .i64) (.pair (.int .i64) (.unit))) (.unit))), (90, .ptr (.pair (.sl 5 (.int .u8)) (.pair (.int .i64) (.pair (.int .u64) (.unit))))), (100, .int .u64), (101, .int .u64), (127, .sl 3 (.int .i64)), (141, .pair (.pair (.pair (.int .i64) (.pair (.int .i64) (.unit))) (.pair (.pair (.int .i64) (.pair (.int .i64) (.unit))) (.unit))) (.pair (.sl 54 (.pair (.pair (.int .i64) (.pair (.int .i64) (.unit))) (.pair (.pair (.int .i64) (.pair (.int .i64) (.unit))) (.unit)))) (.pair (.sl 54 (.pair (.pair (.int .i64) (.pair (.int .i64) (.unit))) (.pair (.pair (.int .i64) (.pair (.int .i64) (.unit))) (.unit)))) (.pair (.int .i64) (.unit))))), (142, .pair (.pair (.pair (.int .i64) (.pair (.int .i64) (.unit))) (.pair (.pair (.int .i64) (.pair (.int .i64) (.unit))) (.unit))) (.pair (.sl 54 (.pair (.pair (.int .i64) (.pair (.int .i64) (.unit))) (.pair (.pair (.int .i64) (.pair (.int .i64) (.unit))) (.unit)))) (.pair (.sl 54 (.pair (.pair (.int .i64) (.pair (.int .i64) (.unit))) (.pair (.pair (.int .i64) (.pair (.int .i64) (.unit))) (.unit)))) (.pair (.int .i64) (.unit))))), (148, .sl 46 (.sl 54 (.pair (.pair (.int .i64) (.pair (.int .i64) (.unit))) (.pair (.pair (.int .i64) (.pair (.int .i64) (.unit))) (.unit))))), (166, .pair (.sl 5 (.int .u8)) (.pair (.int .i64) (.pair (.int .u64) (.unit)))), (167, .pair (.sl 5 (.int .u8)) (.pair (.int .i64) (.pair (.int .u64) (.unit)))), (176, .sl 28 (.pair (.str) (.pair (.str) (.unit)))), (192, .sl 63 (.sl 2 (.int .i64))), (264, .int .i64), (271, .int .u32), (276, .ptr (.int .u8)), (279, .int .u64), (283, .ptr (.int .i64)), (294, .ptr (.int .u64)), (305, .int .u8), (306, .int .u8), (308, .int .i32), (309, .int .i32)]
def zsr : List (Nat × Nat) := [(22, 1), (46, 32), (48, 24), (52, 16), (63, 8), (79, 16), (83, 32), (86, 1), (127, 8), (148, 24), (176, 32), (192, 24)]
def zsp : List Nat := [1, 23, 26, 30, 32, 33, 34, 35, 36, 38, 39, 41, 42, 43, 44, 45, 47, 50, 51, 56, 58, 59, 61, 62, 65, 67, 68, 69, 70, 71, 73, 74, 75, 76, 77, 78, 81, 82, 85, 89, 91, 93, 94, 95, 96, 98, 99, 102, 103, 104, 105, 106, 107, 108, 109, 110, 111, 113, 114, 115, 116, 118, 119, 120, 121, 122, 123, 124, 125, 126, 128, 129, 130, 131, 132, 133, 134, 135, 136, 137, 138, 139, 140, 144, 145, 147, 150, 151, 152, 153, 154, 156, 157, 158, 160, 161, 162, 163, 164, 165, 169, 170, 172, 173, 174, 175, 177, 178, 179, 180, 181, 182, 183, 184, 185, 186, 187, 188, 189, 190, 191, 193, 194, 195, 196, 197, 198, 199, 200, 202, 203, 204, 205, 207, 209, 210, 211, 212, 213, 214, 215, 216, 217, 218, 219, 220, 221, 222, 223, 224, 225, 226, 227, 228, 229, 230, 232, 233, 234, 235, 237, 238, 239, 240, 241, 242, 243, 244, 245, 246, 247, 248, 250, 254, 258, 259, 260, 261, 262, 263, 266, 267, 268, 269, 270, 272, 274, 275, 277, 278, 280, 281, 282, 284, 286, 287, 288, 289, 290, 291, 292, 293, 296, 297, 298, 299, 307]
def zss : List (Nat × Nat) := [(22, 5), (46, 54), (48, 52), (52, 25), (63, 2), (79, 9), (83, 88), (86, 4), (127, 3), (148, 46), (176, 28), (192, 63)]
def zso : List (Nat × List Nat) := [(7, [2, 3, 4, 6]), (8, [2, 3, 4, 6]), (13, [9, 12]), (14, [9, 12]), (18, [17]), (19, [17]), (24, [2, 2]), (25, [2, 2]), (27, [9, 9]), (28, [9, 9]), (53, [25, 25]), (54, [25, 25]), (87, [25, 25]), (88, [25, 25]), (141, [54, 46, 46, 2]), (142, [54, 46, 46, 2]), (166, [22, 3, 100]), (167, [22, 3, 100]), (252, [251, 22]), (253, [251, 22]), (300, [17, 17, 17, 9]), (301, [17, 17, 17, 9]), (303, [302]), (304, [302]), (310, [12, 12, 271, 305, 5, 5, 306, 307, 276, 308, 309]), (311, [12, 12, 271, 305, 5, 5, 306, 307, 276, 308, 309])]
def seat : Seat := seatOf zsq zsr zsp zso zss
theorem seatOK : SeatOK Go.Proofs.Tryz.prog seat := seat_ok (by kernel_rfl) (by kernel_rfl) (by kernel_rfl) (by kernel_rfl)
noncomputable def z2e : Code := (Go.Proofs.Tryz.f6.body).getD .skip
def z2l : Cfg := ⟨6, [], [[14, 15, 19, 20, 21, 24, 25, 109], [15, 19, 20, 21, 24, 109], [2], [], [], [], [19, 20, 28, 30, 31, 109, 163, 169], [19, 30, 169], [2], [], [], [], [19, 20, 28, 30, 31, 32, 33, 34, 35, 109, 163, 169], [19, 20, 28, 30, 31, 33, 34, 109, 163, 169], [2], [], [], [], [19, 30, 36, 169], [], [2]], [], [], []⟩
noncomputable def zm2 : Code := (Go.Proofs.Tryz.f7.body).getD .skip
def zl7 : Cfg := ⟨7, [], [], [], [], []⟩
noncomputable def zd8 : Spec := ⟨[.v (.sl 5 (.int .u8)) .fr], Bool, fun v => laws_big v.1, fun r => ([.v (.bool) .fr r], [])⟩
noncomputable def zjx : List LSum := []
noncomputable def ziq : List Row := []
theorem zsm : ∀ r, r ∈ ziq → RowIs Go.Proofs.Tryz.prog r := tab_nil
theorem zsi : RoundsOK (mkCtx Go.K.Link.seat zl7 ziq) (sums zjx) (loopsOf 0 zm2) zjx := trivial
theorem zsn : ∀ v, (evFn (mkCtx Go.K.Link.seat zl7 ziq) (sums zjx) 7 Go.Proofs.Tryz.f7 (encL zd8.a v)).run = (zd8.gen v).bind fun y => some (zd8.out y) := by
  rintro ⟨code, _⟩
  show _ = (laws_big code).bind fun y : Bool => some (zd8.out y)
  simp only [laws_big, kb_ite, kb_some, kb_none, kb_bind, kb_alt]
  kernel_rfl
theorem zsj : FnIs Go.Proofs.Tryz.prog 7 (modeOf []) (phi [zd8]) := spec_is (c := zl7) seatOK zsm Go.Proofs.Tryz.func7 rfl (code := zm2) rfl rfl zsi zsn
noncomputable def z9l : Code := (Go.Proofs.Tryz.f62.body).getD .skip
def z65 : Cfg := ⟨62, [], [], [], [], []⟩
noncomputable def zdm : Code := (Go.Proofs.Tryz.f78.body).getD .skip
def zd9 : Cfg := ⟨78, [], [[0, 3, 4, 11], [3, 11], [2, 3, 11, 37]], [], [], []⟩
noncomputable def zdn : LSum := ⟨0, ⟨[(0, .val (.sl 5 (.int .u8)) .fr), (2, .val (.ptr (.pair (.sl 5 (.int .u8)) (.pair (.int .i64) (.pair (.int .u64) (.unit))))) (.own .fr)), (0, .val (.int .i64) .fr)], 33⟩, (.exit 0, ⟨[(3, .val (.ptr (.pair (.sl 5 (.int .u8)) (.pair (.int .i64) (.pair (.int .u64) (.unit))))) (.own .fr))], 34⟩), [], spec_l01From_l0⟩
noncomputable def z32 : Spec := ⟨[.v (.sl 5 (.int .u8)) .fr], (((List Int) × (Int × (Int × Unit)))), fun v => spec_l01From v.1, fun r => ([.v (.ptr (.pair (.sl 5 (.int .u8)) (.pair (.int .i64) (.pair (.int .u64) (.unit))))) (.own .fr) r], [])⟩
noncomputable def zbv : List LSum := [zdn]
noncomputable def zab : List Row := []
theorem zqt : ∀ r, r ∈ zab → RowIs Go.Proofs.Tryz.prog r := tab_nil
theorem zo1 : RoundIs (mkCtx Go.K.Link.seat zd9 zab) (sums zbv) 0 (bodyAt (loopsOf 0 zdm) 0) zdn := by
  rintro ⟨code, ⟨s, ⟨i, _⟩⟩⟩
  show _ = (spec_l01From_l0 (code, (s, (i, ())))).bind fun r : (Ctl ((List Int) × (((List Int) × (Int × (Int × Unit)))) × Int × Unit) (((((List Int) × (Int × (Int × Unit)))) × Unit))) => some (ctlVal zdn r)
  simp only [spec_l01From_l0, kb_ite, kb_some, kb_none, kb_bind, kb_alt]
  kernel_rfl
theorem zpr : RoundsOK (mkCtx Go.K.Link.seat zd9 zab) (sums zbv) (loopsOf 0 zdm) zbv := ⟨⟨rfl, rfl, zo1⟩, trivial⟩
theorem zqu : ∀ v, (evFn (mkCtx Go.K.Link.seat zd9 zab) (sums zbv) 78 Go.Proofs.Tryz.f78 (encL z32.a v)).run = (z32.gen v).bind fun y => some (z32.out y) := by
  rintro ⟨code, _⟩
  show _ = (spec_l01From code).bind fun y : (((List Int) × (Int × (Int × Unit)))) => some (z32.out y)
  simp only [spec_l01From, kb_ite, kb_some, kb_none, kb_bind, kb_alt]
  kernel_rfl
theorem zbw : FnIs Go.Proofs.Tryz.prog 78 (modeOf []) (phi [z32]) := spec_is (c := zd9) seatOK zqt Go.Proofs.Tryz.func78 rfl (code := zdm) rfl rfl zpr zqu
noncomputable def z9d : Code := (Go.Proofs.Tryz.f154.body).getD .skip
def z9m : Cfg := ⟨154, [.mut], [[], [], [], [0, 2, 3, 10, 11, 12], [0, 2, 3, 10, 11], [0, 2], [], [], [], [0, 2, 3, 10, 11, 13], [0, 2, 3, 10, 11], [0, 2]], [], [], []⟩
noncomputable def zia : Code := (Go.Proofs.Tryz.f93.body).getD .skip
def zgu : Cfg := ⟨93, [.mut], [], [], [], []⟩
noncomputable def z1p : Spec := ⟨[.v (.ptr (.pair (.sl 5 (.int .u8)) (.pair (.int .i64) (.pair (.int .u64) (.unit))))) (.own .fr), .v (.int .i64) .fr], Int × (((List Int) × (Int × (Int × Unit)))), fun v => spec_l01Next v.1 v.2.1, fun r => ([.v (.int .i64) .fr r.1], [.v (.ptr (.pair (.sl 5 (.int .u8)) (.pair (.int .i64) (.pair (.int .u64) (.unit))))) (.own .fr) r.2])⟩
noncomputable def zfo : List LSum := []
noncomputable def zet : List Row := []
theorem zqv : ∀ r, r ∈ zet → RowIs Go.Proofs.Tryz.prog r := tab_nil
theorem zps : RoundsOK (mkCtx Go.K.Link.seat zgu zet) (sums zfo) (loopsOf 0 zia) zfo := trivial
theorem zqw : ∀ v, (evFn (mkCtx Go.K.Link.seat zgu zet) (sums zfo) 93 Go.Proofs.Tryz.f93 (encL z1p.a v)).run = (z1p.gen v).bind fun y => some (z1p.out y) := by
  rintro ⟨s, ⟨n, _⟩⟩
  show _ = (spec_l01Next s n).bind fun y : Int × (((List Int) × (Int × (Int × Unit)))) => some (z1p.out y)
  simp only [spec_l01Next, kb_ite, kb_some, kb_none, kb_bind, kb_alt]
  kernel_rfl
theorem z48 : FnIs Go.Proofs.Tryz.prog 93 (modeOf [.mut]) (phi [z1p]) := spec_is (c := zgu) seatOK zqv Go.Proofs.Tryz.func93 rfl (code := zia) rfl rfl zps zqw
noncomputable def zcd : Code := (Go.Proofs.Tryz.f157.body).getD .skip
def zbx : Cfg := ⟨157, [.mut], [[0, 2, 3, 4, 5, 9, 22], [0, 2, 3, 4, 9, 22], [0, 2]], [], [], []⟩
noncomputable def zib : Code := (Go.Proofs.Tryz.f100.body).getD .skip
def zgv : Cfg := ⟨100, [.mut], [], [], [], []⟩
noncomputable def z4v : Spec := ⟨[.v (.ptr (.pair (.sl 5 (.int .u8)) (.pair (.int .i64) (.pair (.int .u64) (.unit))))) (.own .fr), .v (.sl 2 (.int .i64)) .fr], Int × (((List Int) × (Int × (Int × Unit)))), fun v => spec_l01Pick v.1 v.2.1, fun r => ([.v (.int .i64) .fr r.1], [.v (.ptr (.pair (.sl 5 (.int .u8)) (.pair (.int .i64) (.pair (.int .u64) (.unit))))) (.own .fr) r.2])⟩
noncomputable def zfp : List LSum := []
noncomputable def zeu : List Row := [⟨93, [.mut], [z1p]⟩]
theorem zqx : ∀ r, r ∈ zeu → RowIs Go.Proofs.Tryz.prog r := tab_cons (z48) (tab_nil)
theorem zpt : RoundsOK (mkCtx Go.K.Link.seat zgv zeu) (sums zfp) (loopsOf 0 zib) zfp := trivial
theorem zqy : ∀ v, (evFn (mkCtx Go.K.Link.seat zgv zeu) (sums zfp) 100 Go.Proofs.Tryz.f100 (encL z4v.a v)).run = (z4v.gen v).bind fun y => some (z4v.out y) := by
  rintro ⟨s, ⟨list, _⟩⟩
  show _ = (spec_l01Pick s list).bind fun y : Int × (((List Int) × (Int × (Int × Unit)))) => some (z4v.out y)
  simp only [spec_l01Pick, kb_ite, kb_some, kb_none, kb_bind, kb_alt]
  kernel_rfl
theorem zjn : FnIs Go.Proofs.Tryz.prog 100 (modeOf [.mut]) (phi [z4v]) := spec_is (c := zgv) seatOK zqx Go.Proofs.Tryz.func100 rfl (code := zib) rfl rfl zpt zqy
noncomputable def zce : LSum := ⟨0, ⟨[(0, .val (.ptr (.pair (.sl 5 (.int .u8)) (.pair (.int .i64) (.pair (.int .u64) (.unit))))) (.own .fr)), (1, .val (.ptr (.pair (.str) (.pair (.str) (.unit)))) (.own .fr)), (0, .val (.int .i64) .fr), (0, .val (.sl 5 (.int .u8)) (.own .fr)), (0, .val (.int .i64) .fr)], 26⟩, (.exit 0, ⟨[(0, .val (.ptr (.pair (.sl 5 (.int .u8)) (.pair (.int .i64) (.pair (.int .u64) (.unit))))) (.own .fr)), (1, .val (.ptr (.pair (.str) (.pair (.str) (.unit)))) (.own .fr)), (0, .val (.int .i64) .fr), (0, .val (.sl 5 (.int .u8)) (.own .fr))], 27⟩), [], spec_l02Star1_l0⟩
noncomputable def z49 : Spec := ⟨[.v (.ptr (.pair (.sl 5 (.int .u8)) (.pair (.int .i64) (.pair (.int .u64) (.unit))))) (.own .fr)], ((List UInt8) × ((List UInt8) × Unit)) × (((List Int) × (Int × (Int × Unit)))), fun v => spec_l02Star1 v.1, fun r => ([.v (.pair (.str) (.pair (.str) (.unit))) .fr r.1], [.v (.ptr (.pair (.sl 5 (.int .u8)) (.pair (.int .i64) (.pair (.int .u64) (.unit))))) (.own .fr) r.2])⟩
noncomputable def zac : List LSum := [zce]
noncomputable def z9e : List Row := [⟨100, [.mut], [z4v]⟩, ⟨93, [.mut], [z1p]⟩]
theorem zpu : ∀ r, r ∈ z9e → RowIs Go.Proofs.Tryz.prog r := tab_cons (zjn) (tab_cons (z48) (tab_nil))
theorem zn2 : RoundIs (mkCtx Go.K.Link.seat zbx z9e) (sums zac) 0 (bodyAt (loopsOf 0 zcd) 0) zce := by
  rintro ⟨s, ⟨t2, ⟨n, ⟨word', ⟨i, _⟩⟩⟩⟩⟩
  show _ = (spec_l02Star1_l0 (s, (t2, (n, (word', (i, ())))))).bind fun r : (Ctl ((((List Int) × (Int × (Int × Unit)))) × (((List UInt8) × ((List UInt8) × Unit))) × Int × (List Int) × Int × Unit) (((((List Int) × (Int × (Int × Unit)))) × (((List UInt8) × ((List UInt8) × Unit))) × Int × (List Int) × Unit))) => some (ctlVal zce r)
  simp only [spec_l02Star1_l0, kb_ite, kb_some, kb_none, kb_bind, kb_alt]
  kernel_rfl
theorem zoz : RoundsOK (mkCtx Go.K.Link.seat zbx z9e) (sums zac) (loopsOf 0 zcd) zac := ⟨⟨rfl, rfl, zn2⟩, trivial⟩
theorem zpv : ∀ v, (evFn (mkCtx Go.K.Link.seat zbx z9e) (sums zac) 157 Go.Proofs.Tryz.f157 (encL z49.a v)).run = (z49.gen v).bind fun y => some (z49.out y) := by
  rintro ⟨s, _⟩
  show _ = (spec_l02Star1 s).bind fun y : ((List UInt8) × ((List UInt8) × Unit)) × (((List Int) × (Int × (Int × Unit)))) => some (z49.out y)
  simp only [spec_l02Star1, kb_ite, kb_some, kb_none, kb_bind, kb_alt]
  kernel_rfl
theorem zir : FnIs Go.Proofs.Tryz.prog 157 (modeOf [.mut]) (phi [z49]) := spec_is (c := zbx) seatOK zpu Go.Proofs.Tryz.func157 rfl (code := zcd) rfl rfl zoz zpv
noncomputable def zic : Code := (Go.Proofs.Tryz.f94.body).getD .skip
def zgw : Cfg := ⟨94, [.mut], [], [], [], []⟩
noncomputable def zjo : Code := (Go.Proofs.Tryz.f167.body).getD .skip
def zis : Cfg := ⟨167, [], [], [], [], []⟩
noncomputable def zad : Code := (Go.Proofs.Tryz.f170.body).getD .skip
def z9f : Cfg := ⟨170, [], [[0, 1], [0], [4]], [], [], []⟩
noncomputable def zae : LSum := ⟨0, ⟨[(0, .val (.int .i64) .fr), (0, .val (.int .i64) .fr)], 12⟩, (.exit 0, ⟨[(0, .val (.int .i64) .fr)], 13⟩), [], spec_l01Divisor_l0⟩
noncomputable def z4g : Spec := ⟨[.v (.int .i64) .fr, .v (.int .i64) .fr], Int, fun v => spec_l01Divisor v.1 v.2.1, fun r => ([.v (.int .i64) .fr r], [])⟩
noncomputable def z86 : List LSum := [zae]
noncomputable def z7j : List Row := []
theorem zo2 : ∀ r, r ∈ z7j → RowIs Go.Proofs.Tryz.prog r := tab_nil
theorem zl8 : RoundIs (mkCtx Go.K.Link.seat z9f z7j) (sums z86) 0 (bodyAt (loopsOf 0 zad) 0) zae := by
  rintro ⟨a, ⟨b, _⟩⟩
  show _ = (spec_l01Divisor_l0 (a, (b, ()))).bind fun r : (Ctl (Int × Int × Unit) ((Int × Unit))) => some (ctlVal zae r)
  simp only [spec_l01Divisor_l0, kb_ite, kb_some, kb_none, kb_bind, kb_alt]
  kernel_rfl
theorem zn3 : RoundsOK (mkCtx Go.K.Link.seat z9f z7j) (sums z86) (loopsOf 0 zad) z86 := ⟨⟨rfl, rfl, zl8⟩, trivial⟩
theorem zo3 : ∀ v, (evFn (mkCtx Go.K.Link.seat z9f z7j) (sums z86) 170 Go.Proofs.Tryz.f170 (encL z4g.a v)).run = (z4g.gen v).bind fun y => some (z4g.out y) := by
  rintro ⟨a, ⟨b, _⟩⟩
  show _ = (spec_l01Divisor a b).bind fun y : Int => some (z4g.out y)
  simp only [spec_l01Divisor, kb_ite, kb_some, kb_none, kb_bind, kb_alt]
  kernel_rfl
theorem zn4 : FnIs Go.Proofs.Tryz.prog 170 (modeOf []) (phi [z4g]) := spec_is (c := z9f) seatOK zo2 Go.Proofs.Tryz.func170 rfl (code := zad) rfl rfl zn3 zo3
noncomputable def z6u : Spec := ⟨[.v (.int .i64) .fr, .v (.int .i64) .fr], (Int × (Int × Unit)), fun v => spec_l01Of v.1 v.2.1, fun r => ([.v (.pair (.int .i64) (.pair (.int .i64) (.unit))) .fr r], [])⟩
noncomputable def zhv : List LSum := []
noncomputable def zgx : List Row := [⟨170, [], [z4g]⟩]
theorem zs6 : ∀ r, r ∈ zgx → RowIs Go.Proofs.Tryz.prog r := tab_cons (zn4) (tab_nil)
theorem zrp : RoundsOK (mkCtx Go.K.Link.seat zis zgx) (sums zhv) (loopsOf 0 zjo) zhv := trivial
theorem zs7 : ∀ v, (evFn (mkCtx Go.K.Link.seat zis zgx) (sums zhv) 167 Go.Proofs.Tryz.f167 (encL z6u.a v)).run = (z6u.gen v).bind fun y => some (z6u.out y) := by
  rintro ⟨num, ⟨den, _⟩⟩
  show _ = (spec_l01Of num den).bind fun y : (Int × (Int × Unit)) => some (z6u.out y)
  simp only [spec_l01Of, kb_ite, kb_some, kb_none, kb_bind, kb_alt]
  kernel_rfl
theorem zm3 : FnIs Go.Proofs.Tryz.prog 167 (modeOf []) (phi [z6u]) := spec_is (c := zis) seatOK zs6 Go.Proofs.Tryz.func167 rfl (code := zjo) rfl rfl zrp zs7
noncomputable def z6l : Spec := ⟨[.v (.ptr (.pair (.sl 5 (.int .u8)) (.pair (.int .i64) (.pair (.int .u64) (.unit))))) (.own .fr)], (Int × (Int × Unit)) × (((List Int) × (Int × (Int × Unit)))), fun v => spec_l01Draw v.1, fun r => ([.v (.pair (.int .i64) (.pair (.int .i64) (.unit))) .fr r.1], [.v (.ptr (.pair (.sl 5 (.int .u8)) (.pair (.int .i64) (.pair (.int .u64) (.unit))))) (.own .fr) r.2])⟩
noncomputable def zfq : List LSum := []
noncomputable def zev : List Row := [⟨100, [.mut], [z4v]⟩, ⟨167, [], [z6u]⟩, ⟨93, [.mut], [z1p]⟩]
theorem zqz : ∀ r, r ∈ zev → RowIs Go.Proofs.Tryz.prog r := tab_cons (zjn) (tab_cons (zm3) (tab_cons (z48) (tab_nil)))
theorem zpw : RoundsOK (mkCtx Go.K.Link.seat zgw zev) (sums zfq) (loopsOf 0 zic) zfq := trivial
theorem zr0 : ∀ v, (evFn (mkCtx Go.K.Link.seat zgw zev) (sums zfq) 94 Go.Proofs.Tryz.f94 (encL z6l.a v)).run = (z6l.gen v).bind fun y => some (z6l.out y) := by
  rintro ⟨s, _⟩
  show _ = (spec_l01Draw s).bind fun y : (Int × (Int × Unit)) × (((List Int) × (Int × (Int × Unit)))) => some (z6l.out y)
  simp only [spec_l01Draw, kb_ite, kb_some, kb_none, kb_bind, kb_alt]
  kernel_rfl
theorem zpx : FnIs Go.Proofs.Tryz.prog 94 (modeOf [.mut]) (phi [z6l]) := spec_is (c := zgw) seatOK zqz Go.Proofs.Tryz.func94 rfl (code := zic) rfl rfl zpw zr0
noncomputable def z8l : Code := (Go.Proofs.Tryz.f223.body).getD .skip
def z7k : Cfg := ⟨223, [], [[3, 4, 6, 7, 9, 10, 14, 20, 35], [4, 7, 9, 20, 35], [4, 5]], [], [], []⟩
noncomputable def z87 : Code := (Go.Proofs.Tryz.f171.body).getD .skip
def z88 : Cfg := ⟨171, [], [[1, 5, 6, 7, 18, 34, 42], [1, 5, 7, 18, 34, 42], [2, 3, 4, 7, 18, 34, 42], [], [], [], [5, 7, 8, 18, 34, 42], [], [2, 3, 4, 7, 18, 34, 42]], [], [], []⟩
noncomputable def zcf : LSum := ⟨0, ⟨[(1, .val (.ptr (.pair (.int .i64) (.pair (.int .i64) (.unit)))) (.own .fr)), (3, .val (.int .i64) .fr), (0, .val (.int .i64) .fr)], 37⟩, (.exit 0, ⟨[(1, .val (.ptr (.pair (.int .i64) (.pair (.int .i64) (.unit)))) (.own .fr)), (3, .val (.int .i64) .fr)], 38⟩), [], spec_l01Orbit_l0⟩
noncomputable def zgp : Code := (Go.Proofs.Tryz.f195.body).getD .skip
def zew : Cfg := ⟨195, [], [], [], [], []⟩
noncomputable def z3q : Spec := ⟨[.v (.pair (.int .i64) (.pair (.int .i64) (.unit))) .fr], (Int × (Int × Unit)), fun v => spec_l01Double v.1, fun r => ([.v (.pair (.int .i64) (.pair (.int .i64) (.unit))) .fr r], [])⟩
noncomputable def zdo : List LSum := []
noncomputable def zcg : List Row := [⟨167, [], [z6u]⟩]
theorem zp0 : ∀ r, r ∈ zcg → RowIs Go.Proofs.Tryz.prog r := tab_cons (zm3) (tab_nil)
theorem zo4 : RoundsOK (mkCtx Go.K.Link.seat zew zcg) (sums zdo) (loopsOf 0 zgp) zdo := trivial
theorem zp1 : ∀ v, (evFn (mkCtx Go.K.Link.seat zew zcg) (sums zdo) 195 Go.Proofs.Tryz.f195 (encL z3q.a v)).run = (z3q.gen v).bind fun y => some (z3q.out y) := by
  rintro ⟨a, _⟩
  show _ = (spec_l01Double a).bind fun y : (Int × (Int × Unit)) => some (z3q.out y)
  simp only [spec_l01Double, kb_ite, kb_some, kb_none, kb_bind, kb_alt]
  kernel_rfl
theorem zid : FnIs Go.Proofs.Tryz.prog 195 (modeOf []) (phi [z3q]) := spec_is (c := zew) seatOK zp0 Go.Proofs.Tryz.func195 rfl (code := zgp) rfl rfl zo4 zp1
noncomputable def zch : LSum := ⟨2, ⟨[(5, .val (.int .i64) .fr), (1, .val (.sl 25 (.pair (.int .i64) (.pair (.int .i64) (.unit)))) (.own .fr)), (0, .val (.ptr (.pair (.int .i64) (.pair (.int .i64) (.unit)))) (.own .fr))], 35⟩, (.ret, ⟨[(2, .sref 7 []), (0, .val (.int .i64) .fr), (0, .val (.bool) .fr), (2, .val (.sl 25 (.pair (.int .i64) (.pair (.int .i64) (.unit)))) (.own .fr)), (26, .sref 7 [])], 9⟩), [(.ret, ⟨[(2, .val (.sl 25 (.pair (.int .i64) (.pair (.int .i64) (.unit)))) (.own .fr)), (0, .val (.int .i64) .fr), (0, .val (.bool) .fr), (2, .val (.sl 25 (.pair (.int .i64) (.pair (.int .i64) (.unit)))) (.own .fr))], 36⟩)], spec_l01Orbit_l1⟩
noncomputable def z5i : Spec := ⟨[.v (.pair (.int .i64) (.pair (.int .i64) (.unit))) .fr], (List (Int × (Int × Unit))) × Int × Bool, fun v => spec_l01Orbit v.1, fun r => ([.v (.sl 25 (.pair (.int .i64) (.pair (.int .i64) (.unit)))) (.own .fr) r.1, .v (.int .i64) .fr r.2.1, .v (.bool) .fr r.2.2], [])⟩
noncomputable def z6v : List LSum := [zcf, zch]
noncomputable def z61 : List Row := [⟨195, [], [z3q]⟩]
theorem zpy : ∀ r, r ∈ z61 → RowIs Go.Proofs.Tryz.prog r := tab_cons (zid) (tab_nil)
theorem zn5 : RoundIs (mkCtx Go.K.Link.seat z88 z61) (sums z6v) 0 (bodyAt (loopsOf 0 z87) 0) zcf := by
  rintro ⟨a, ⟨pre, ⟨den, _⟩⟩⟩
  show _ = (spec_l01Orbit_l0 (a, (pre, (den, ())))).bind fun r : (Ctl (((Int × (Int × Unit))) × Int × Int × Unit) ((((Int × (Int × Unit))) × Int × Unit))) => some (ctlVal zcf r)
  simp only [spec_l01Orbit_l0, kb_ite, kb_some, kb_none, kb_bind, kb_alt]
  kernel_rfl
theorem zn6 : RoundIs (mkCtx Go.K.Link.seat z88 z61) (sums z6v) 2 (bodyAt (loopsOf 0 z87) 1) zch := by
  rintro ⟨pre, ⟨out, ⟨x, _⟩⟩⟩
  show _ = (spec_l01Orbit_l1 (pre, (out, (x, ())))).bind fun r : (Ctl (Int × (List (Int × (Int × Unit))) × ((Int × (Int × Unit))) × Unit) ((Int × Bool × (List (Int × (Int × Unit))) × Unit) ⊕ ((List (Int × (Int × Unit))) × Int × Bool × (List (Int × (Int × Unit))) × Unit))) => some (ctlVal zch r)
  simp only [spec_l01Orbit_l1, kb_ite, kb_some, kb_none, kb_bind, kb_alt]
  kernel_rfl
theorem zp2 : RoundsOK (mkCtx Go.K.Link.seat z88 z61) (sums z6v) (loopsOf 0 z87) z6v := ⟨⟨rfl, rfl, zn5⟩, ⟨⟨rfl, rfl, zn6⟩, trivial⟩⟩
theorem zpz : ∀ v, (evFn (mkCtx Go.K.Link.seat z88 z61) (sums z6v) 171 Go.Proofs.Tryz.f171 (encL z5i.a v)).run = (z5i.gen v).bind fun y => some (z5i.out y) := by
  rintro ⟨a, _⟩
  show _ = (spec_l01Orbit a).bind fun y : (List (Int × (Int × Unit))) × Int × Bool => some (z5i.out y)
  simp only [spec_l01Orbit, kb_ite, kb_some, kb_none, kb_bind, kb_alt]
  kernel_rfl
theorem zp3 : FnIs Go.Proofs.Tryz.prog 171 (modeOf []) (phi [z5i]) := spec_is (c := z88) seatOK zpy Go.Proofs.Tryz.func171 rfl (code := z87) rfl rfl zp2 zpz
noncomputable def zgq : Code := (Go.Proofs.Tryz.f260.body).getD .skip
def zex : Cfg := ⟨260, [], [], [], [], []⟩
noncomputable def z4w : Spec := ⟨[.v (.pair (.int .i64) (.pair (.int .i64) (.unit))) .fr, .v (.pair (.int .i64) (.pair (.int .i64) (.unit))) .fr], Int, fun v => spec_l02Letter v.1 v.2.1, fun r => ([.v (.int .u8) .fr r], [])⟩
noncomputable def zdp : List LSum := []
noncomputable def zci : List Row := [⟨195, [], [z3q]⟩]
theorem zp4 : ∀ r, r ∈ zci → RowIs Go.Proofs.Tryz.prog r := tab_cons (zid) (tab_nil)
theorem zo5 : RoundsOK (mkCtx Go.K.Link.seat zex zci) (sums zdp) (loopsOf 0 zgq) zdp := trivial
theorem zp5 : ∀ v, (evFn (mkCtx Go.K.Link.seat zex zci) (sums zdp) 260 Go.Proofs.Tryz.f260 (encL z4w.a v)).run = (z4w.gen v).bind fun y => some (z4w.out y) := by
  rintro ⟨x, ⟨t, _⟩⟩
  show _ = (spec_l02Letter x t).bind fun y : Int => some (z4w.out y)
  simp only [spec_l02Letter, kb_ite, kb_some, kb_none, kb_bind, kb_alt]
  kernel_rfl
theorem zo6 : FnIs Go.Proofs.Tryz.prog 260 (modeOf []) (phi [z4w]) := spec_is (c := zex) seatOK zp4 Go.Proofs.Tryz.func260 rfl (code := zgq) rfl rfl zo5 zp5
noncomputable def z8m : LSum := ⟨0, ⟨[(3, .val (.ptr (.pair (.int .i64) (.pair (.int .i64) (.unit)))) (.own .fr)), (0, .val (.ptr (.pair (.str) (.pair (.str) (.unit)))) (.own .fr)), (1, .val (.sl 25 (.pair (.int .i64) (.pair (.int .i64) (.unit)))) (.own .fr)), (0, .val (.int .i64) .fr), (1, .val (.sl 5 (.int .u8)) (.own .fr)), (0, .val (.int .i64) .fr)], 34⟩, (.exit 0, ⟨[(4, .val (.ptr (.pair (.str) (.pair (.str) (.unit)))) (.own .fr)), (2, .val (.int .i64) .fr), (1, .val (.sl 5 (.int .u8)) (.own .fr))], 35⟩), [], spec_l02Itinerary_l0⟩
noncomputable def z3l : Code := (Go.Proofs.Tryz.f102.body).getD .skip
def z3d : Cfg := ⟨102, [], [[0, 1, 4, 5, 6], [0, 1, 4], [4], [], [], [], [0, 1, 4, 5, 6, 7, 8], [0, 1, 4, 5, 6, 7], [4], [], [], [], [0, 1, 4], [0, 1, 4], [4]], [], [], []⟩
noncomputable def z8n : LSum := ⟨2, ⟨[(0, .val (.str) .fr), (0, .val (.str) .fr), (2, .val (.ptr (.pair (.str) (.pair (.str) (.unit)))) (.own .fr)), (0, .val (.int .i64) .fr), (0, .val (.int .i64) .fr), (0, .val (.bool) .fr), (0, .val (.int .i64) .fr)], 70⟩, (.exit 2, ⟨[(0, .val (.str) .fr), (0, .val (.str) .fr), (2, .val (.ptr (.pair (.str) (.pair (.str) (.unit)))) (.own .fr)), (0, .val (.int .i64) .fr), (0, .val (.int .i64) .fr), (0, .val (.bool) .fr)], 71⟩), [], spec_l01Canonical_l1⟩
noncomputable def z8o : LSum := ⟨0, ⟨[(0, .val (.str) .fr), (0, .val (.str) .fr), (2, .val (.ptr (.pair (.str) (.pair (.str) (.unit)))) (.own .fr)), (0, .val (.int .i64) .fr), (0, .val (.int .i64) .fr)], 72⟩, (.exit 0, ⟨[(0, .val (.str) .fr), (0, .val (.str) .fr), (2, .val (.ptr (.pair (.str) (.pair (.str) (.unit)))) (.own .fr))], 74⟩), [], spec_l01Canonical_l0⟩
noncomputable def z8p : LSum := ⟨4, ⟨[(0, .val (.str) .fr), (0, .val (.str) .fr), (2, .val (.ptr (.pair (.str) (.pair (.str) (.unit)))) (.own .fr))], 74⟩, (.exit 4, ⟨[(0, .val (.str) .fr), (0, .val (.str) .fr), (2, .val (.ptr (.pair (.str) (.pair (.str) (.unit)))) (.own .fr))], 74⟩), [], spec_l01Canonical_l2⟩
noncomputable def z1x : Spec := ⟨[.v (.str) .fr, .v (.str) .fr], ((List UInt8) × ((List UInt8) × Unit)), fun v => spec_l01Canonical v.1 v.2.1, fun r => ([.v (.pair (.str) (.pair (.str) (.unit))) .fr r], [])⟩
noncomputable def z33 : List LSum := [z8o, z8n, z8p]
noncomputable def z2s : List Row := []
theorem zm5 : ∀ r, r ∈ z2s → RowIs Go.Proofs.Tryz.prog r := tab_nil
theorem zjy : RoundIs (mkCtx Go.K.Link.seat z3d z2s) (sums z33) 0 (bodyAt (loopsOf 0 z3l) 0) z8o := by
  rintro ⟨pre, ⟨per, ⟨t4, ⟨n, ⟨k, _⟩⟩⟩⟩⟩
  show _ = (spec_l01Canonical_l0 (pre, (per, (t4, (n, (k, ())))))).bind fun r : (Ctl ((List UInt8) × (List UInt8) × (((List UInt8) × ((List UInt8) × Unit))) × Int × Int × Unit) (((List UInt8) × (List UInt8) × (((List UInt8) × ((List UInt8) × Unit))) × Unit))) => some (ctlVal z8o r)
  simp only [spec_l01Canonical_l0, kb_ite, kb_some, kb_none, kb_bind, kb_alt]
  kernel_rfl
theorem zjz : RoundIs (mkCtx Go.K.Link.seat z3d z2s) (sums z33) 2 (bodyAt (loopsOf 0 z3l) 1) z8n := by
  rintro ⟨pre, ⟨per, ⟨t4, ⟨n, ⟨k, ⟨same, ⟨i, _⟩⟩⟩⟩⟩⟩⟩
  show _ = (spec_l01Canonical_l1 (pre, (per, (t4, (n, (k, (same, (i, ())))))))).bind fun r : (Ctl ((List UInt8) × (List UInt8) × (((List UInt8) × ((List UInt8) × Unit))) × Int × Int × Bool × Int × Unit) (((List UInt8) × (List UInt8) × (((List UInt8) × ((List UInt8) × Unit))) × Int × Int × Bool × Unit))) => some (ctlVal z8n r)
  simp only [spec_l01Canonical_l1, kb_ite, kb_some, kb_none, kb_bind, kb_alt]
  kernel_rfl
theorem zk0 : RoundIs (mkCtx Go.K.Link.seat z3d z2s) (sums z33) 4 (bodyAt (loopsOf 0 z3l) 2) z8p := by
  rintro ⟨pre, ⟨per, ⟨t4, _⟩⟩⟩
  show _ = (spec_l01Canonical_l2 (pre, (per, (t4, ())))).bind fun r : (Ctl ((List UInt8) × (List UInt8) × (((List UInt8) × ((List UInt8) × Unit))) × Unit) (((List UInt8) × (List UInt8) × (((List UInt8) × ((List UInt8) × Unit))) × Unit))) => some (ctlVal z8p r)
  simp only [spec_l01Canonical_l2, kb_ite, kb_some, kb_none, kb_bind, kb_alt]
  kernel_rfl
theorem zl9 : RoundsOK (mkCtx Go.K.Link.seat z3d z2s) (sums z33) (loopsOf 0 z3l) z33 := ⟨⟨rfl, rfl, zjy⟩, ⟨⟨rfl, rfl, zjz⟩, ⟨⟨rfl, rfl, zk0⟩, trivial⟩⟩⟩
theorem zm6 : ∀ v, (evFn (mkCtx Go.K.Link.seat z3d z2s) (sums z33) 102 Go.Proofs.Tryz.f102 (encL z1x.a v)).run = (z1x.gen v).bind fun y => some (z1x.out y) := by
  rintro ⟨pre, ⟨per, _⟩⟩
  show _ = (spec_l01Canonical pre per).bind fun y : ((List UInt8) × ((List UInt8) × Unit)) => some (z1x.out y)
  simp only [spec_l01Canonical, kb_ite, kb_some, kb_none, kb_bind, kb_alt]
  kernel_rfl
theorem zaf : FnIs Go.Proofs.Tryz.prog 102 (modeOf []) (phi [z1x]) := spec_is (c := z3d) seatOK zm5 Go.Proofs.Tryz.func102 rfl (code := z3l) rfl rfl zl9 zm6
noncomputable def z3e : Spec := ⟨[.v (.pair (.int .i64) (.pair (.int .i64) (.unit))) .fr, .v (.pair (.int .i64) (.pair (.int .i64) (.unit))) .fr], ((List UInt8) × ((List UInt8) × Unit)) × Bool, fun v => spec_l02Itinerary v.1 v.2.1, fun r => ([.v (.pair (.str) (.pair (.str) (.unit))) .fr r.1, .v (.bool) .fr r.2], [])⟩
noncomputable def z67 : List LSum := [z8m]
noncomputable def z5j : List Row := [⟨260, [], [z4w]⟩, ⟨102, [], [z1x]⟩, ⟨171, [], [z5i]⟩]
theorem zm7 : ∀ r, r ∈ z5j → RowIs Go.Proofs.Tryz.prog r := tab_cons (zo6) (tab_cons (zaf) (tab_cons (zp3) (tab_nil)))
theorem zk1 : RoundIs (mkCtx Go.K.Link.seat z7k z5j) (sums z67) 0 (bodyAt (loopsOf 0 z8l) 0) z8m := by
  rintro ⟨t, ⟨t4, ⟨orbit, ⟨pre, ⟨word', ⟨i, _⟩⟩⟩⟩⟩⟩
  show _ = (spec_l02Itinerary_l0 (t, (t4, (orbit, (pre, (word', (i, ()))))))).bind fun r : (Ctl (((Int × (Int × Unit))) × (((List UInt8) × ((List UInt8) × Unit))) × (List (Int × (Int × Unit))) × Int × (List Int) × Int × Unit) (((((List UInt8) × ((List UInt8) × Unit))) × Int × (List Int) × Unit))) => some (ctlVal z8m r)
  simp only [spec_l02Itinerary_l0, kb_ite, kb_some, kb_none, kb_bind, kb_alt]
  kernel_rfl
theorem zla : RoundsOK (mkCtx Go.K.Link.seat z7k z5j) (sums z67) (loopsOf 0 z8l) z67 := ⟨⟨rfl, rfl, zk1⟩, trivial⟩
theorem zm8 : ∀ v, (evFn (mkCtx Go.K.Link.seat z7k z5j) (sums z67) 223 Go.Proofs.Tryz.f223 (encL z3e.a v)).run = (z3e.gen v).bind fun y => some (z3e.out y) := by
  rintro ⟨x, ⟨t, _⟩⟩
  show _ = (spec_l02Itinerary x t).bind fun y : ((List UInt8) × ((List UInt8) × Unit)) × Bool => some (z3e.out y)
  simp only [spec_l02Itinerary, kb_ite, kb_some, kb_none, kb_bind, kb_alt]
  kernel_rfl
theorem zlb : FnIs Go.Proofs.Tryz.prog 223 (modeOf []) (phi [z3e]) := spec_is (c := z7k) seatOK zm7 Go.Proofs.Tryz.func223 rfl (code := z8l) rfl rfl zla zm8
noncomputable def zdq : LSum := ⟨1, ⟨[(0, .val (.ptr (.pair (.sl 5 (.int .u8)) (.pair (.int .i64) (.pair (.int .u64) (.unit))))) (.own .fr)), (1, .val (.ptr (.pair (.str) (.pair (.str) (.unit)))) (.own .fr)), (0, .val (.ptr (.pair (.str) (.pair (.str) (.unit)))) (.own .fr)), (6, .val (.str) .fr), (0, .val (.str) .fr), (0, .val (.int .i64) .fr)], 99⟩, (.exit 1, ⟨[(0, .val (.ptr (.pair (.sl 5 (.int .u8)) (.pair (.int .i64) (.pair (.int .u64) (.unit))))) (.own .fr)), (1, .val (.ptr (.pair (.str) (.pair (.str) (.unit)))) (.own .fr)), (0, .val (.ptr (.pair (.str) (.pair (.str) (.unit)))) (.own .fr)), (6, .val (.str) .fr), (0, .val (.str) .fr)], 100⟩), [], spec_l02Draw_l0⟩
noncomputable def zdr : LSum := ⟨3, ⟨[(0, .val (.ptr (.pair (.sl 5 (.int .u8)) (.pair (.int .i64) (.pair (.int .u64) (.unit))))) (.own .fr)), (1, .val (.ptr (.pair (.str) (.pair (.str) (.unit)))) (.own .fr)), (0, .val (.ptr (.pair (.str) (.pair (.str) (.unit)))) (.own .fr)), (6, .val (.str) .fr), (0, .val (.str) .fr), (1, .val (.int .i64) .fr)], 98⟩, (.exit 3, ⟨[(0, .val (.ptr (.pair (.sl 5 (.int .u8)) (.pair (.int .i64) (.pair (.int .u64) (.unit))))) (.own .fr)), (1, .val (.ptr (.pair (.str) (.pair (.str) (.unit)))) (.own .fr)), (0, .val (.ptr (.pair (.str) (.pair (.str) (.unit)))) (.own .fr)), (6, .val (.str) .fr), (0, .val (.str) .fr)], 100⟩), [], spec_l02Draw_l1⟩
noncomputable def z4x : Spec := ⟨[.v (.ptr (.pair (.sl 5 (.int .u8)) (.pair (.int .i64) (.pair (.int .u64) (.unit))))) (.own .fr)], ((List UInt8) × ((List UInt8) × Unit)) × (((List Int) × (Int × (Int × Unit)))), fun v => spec_l02Draw v.1, fun r => ([.v (.pair (.str) (.pair (.str) (.unit))) .fr r.1], [.v (.ptr (.pair (.sl 5 (.int .u8)) (.pair (.int .i64) (.pair (.int .u64) (.unit))))) (.own .fr) r.2])⟩
noncomputable def z89 : List LSum := [zdq, zdr]
noncomputable def z6w : List Row := [⟨102, [], [z1x]⟩, ⟨93, [.mut], [z1p]⟩, ⟨157, [.mut], [z49]⟩, ⟨94, [.mut], [z6l]⟩, ⟨223, [], [z3e]⟩]
theorem zr1 : ∀ r, r ∈ z6w → RowIs Go.Proofs.Tryz.prog r := tab_cons (zaf) (tab_cons (z48) (tab_cons (zir) (tab_cons (zpx) (tab_cons (zlb) (tab_nil)))))
theorem zo7 : RoundIs (mkCtx Go.K.Link.seat z9m z6w) (sums z89) 1 (bodyAt (loopsOf 0 z9d) 0) zdq := by
  rintro ⟨s, ⟨t2, ⟨out, ⟨pre, ⟨per, ⟨k, _⟩⟩⟩⟩⟩⟩
  show _ = (spec_l02Draw_l0 (s, (t2, (out, (pre, (per, (k, ()))))))).bind fun r : (Ctl ((((List Int) × (Int × (Int × Unit)))) × (((List UInt8) × ((List UInt8) × Unit))) × (((List UInt8) × ((List UInt8) × Unit))) × (List UInt8) × (List UInt8) × Int × Unit) (((((List Int) × (Int × (Int × Unit)))) × (((List UInt8) × ((List UInt8) × Unit))) × (((List UInt8) × ((List UInt8) × Unit))) × (List UInt8) × (List UInt8) × Unit))) => some (ctlVal zdq r)
  simp only [spec_l02Draw_l0, kb_ite, kb_some, kb_none, kb_bind, kb_alt]
  kernel_rfl
theorem zo8 : RoundIs (mkCtx Go.K.Link.seat z9m z6w) (sums z89) 3 (bodyAt (loopsOf 0 z9d) 1) zdr := by
  rintro ⟨s, ⟨t2, ⟨out, ⟨pre, ⟨per, ⟨k, _⟩⟩⟩⟩⟩⟩
  show _ = (spec_l02Draw_l1 (s, (t2, (out, (pre, (per, (k, ()))))))).bind fun r : (Ctl ((((List Int) × (Int × (Int × Unit)))) × (((List UInt8) × ((List UInt8) × Unit))) × (((List UInt8) × ((List UInt8) × Unit))) × (List UInt8) × (List UInt8) × Int × Unit) (((((List Int) × (Int × (Int × Unit)))) × (((List UInt8) × ((List UInt8) × Unit))) × (((List UInt8) × ((List UInt8) × Unit))) × (List UInt8) × (List UInt8) × Unit))) => some (ctlVal zdr r)
  simp only [spec_l02Draw_l1, kb_ite, kb_some, kb_none, kb_bind, kb_alt]
  kernel_rfl
theorem zq0 : RoundsOK (mkCtx Go.K.Link.seat z9m z6w) (sums z89) (loopsOf 0 z9d) z89 := ⟨⟨rfl, rfl, zo7⟩, ⟨⟨rfl, rfl, zo8⟩, trivial⟩⟩
theorem zr2 : ∀ v, (evFn (mkCtx Go.K.Link.seat z9m z6w) (sums z89) 154 Go.Proofs.Tryz.f154 (encL z4x.a v)).run = (z4x.gen v).bind fun y => some (z4x.out y) := by
  rintro ⟨s, _⟩
  show _ = (spec_l02Draw s).bind fun y : ((List UInt8) × ((List UInt8) × Unit)) × (((List Int) × (Int × (Int × Unit)))) => some (z4x.out y)
  simp only [spec_l02Draw, kb_ite, kb_some, kb_none, kb_bind, kb_alt]
  kernel_rfl
theorem zjp : FnIs Go.Proofs.Tryz.prog 154 (modeOf [.mut]) (phi [z4x]) := spec_is (c := z9m) seatOK zr1 Go.Proofs.Tryz.func154 rfl (code := z9d) rfl rfl zq0 zr2
noncomputable def z1w : Spec := ⟨[.v (.sl 5 (.int .u8)) .fr], ((List UInt8) × ((List UInt8) × Unit)), fun v => spec_DrawIsStarPeriodic v.1, fun r => ([.v (.pair (.str) (.pair (.str) (.unit))) .fr r], [])⟩
noncomputable def z5u : List LSum := []
noncomputable def z5c : List Row := [⟨78, [], [z32]⟩, ⟨154, [.mut], [z4x]⟩]
theorem zih : ∀ r, r ∈ z5c → RowIs Go.Proofs.Tryz.prog r := tab_cons (zbw) (tab_cons (zjp) (tab_nil))
theorem zhw : RoundsOK (mkCtx Go.K.Link.seat z65 z5c) (sums z5u) (loopsOf 0 z9l) z5u := trivial
theorem zii : ∀ v, (evFn (mkCtx Go.K.Link.seat z65 z5c) (sums z5u) 62 Go.Proofs.Tryz.f62 (encL z1w.a v)).run = (z1w.gen v).bind fun y => some (z1w.out y) := by
  rintro ⟨code, _⟩
  show _ = (spec_DrawIsStarPeriodic code).bind fun y : ((List UInt8) × ((List UInt8) × Unit)) => some (z1w.out y)
  simp only [spec_DrawIsStarPeriodic, kb_ite, kb_some, kb_none, kb_bind, kb_alt]
  kernel_rfl
theorem zhx : FnIs Go.Proofs.Tryz.prog 62 (modeOf []) (phi [z1w]) := spec_is (c := z65) seatOK zih Go.Proofs.Tryz.func62 rfl (code := z9l) rfl rfl zhw zii
noncomputable def zcj : Code := (Go.Proofs.Tryz.f63.body).getD .skip
def z9n : Cfg := ⟨63, [], [], [], [], []⟩
noncomputable def zdi : Code := (Go.Proofs.Tryz.f88.body).getD .skip
def zag : Cfg := ⟨88, [], [], [], [], []⟩
noncomputable def z8a : Code := (Go.Proofs.Tryz.f176.body).getD .skip
def z5d : Cfg := ⟨176, [], [], [], [], []⟩
noncomputable def z2c : Code := (Go.Proofs.Tryz.f240.body).getD .skip
def z16 : Cfg := ⟨240, [], [], [], [], []⟩
noncomputable def z17 : Code := (Go.Proofs.Tryz.f277.body).getD .skip
def zl : Cfg := ⟨277, [], [[0, 1, 7, 8], [], [4]], [], [], []⟩
noncomputable def z6k : Code := (Go.Proofs.Tryz.f241.body).getD .skip
def z4a : Cfg := ⟨241, [], [], [], [], []⟩
noncomputable def zfr : Code := (Go.Proofs.Tryz.f14.body).getD .skip
def zds : Cfg := ⟨14, [], [], [], [], []⟩
noncomputable def zfs : Code := (Go.Proofs.Tryz.f90.body).getD .skip
def zdt : Cfg := ⟨90, [], [], [], [], []⟩
noncomputable def zfg : Code := (Go.Proofs.Tryz.f177.body).getD .skip
def zck : Cfg := ⟨177, [], [], [], [], []⟩
noncomputable def z5k : Code := (Go.Proofs.Tryz.f242.body).getD .skip
def z3r : Cfg := ⟨242, [], [], [], [], []⟩
noncomputable def z3s : Code := (Go.Proofs.Tryz.f278.body).getD .skip
def z2x : Cfg := ⟨278, [], [[0, 1, 7, 8], [], [4]], [], [], []⟩
noncomputable def zcl : Code := (Go.Proofs.Tryz.f243.body).getD .skip
def z9o : Cfg := ⟨243, [], [], [], [], []⟩
noncomputable def zdj : Code := (Go.Proofs.Tryz.f178.body).getD .skip
def zah : Cfg := ⟨178, [], [], [], [], []⟩
noncomputable def z34 : Spec := ⟨[.v (.int .u8) .fr], Bool, fun v => impl_areLetters_f1 v.1, fun r => ([.v (.bool) .fr r], [])⟩
noncomputable def z9p : List LSum := []
noncomputable def z8q : List Row := []
theorem zlc : ∀ r, r ∈ z8q → RowIs Go.Proofs.Tryz.prog r := tab_nil
theorem zko : RoundsOK (mkCtx Go.K.Link.seat zah z8q) (sums z9p) (loopsOf 0 zdj) z9p := trivial
theorem zld : ∀ v, (evFn (mkCtx Go.K.Link.seat zah z8q) (sums z9p) 178 Go.Proofs.Tryz.f178 (encL z34.a v)).run = (z34.gen v).bind fun y => some (z34.out y) := by
  rintro ⟨c, _⟩
  show _ = (impl_areLetters_f1 c).bind fun y : Bool => some (z34.out y)
  simp only [impl_areLetters_f1, kb_ite, kb_some, kb_none, kb_bind, kb_alt]
  kernel_rfl
theorem zkp : FnIs Go.Proofs.Tryz.prog 178 (modeOf []) (phi [z34]) := spec_is (c := zah) seatOK zlc Go.Proofs.Tryz.func178 rfl (code := zdj) rfl rfl zko zld
noncomputable def z2t : Spec := ⟨[.v (.int .u8) .fr, .pfn 178 [] []], Bool, fun v => impl_areAll_byte_f1 v.1, fun r => ([.v (.bool) .fr r], [])⟩
noncomputable def z8r : List LSum := []
noncomputable def z7t : List Row := [⟨178, [], [z34]⟩]
theorem zkq : ∀ r, r ∈ z7t → RowIs Go.Proofs.Tryz.prog r := tab_cons (zkp) (tab_nil)
theorem zk2 : RoundsOK (mkCtx Go.K.Link.seat z9o z7t) (sums z8r) (loopsOf 0 zcl) z8r := trivial
theorem zkr : ∀ v, (evFn (mkCtx Go.K.Link.seat z9o z7t) (sums z8r) 243 Go.Proofs.Tryz.f243 (encL z2t.a v)).run = (z2t.gen v).bind fun y => some (z2t.out y) := by
  rintro ⟨x, ⟨⟨_, _⟩, _⟩⟩
  show _ = (impl_areAll_byte_f1 x).bind fun y : Bool => some (z2t.out y)
  simp only [impl_areAll_byte_f1, kb_ite, kb_some, kb_none, kb_bind, kb_alt]
  kernel_rfl
theorem zk3 : FnIs Go.Proofs.Tryz.prog 243 (modeOf []) (phi [z2t]) := spec_is (c := z9o) seatOK zkq Go.Proofs.Tryz.func243 rfl (code := zcl) rfl rfl zk2 zkr
noncomputable def z3t : LSum := ⟨0, ⟨[(0, .val (.sl 5 (.int .u8)) .fr), (0, .fnl 243 [] [.arg (.pfn 178 [] [])]), (5, .val (.int .i64) .fr), (0, .val (.int .i64) .fr)], 10⟩, (.ret, ⟨[(4, .val (.int .i64) .fr)], 14⟩), [(.exit 0, ⟨[], 19⟩)], slices_IndexFunc__byte_byte_l0⟩
noncomputable def z14 : Spec := ⟨[.v (.sl 5 (.int .u8)) .fr, .fn 243 [] [.pfn 178 [] []]], Int, fun v => slices_IndexFunc__byte_byte v.1, fun r => ([.v (.int .i64) .fr r], [])⟩
noncomputable def z2p : List LSum := [z3t]
noncomputable def z2d : List Row := [⟨243, [], [z2t]⟩]
theorem zgk : ∀ r, r ∈ z2d → RowIs Go.Proofs.Tryz.prog r := tab_cons (zk3) (tab_nil)
theorem zey : RoundIs (mkCtx Go.K.Link.seat z2x z2d) (sums z2p) 0 (bodyAt (loopsOf 0 z3s) 0) z3t := by
  rintro ⟨s, ⟨_, ⟨⟨_, _⟩, _⟩, ⟨t7, ⟨t8, _⟩⟩⟩⟩
  show _ = (slices_IndexFunc__byte_byte_l0 (s, ((), (((), ()), ()), (t7, (t8, ()))))).bind fun r : (Ctl ((List Int) × Unit × ((Unit × Unit) × Unit) × Int × Int × Unit) ((Int × Unit) ⊕ (Unit))) => some (ctlVal z3t r)
  simp only [slices_IndexFunc__byte_byte_l0, kb_ite, kb_some, kb_none, kb_bind, kb_alt]
  kernel_rfl
theorem zft : RoundsOK (mkCtx Go.K.Link.seat z2x z2d) (sums z2p) (loopsOf 0 z3s) z2p := ⟨⟨rfl, rfl, zey⟩, trivial⟩
theorem zgl : ∀ v, (evFn (mkCtx Go.K.Link.seat z2x z2d) (sums z2p) 278 Go.Proofs.Tryz.f278 (encL z14.a v)).run = (z14.gen v).bind fun y => some (z14.out y) := by
  rintro ⟨s, ⟨⟨_, ⟨⟨_, _⟩, _⟩⟩, _⟩⟩
  show _ = (slices_IndexFunc__byte_byte s).bind fun y : Int => some (z14.out y)
  simp only [slices_IndexFunc__byte_byte, kb_ite, kb_some, kb_none, kb_bind, kb_alt]
  kernel_rfl
theorem zfu : FnIs Go.Proofs.Tryz.prog 278 (modeOf []) (phi [z14]) := spec_is (c := z2x) seatOK zgk Go.Proofs.Tryz.func278 rfl (code := z3s) rfl rfl zft zgl
noncomputable def zt : Spec := ⟨[.v (.sl 5 (.int .u8)) .fr, .fn 243 [] [.pfn 178 [] []]], Bool, fun v => slices_ContainsFunc__byte_byte v.1, fun r => ([.v (.bool) .fr r], [])⟩
noncomputable def z3m : List LSum := []
noncomputable def z3b : List Row := [⟨278, [], [z14]⟩]
theorem zez : ∀ r, r ∈ z3b → RowIs Go.Proofs.Tryz.prog r := tab_cons (zfu) (tab_nil)
theorem zee : RoundsOK (mkCtx Go.K.Link.seat z3r z3b) (sums z3m) (loopsOf 0 z5k) z3m := trivial
theorem zf0 : ∀ v, (evFn (mkCtx Go.K.Link.seat z3r z3b) (sums z3m) 242 Go.Proofs.Tryz.f242 (encL zt.a v)).run = (zt.gen v).bind fun y => some (zt.out y) := by
  rintro ⟨s, ⟨⟨_, ⟨⟨_, _⟩, _⟩⟩, _⟩⟩
  show _ = (slices_ContainsFunc__byte_byte s).bind fun y : Bool => some (zt.out y)
  simp only [slices_ContainsFunc__byte_byte, kb_ite, kb_some, kb_none, kb_bind, kb_alt]
  kernel_rfl
theorem zef : FnIs Go.Proofs.Tryz.prog 242 (modeOf []) (phi [zt]) := spec_is (c := z3r) seatOK zez Go.Proofs.Tryz.func242 rfl (code := z5k) rfl rfl zee zf0
noncomputable def z3v : Spec := ⟨[.v (.sl 5 (.int .u8)) .fr, .fn 178 [] []], Bool, fun v => impl_areAll_byte v.1, fun r => ([.v (.bool) .fr r], [])⟩
noncomputable def zb9 : List LSum := []
noncomputable def zai : List Row := [⟨242, [], [zt]⟩]
theorem zn7 : ∀ r, r ∈ zai → RowIs Go.Proofs.Tryz.prog r := tab_cons (zef) (tab_nil)
theorem zm9 : RoundsOK (mkCtx Go.K.Link.seat zck zai) (sums zb9) (loopsOf 0 zfg) zb9 := trivial
theorem zn8 : ∀ v, (evFn (mkCtx Go.K.Link.seat zck zai) (sums zb9) 177 Go.Proofs.Tryz.f177 (encL z3v.a v)).run = (z3v.gen v).bind fun y => some (z3v.out y) := by
  rintro ⟨list, ⟨⟨_, _⟩, _⟩⟩
  show _ = (impl_areAll_byte list).bind fun y : Bool => some (z3v.out y)
  simp only [impl_areAll_byte, kb_ite, kb_some, kb_none, kb_bind, kb_alt]
  kernel_rfl
theorem zma : FnIs Go.Proofs.Tryz.prog 177 (modeOf []) (phi [z3v]) := spec_is (c := zck) seatOK zn7 Go.Proofs.Tryz.func177 rfl (code := zfg) rfl rfl zm9 zn8
noncomputable def z4h : Spec := ⟨[.v (.str) .fr], Bool, fun v => impl_areLetters v.1, fun r => ([.v (.bool) .fr r], [])⟩
noncomputable def zcm : List LSum := []
noncomputable def zba : List Row := [⟨177, [], [z3v]⟩]
theorem zo9 : ∀ r, r ∈ zba → RowIs Go.Proofs.Tryz.prog r := tab_cons (zma) (tab_nil)
theorem zn9 : RoundsOK (mkCtx Go.K.Link.seat zdt zba) (sums zcm) (loopsOf 0 zfs) zcm := trivial
theorem zoa : ∀ v, (evFn (mkCtx Go.K.Link.seat zdt zba) (sums zcm) 90 Go.Proofs.Tryz.f90 (encL z4h.a v)).run = (z4h.gen v).bind fun y => some (z4h.out y) := by
  rintro ⟨s, _⟩
  show _ = (impl_areLetters s).bind fun y : Bool => some (z4h.out y)
  simp only [impl_areLetters, kb_ite, kb_some, kb_none, kb_bind, kb_alt]
  kernel_rfl
theorem zna : FnIs Go.Proofs.Tryz.prog 90 (modeOf []) (phi [z4h]) := spec_is (c := zdt) seatOK zo9 Go.Proofs.Tryz.func90 rfl (code := zfs) rfl rfl zn9 zoa
noncomputable def zhh : Code := (Go.Proofs.Tryz.f91.body).getD .skip
def zfv : Cfg := ⟨91, [], [], [], [], []⟩
noncomputable def z5l : Spec := ⟨[.v (.str) .fr, .v (.str) .fr], Bool, fun v => impl_areGiven v.1 v.2.1, fun r => ([.v (.bool) .fr r], [])⟩
noncomputable def zf1 : List LSum := []
noncomputable def zdu : List Row := []
theorem zq1 : ∀ r, r ∈ zdu → RowIs Go.Proofs.Tryz.prog r := tab_nil
theorem zp6 : RoundsOK (mkCtx Go.K.Link.seat zfv zdu) (sums zf1) (loopsOf 0 zhh) zf1 := trivial
theorem zq2 : ∀ v, (evFn (mkCtx Go.K.Link.seat zfv zdu) (sums zf1) 91 Go.Proofs.Tryz.f91 (encL z5l.a v)).run = (z5l.gen v).bind fun y => some (z5l.out y) := by
  rintro ⟨pre, ⟨per, _⟩⟩
  show _ = (impl_areGiven pre per).bind fun y : Bool => some (z5l.out y)
  simp only [impl_areGiven, kb_ite, kb_some, kb_none, kb_bind, kb_alt]
  kernel_rfl
theorem zp7 : FnIs Go.Proofs.Tryz.prog 91 (modeOf []) (phi [z5l]) := spec_is (c := zfv) seatOK zq1 Go.Proofs.Tryz.func91 rfl (code := zhh) rfl rfl zp6 zq2
noncomputable def zcn : Code := (Go.Proofs.Tryz.f92.body).getD .skip
def zby : Cfg := ⟨92, [], [[0, 1, 4], [0, 1, 4], [4]], [], [], []⟩
noncomputable def zgy : Code := (Go.Proofs.Tryz.f179.body).getD .skip
def zhg : Cfg := ⟨179, [], [[0, 3], [0, 3], [2]], [], [], []⟩
noncomputable def zit : Spec := ⟨[.v (.str) .fr, .v (.int .i64) .fr], List UInt8, fun v => strings_Repeat v.1 v.2.1, fun r => ([.v (.str) .fr r], [])⟩
theorem zob : FnIs (drI := drZ) Go.Proofs.Tryz.prog 244 (modeOf []) (phi [zit]) := repeat_is Go.Proofs.Tryz.repL Go.Proofs.Tryz.repX ⟨_, Go.Proofs.Tryz.func244, rfl, rfl⟩
noncomputable def zgz : LSum := ⟨0, ⟨[(0, .val (.str) .fr), (2, .val (.int .i64) .fr)], 22⟩, (.exit 0, ⟨[(0, .val (.str) .fr), (2, .val (.int .i64) .fr)], 22⟩), [], impl_root_l0⟩
noncomputable def zb8 : Spec := ⟨[.v (.str) .fr], (List UInt8), fun v => impl_root v.1, fun r => ([.v (.str) .fr r], [])⟩
noncomputable def zfw : List LSum := [zgz]
noncomputable def zep : List Row := [⟨244, [], [zit]⟩]
theorem zsk : ∀ r, r ∈ zep → RowIs (drI := drZ) Go.Proofs.Tryz.prog r := tab_cons (drI := drZ) (zob) (tab_nil (drI := drZ))
theorem zr3 : RoundIs (mkCtx Go.K.Link.seat zhg zep) (sums zfw) 0 (bodyAt (loopsOf 0 zgy) 0) zgz := by
  rintro ⟨word', ⟨n, _⟩⟩
  show _ = (impl_root_l0 (word', (n, ()))).bind fun r : (Ctl ((List UInt8) × Int × Unit) (((List UInt8) × Int × Unit))) => some (ctlVal zgz r)
  simp only [impl_root_l0, kb_ite, kb_some, kb_none, kb_bind, kb_alt]
  kernel_rfl
theorem zs8 : RoundsOK (mkCtx Go.K.Link.seat zhg zep) (sums zfw) (loopsOf 0 zgy) zfw := ⟨⟨rfl, rfl, zr3⟩, trivial⟩
theorem zsl : ∀ v, (evFn (mkCtx Go.K.Link.seat zhg zep) (sums zfw) 179 Go.Proofs.Tryz.f179 (encL zb8.a v)).run = (zb8.gen v).bind fun y => some (zb8.out y) := by
  rintro ⟨word', _⟩
  show _ = (impl_root word').bind fun y : (List UInt8) => some (zb8.out y)
  simp only [impl_root, kb_ite, kb_some, kb_none, kb_bind, kb_alt]
  kernel_rfl
theorem zs9 : FnIs (drI := drZ) Go.Proofs.Tryz.prog 179 (modeOf []) (phi [zb8]) := spec_is (drI := drZ) (c := zhg) seatOK zsk Go.Proofs.Tryz.func179 rfl (code := zgy) rfl rfl zs8 zsl
noncomputable def zco : LSum := ⟨0, ⟨[(0, .val (.str) .fr), (0, .val (.str) .fr), (2, .val (.ptr (.pair (.str) (.pair (.str) (.unit)))) (.own .fr))], 36⟩, (.exit 0, ⟨[(0, .val (.str) .fr), (0, .val (.str) .fr), (2, .val (.ptr (.pair (.str) (.pair (.str) (.unit)))) (.own .fr))], 36⟩), [], impl_sequence_l0⟩
noncomputable def z4b : Spec := ⟨[.v (.str) .fr, .v (.str) .fr], ((List UInt8) × ((List UInt8) × Unit)), fun v => impl_sequence v.1 v.2.1, fun r => ([.v (.pair (.str) (.pair (.str) (.unit))) .fr r], [])⟩
noncomputable def zaj : List LSum := [zco]
noncomputable def z9g : List Row := [⟨179, [], [zb8]⟩]
theorem zq3 : ∀ r, r ∈ z9g → RowIs (drI := drZ) Go.Proofs.Tryz.prog r := tab_cons (drI := drZ) (zs9) (tab_nil (drI := drZ))
theorem znb : RoundIs (mkCtx Go.K.Link.seat zby z9g) (sums zaj) 0 (bodyAt (loopsOf 0 zcn) 0) zco := by
  rintro ⟨pre, ⟨per, ⟨t4, _⟩⟩⟩
  show _ = (impl_sequence_l0 (pre, (per, (t4, ())))).bind fun r : (Ctl ((List UInt8) × (List UInt8) × (((List UInt8) × ((List UInt8) × Unit))) × Unit) (((List UInt8) × (List UInt8) × (((List UInt8) × ((List UInt8) × Unit))) × Unit))) => some (ctlVal zco r)
  simp only [impl_sequence_l0, kb_ite, kb_some, kb_none, kb_bind, kb_alt]
  kernel_rfl
theorem zp8 : RoundsOK (mkCtx Go.K.Link.seat zby z9g) (sums zaj) (loopsOf 0 zcn) zaj := ⟨⟨rfl, rfl, znb⟩, trivial⟩
theorem zq4 : ∀ v, (evFn (mkCtx Go.K.Link.seat zby z9g) (sums zaj) 92 Go.Proofs.Tryz.f92 (encL z4b.a v)).run = (z4b.gen v).bind fun y => some (z4b.out y) := by
  rintro ⟨pre, ⟨per, _⟩⟩
  show _ = (impl_sequence pre per).bind fun y : ((List UInt8) × ((List UInt8) × Unit)) => some (z4b.out y)
  simp only [impl_sequence, kb_ite, kb_some, kb_none, kb_bind, kb_alt]
  kernel_rfl
theorem ziu : FnIs (drI := drZ) Go.Proofs.Tryz.prog 92 (modeOf []) (phi [z4b]) := spec_is (drI := drZ) (c := zby) seatOK zq3 Go.Proofs.Tryz.func92 rfl (code := zcn) rfl rfl zp8 zq4
noncomputable def z2j : Spec := ⟨[.v (.pair (.str) (.pair (.str) (.unit))) .fr], Bool, fun v => impl_IsSequence v.1, fun r => ([.v (.bool) .fr r], [])⟩
noncomputable def zcp : List LSum := []
noncomputable def zbb : List Row := [⟨90, [], [z4h]⟩, ⟨91, [], [z5l]⟩, ⟨92, [], [z4b]⟩]
theorem zoc : ∀ r, r ∈ zbb → RowIs (drI := drZ) Go.Proofs.Tryz.prog r := tab_cons (drI := drZ) ((weak_is zna)) (tab_cons (drI := drZ) ((weak_is zp7)) (tab_cons (drI := drZ) (ziu) (tab_nil (drI := drZ))))
theorem znc : RoundsOK (mkCtx Go.K.Link.seat zds zbb) (sums zcp) (loopsOf 0 zfr) zcp := trivial
theorem zod : ∀ v, (evFn (mkCtx Go.K.Link.seat zds zbb) (sums zcp) 14 Go.Proofs.Tryz.f14 (encL z2j.a v)).run = (z2j.gen v).bind fun y => some (z2j.out y) := by
  rintro ⟨s, _⟩
  show _ = (impl_IsSequence s).bind fun y : Bool => some (z2j.out y)
  simp only [impl_IsSequence, kb_ite, kb_some, kb_none, kb_bind, kb_alt]
  kernel_rfl
theorem zcq : FnIs (drI := drZ) Go.Proofs.Tryz.prog 14 (modeOf []) (phi [z2j]) := spec_is (drI := drZ) (c := zds) seatOK zoc Go.Proofs.Tryz.func14 rfl (code := zfr) rfl rfl znc zod
noncomputable def zx : Spec := ⟨[.v (.pair (.str) (.pair (.str) (.unit))) .fr, .pfn 14 [] []], Bool, fun v => impl_areAll_impl_Sequence_f1 v.1, fun r => ([.v (.bool) .fr r], [])⟩
noncomputable def z42 : List LSum := []
noncomputable def z3u : List Row := [⟨14, [], [z2j]⟩]
theorem zfx : ∀ r, r ∈ z3u → RowIs (drI := drZ) Go.Proofs.Tryz.prog r := tab_cons (drI := drZ) (zcq) (tab_nil (drI := drZ))
theorem zfl : RoundsOK (mkCtx Go.K.Link.seat z4a z3u) (sums z42) (loopsOf 0 z6k) z42 := trivial
theorem zfy : ∀ v, (evFn (mkCtx Go.K.Link.seat z4a z3u) (sums z42) 241 Go.Proofs.Tryz.f241 (encL zx.a v)).run = (zx.gen v).bind fun y => some (zx.out y) := by
  rintro ⟨x, ⟨⟨_, _⟩, _⟩⟩
  show _ = (impl_areAll_impl_Sequence_f1 x).bind fun y : Bool => some (zx.out y)
  simp only [impl_areAll_impl_Sequence_f1, kb_ite, kb_some, kb_none, kb_bind, kb_alt]
  kernel_rfl
theorem zfm : FnIs (drI := drZ) Go.Proofs.Tryz.prog 241 (modeOf []) (phi [zx]) := spec_is (drI := drZ) (c := z4a) seatOK zfx Go.Proofs.Tryz.func241 rfl (code := z6k) rfl rfl zfl zfy
noncomputable def z18 : LSum := ⟨0, ⟨[(0, .val (.sl 28 (.pair (.str) (.pair (.str) (.unit)))) .fr), (0, .fnl 241 [] [.arg (.pfn 14 [] [])]), (5, .val (.int .i64) .fr), (0, .val (.int .i64) .fr)], 10⟩, (.ret, ⟨[(4, .val (.int .i64) .fr)], 14⟩), [(.exit 0, ⟨[], 19⟩)], slices_IndexFunc__impl_Sequence_impl_Sequence_l0⟩
noncomputable def z7 : Spec := ⟨[.v (.sl 28 (.pair (.str) (.pair (.str) (.unit)))) .fr, .fn 241 [] [.pfn 14 [] []]], Int, fun v => slices_IndexFunc__impl_Sequence_impl_Sequence v.1, fun r => ([.v (.int .i64) .fr r], [])⟩
noncomputable def zi : List LSum := [z18]
noncomputable def zg : List Row := [⟨241, [], [zx]⟩]
theorem z7o : ∀ r, r ∈ zg → RowIs (drI := drZ) Go.Proofs.Tryz.prog r := tab_cons (drI := drZ) (zfm) (tab_nil (drI := drZ))
theorem z68 : RoundIs (mkCtx Go.K.Link.seat zl zg) (sums zi) 0 (bodyAt (loopsOf 0 z17) 0) z18 := by
  rintro ⟨s, ⟨_, ⟨⟨_, _⟩, _⟩, ⟨t7, ⟨t8, _⟩⟩⟩⟩
  show _ = (slices_IndexFunc__impl_Sequence_impl_Sequence_l0 (s, ((), (((), ()), ()), (t7, (t8, ()))))).bind fun r : (Ctl ((List ((List UInt8) × ((List UInt8) × Unit))) × Unit × ((Unit × Unit) × Unit) × Int × Int × Unit) ((Int × Unit) ⊕ (Unit))) => some (ctlVal z18 r)
  simp only [slices_IndexFunc__impl_Sequence_impl_Sequence_l0, kb_ite, kb_some, kb_none, kb_bind, kb_alt]
  kernel_rfl
theorem z6x : RoundsOK (mkCtx Go.K.Link.seat zl zg) (sums zi) (loopsOf 0 z17) zi := ⟨⟨rfl, rfl, z68⟩, trivial⟩
theorem z7p : ∀ v, (evFn (mkCtx Go.K.Link.seat zl zg) (sums zi) 277 Go.Proofs.Tryz.f277 (encL z7.a v)).run = (z7.gen v).bind fun y => some (z7.out y) := by
  rintro ⟨s, ⟨⟨_, ⟨⟨_, _⟩, _⟩⟩, _⟩⟩
  show _ = (slices_IndexFunc__impl_Sequence_impl_Sequence s).bind fun y : Int => some (z7.out y)
  simp only [slices_IndexFunc__impl_Sequence_impl_Sequence, kb_ite, kb_some, kb_none, kb_bind, kb_alt]
  kernel_rfl
theorem z6y : FnIs (drI := drZ) Go.Proofs.Tryz.prog 277 (modeOf []) (phi [z7]) := spec_is (drI := drZ) (c := zl) seatOK z7o Go.Proofs.Tryz.func277 rfl (code := z17) rfl rfl z6x z7p
noncomputable def z1 : Spec := ⟨[.v (.sl 28 (.pair (.str) (.pair (.str) (.unit)))) .fr, .fn 241 [] [.pfn 14 [] []]], Bool, fun v => slices_ContainsFunc__impl_Sequence_impl_Sequence v.1, fun r => ([.v (.bool) .fr r], [])⟩
noncomputable def z11 : List LSum := []
noncomputable def zz : List Row := [⟨277, [], [z7]⟩]
theorem z69 : ∀ r, r ∈ zz → RowIs (drI := drZ) Go.Proofs.Tryz.prog r := tab_cons (drI := drZ) (z6y) (tab_nil (drI := drZ))
theorem z62 : RoundsOK (mkCtx Go.K.Link.seat z16 zz) (sums z11) (loopsOf 0 z2c) z11 := trivial
theorem z6a : ∀ v, (evFn (mkCtx Go.K.Link.seat z16 zz) (sums z11) 240 Go.Proofs.Tryz.f240 (encL z1.a v)).run = (z1.gen v).bind fun y => some (z1.out y) := by
  rintro ⟨s, ⟨⟨_, ⟨⟨_, _⟩, _⟩⟩, _⟩⟩
  show _ = (slices_ContainsFunc__impl_Sequence_impl_Sequence s).bind fun y : Bool => some (z1.out y)
  simp only [slices_ContainsFunc__impl_Sequence_impl_Sequence, kb_ite, kb_some, kb_none, kb_bind, kb_alt]
  kernel_rfl
theorem z63 : FnIs (drI := drZ) Go.Proofs.Tryz.prog 240 (modeOf []) (phi [z1]) := spec_is (drI := drZ) (c := z16) seatOK z69 Go.Proofs.Tryz.func240 rfl (code := z2c) rfl rfl z62 z6a
noncomputable def z1j : Spec := ⟨[.v (.sl 28 (.pair (.str) (.pair (.str) (.unit)))) .fr, .fn 14 [] []], Bool, fun v => impl_areAll_impl_Sequence v.1, fun r => ([.v (.bool) .fr r], [])⟩
noncomputable def z4y : List LSum := []
noncomputable def z4p : List Row := [⟨240, [], [z1]⟩]
theorem zhi : ∀ r, r ∈ z4p → RowIs (drI := drZ) Go.Proofs.Tryz.prog r := tab_cons (drI := drZ) (z63) (tab_nil (drI := drZ))
theorem zh0 : RoundsOK (mkCtx Go.K.Link.seat z5d z4p) (sums z4y) (loopsOf 0 z8a) z4y := trivial
theorem zhj : ∀ v, (evFn (mkCtx Go.K.Link.seat z5d z4p) (sums z4y) 176 Go.Proofs.Tryz.f176 (encL z1j.a v)).run = (z1j.gen v).bind fun y => some (z1j.out y) := by
  rintro ⟨list, ⟨⟨_, _⟩, _⟩⟩
  show _ = (impl_areAll_impl_Sequence list).bind fun y : Bool => some (z1j.out y)
  simp only [impl_areAll_impl_Sequence, kb_ite, kb_some, kb_none, kb_bind, kb_alt]
  kernel_rfl
theorem zh1 : FnIs (drI := drZ) Go.Proofs.Tryz.prog 176 (modeOf []) (phi [z1j]) := spec_is (drI := drZ) (c := z5d) seatOK zhi Go.Proofs.Tryz.func176 rfl (code := z8a) rfl rfl zh0 zhj
noncomputable def z35 : Spec := ⟨[.v (.bool) .fr, .v (.sl 28 (.pair (.str) (.pair (.str) (.unit)))) .fr], Int, fun v => impl_sequencesCode v.1 v.2.1, fun r => ([.v (.int .i64) .fr r], [])⟩
noncomputable def z9q : List LSum := []
noncomputable def z8s : List Row := [⟨176, [], [z1j]⟩]
theorem zle : ∀ r, r ∈ z8s → RowIs (drI := drZ) Go.Proofs.Tryz.prog r := tab_cons (drI := drZ) (zh1) (tab_nil (drI := drZ))
theorem zks : RoundsOK (mkCtx Go.K.Link.seat zag z8s) (sums z9q) (loopsOf 0 zdi) z9q := trivial
theorem zlf : ∀ v, (evFn (mkCtx Go.K.Link.seat zag z8s) (sums z9q) 88 Go.Proofs.Tryz.f88 (encL z35.a v)).run = (z35.gen v).bind fun y => some (z35.out y) := by
  rintro ⟨isRange, ⟨list, _⟩⟩
  show _ = (impl_sequencesCode isRange list).bind fun y : Int => some (z35.out y)
  simp only [impl_sequencesCode, kb_ite, kb_some, kb_none, kb_bind, kb_alt]
  kernel_rfl
theorem zkt : FnIs (drI := drZ) Go.Proofs.Tryz.prog 88 (modeOf []) (phi [z35]) := spec_is (drI := drZ) (c := zag) seatOK zle Go.Proofs.Tryz.func88 rfl (code := zdi) rfl rfl zks zlf
noncomputable def zbz : Code := (Go.Proofs.Tryz.f155.body).getD .skip
def z8t : Cfg := ⟨155, [], [], [], [], []⟩
noncomputable def zgr : Spec := ⟨[.v (.str) .fr, .v (.int .u8) .fr], Int, fun v => strings_IndexByte v.1 v.2.1, fun r => ([.v (.int .i64) .fr r], [])⟩
theorem zlg : FnIs (drI := drZ) Go.Proofs.Tryz.prog 224 (modeOf []) (phi [zgr]) := ix_is Go.Proofs.Tryz.ixbL ⟨_, Go.Proofs.Tryz.func224, rfl, rfl⟩
noncomputable def z1a : Spec := ⟨[.v (.pair (.str) (.pair (.str) (.unit))) .fr], Bool, fun v => impl_Sequence_isStar v.1, fun r => ([.v (.bool) .fr r], [])⟩
noncomputable def z7u : List LSum := []
noncomputable def z6z : List Row := [⟨224, [], [zgr]⟩]
theorem zk4 : ∀ r, r ∈ z6z → RowIs (drI := drZ) Go.Proofs.Tryz.prog r := tab_cons (drI := drZ) (zlg) (tab_nil (drI := drZ))
theorem zjc : RoundsOK (mkCtx Go.K.Link.seat z8t z6z) (sums z7u) (loopsOf 0 zbz) z7u := trivial
theorem zk5 : ∀ v, (evFn (mkCtx Go.K.Link.seat z8t z6z) (sums z7u) 155 Go.Proofs.Tryz.f155 (encL z1a.a v)).run = (z1a.gen v).bind fun y => some (z1a.out y) := by
  rintro ⟨s, _⟩
  show _ = (impl_Sequence_isStar s).bind fun y : Bool => some (z1a.out y)
  simp only [impl_Sequence_isStar, kb_ite, kb_some, kb_none, kb_bind, kb_alt]
  kernel_rfl
theorem z7v : FnIs (drI := drZ) Go.Proofs.Tryz.prog 155 (modeOf []) (phi [z1a]) := spec_is (drI := drZ) (c := z8t) seatOK zk4 Go.Proofs.Tryz.func155 rfl (code := zbz) rfl rfl zjc zk5
noncomputable def z2u : Spec := ⟨[.v (.pair (.str) (.pair (.str) (.unit))) .fr], Bool × Int, fun v => impl_IsStarPeriodic v.1, fun r => ([.v (.bool) .fr r.1, .v (.int .i64) .fr r.2], [])⟩
noncomputable def z8u : List LSum := []
noncomputable def z7w : List Row := [⟨88, [], [z35]⟩, ⟨155, [], [z1a]⟩]
theorem zku : ∀ r, r ∈ z7w → RowIs (drI := drZ) Go.Proofs.Tryz.prog r := tab_cons (drI := drZ) (zkt) (tab_cons (drI := drZ) (z7v) (tab_nil (drI := drZ)))
theorem zk6 : RoundsOK (mkCtx Go.K.Link.seat z9n z7w) (sums z8u) (loopsOf 0 zcj) z8u := trivial
theorem zkv : ∀ v, (evFn (mkCtx Go.K.Link.seat z9n z7w) (sums z8u) 63 Go.Proofs.Tryz.f63 (encL z2u.a v)).run = (z2u.gen v).bind fun y => some (z2u.out y) := by
  rintro ⟨s, _⟩
  show _ = (impl_IsStarPeriodic s).bind fun y : Bool × Int => some (z2u.out y)
  simp only [impl_IsStarPeriodic, kb_ite, kb_some, kb_none, kb_bind, kb_alt]
  kernel_rfl
theorem zk7 : FnIs (drI := drZ) Go.Proofs.Tryz.prog 63 (modeOf []) (phi [z2u]) := spec_is (drI := drZ) (c := z9n) seatOK zku Go.Proofs.Tryz.func63 rfl (code := zcj) rfl rfl zk6 zkv
noncomputable def zcr : Code := (Go.Proofs.Tryz.f64.body).getD .skip
def z9r : Cfg := ⟨64, [], [], [], [], []⟩
noncomputable def ziv : Code := (Go.Proofs.Tryz.f96.body).getD .skip
def zhy : Cfg := ⟨96, [], [], [], [], []⟩
noncomputable def zak : Code := (Go.Proofs.Tryz.f101.body).getD .skip
def z9h : Cfg := ⟨101, [], [[0, 3], [], [2]], [], [], []⟩
noncomputable def zal : LSum := ⟨0, ⟨[(0, .val (.str) .fr), (2, .val (.int .i64) .fr)], 22⟩, (.ret, ⟨[(2, .val (.bool) .fr)], 23⟩), [(.exit 0, ⟨[], 26⟩)], spec_l01Letters_l0⟩
noncomputable def z4i : Spec := ⟨[.v (.str) .fr], Bool, fun v => spec_l01Letters v.1, fun r => ([.v (.bool) .fr r], [])⟩
noncomputable def z8b : List LSum := [zal]
noncomputable def z7l : List Row := []
theorem zoe : ∀ r, r ∈ z7l → RowIs Go.Proofs.Tryz.prog r := tab_nil
theorem zlh : RoundIs (mkCtx Go.K.Link.seat z9h z7l) (sums z8b) 0 (bodyAt (loopsOf 0 zak) 0) zal := by
  rintro ⟨text, ⟨i, _⟩⟩
  show _ = (spec_l01Letters_l0 (text, (i, ()))).bind fun r : (Ctl ((List UInt8) × Int × Unit) ((Bool × Unit) ⊕ (Unit))) => some (ctlVal zal r)
  simp only [spec_l01Letters_l0, kb_ite, kb_some, kb_none, kb_bind, kb_alt]
  kernel_rfl
theorem znd : RoundsOK (mkCtx Go.K.Link.seat z9h z7l) (sums z8b) (loopsOf 0 zak) z8b := ⟨⟨rfl, rfl, zlh⟩, trivial⟩
theorem zof : ∀ v, (evFn (mkCtx Go.K.Link.seat z9h z7l) (sums z8b) 101 Go.Proofs.Tryz.f101 (encL z4i.a v)).run = (z4i.gen v).bind fun y => some (z4i.out y) := by
  rintro ⟨text, _⟩
  show _ = (spec_l01Letters text).bind fun y : Bool => some (z4i.out y)
  simp only [spec_l01Letters, kb_ite, kb_some, kb_none, kb_bind, kb_alt]
  kernel_rfl
theorem zne : FnIs Go.Proofs.Tryz.prog 101 (modeOf []) (phi [z4i]) := spec_is (c := z9h) seatOK zoe Go.Proofs.Tryz.func101 rfl (code := zak) rfl rfl znd zof
noncomputable def z4o : Spec := ⟨[.v (.pair (.str) (.pair (.str) (.unit))) .fr], Bool, fun v => spec_l01Seq v.1, fun r => ([.v (.bool) .fr r], [])⟩
noncomputable def zh2 : List LSum := []
noncomputable def zfz : List Row := [⟨101, [], [z4i]⟩, ⟨102, [], [z1x]⟩]
theorem zrq : ∀ r, r ∈ zfz → RowIs Go.Proofs.Tryz.prog r := tab_cons (zne) (tab_cons (zaf) (tab_nil))
theorem zr4 : RoundsOK (mkCtx Go.K.Link.seat zhy zfz) (sums zh2) (loopsOf 0 ziv) zh2 := trivial
theorem zrr : ∀ v, (evFn (mkCtx Go.K.Link.seat zhy zfz) (sums zh2) 96 Go.Proofs.Tryz.f96 (encL z4o.a v)).run = (z4o.gen v).bind fun y => some (z4o.out y) := by
  rintro ⟨s, _⟩
  show _ = (spec_l01Seq s).bind fun y : Bool => some (z4o.out y)
  simp only [spec_l01Seq, kb_ite, kb_some, kb_none, kb_bind, kb_alt]
  kernel_rfl
theorem zh3 : FnIs Go.Proofs.Tryz.prog 96 (modeOf []) (phi [z4o]) := spec_is (c := zhy) seatOK zrq Go.Proofs.Tryz.func96 rfl (code := ziv) rfl rfl zr4 zrr
noncomputable def zdv : Code := (Go.Proofs.Tryz.f156.body).getD .skip
def zda : Cfg := ⟨156, [], [[1, 3, 4], [], [2]], [], [], []⟩
noncomputable def zdw : LSum := ⟨0, ⟨[(1, .val (.ptr (.pair (.str) (.pair (.str) (.unit)))) (.own .fr)), (1, .val (.int .i64) .fr), (0, .val (.int .i64) .fr)], 35⟩, (.ret, ⟨[(2, .val (.bool) .fr)], 37⟩), [(.exit 0, ⟨[], 40⟩)], spec_l02Star_l0⟩
noncomputable def z3w : Spec := ⟨[.v (.pair (.str) (.pair (.str) (.unit))) .fr], Bool, fun v => spec_l02Star v.1, fun r => ([.v (.bool) .fr r], [])⟩
noncomputable def zc0 : List LSum := [zdw]
noncomputable def zam : List Row := []
theorem zr5 : ∀ r, r ∈ zam → RowIs Go.Proofs.Tryz.prog r := tab_nil
theorem zog : RoundIs (mkCtx Go.K.Link.seat zda zam) (sums zc0) 0 (bodyAt (loopsOf 0 zdv) 0) zdw := by
  rintro ⟨s, ⟨n, ⟨i, _⟩⟩⟩
  show _ = (spec_l02Star_l0 (s, (n, (i, ())))).bind fun r : (Ctl ((((List UInt8) × ((List UInt8) × Unit))) × Int × Int × Unit) ((Bool × Unit) ⊕ (Unit))) => some (ctlVal zdw r)
  simp only [spec_l02Star_l0, kb_ite, kb_some, kb_none, kb_bind, kb_alt]
  kernel_rfl
theorem zq5 : RoundsOK (mkCtx Go.K.Link.seat zda zam) (sums zc0) (loopsOf 0 zdv) zc0 := ⟨⟨rfl, rfl, zog⟩, trivial⟩
theorem zr6 : ∀ v, (evFn (mkCtx Go.K.Link.seat zda zam) (sums zc0) 156 Go.Proofs.Tryz.f156 (encL z3w.a v)).run = (z3w.gen v).bind fun y => some (z3w.out y) := by
  rintro ⟨s, _⟩
  show _ = (spec_l02Star s).bind fun y : Bool => some (z3w.out y)
  simp only [spec_l02Star, kb_ite, kb_some, kb_none, kb_bind, kb_alt]
  kernel_rfl
theorem zg0 : FnIs Go.Proofs.Tryz.prog 156 (modeOf []) (phi [z3w]) := spec_is (c := zda) seatOK zr5 Go.Proofs.Tryz.func156 rfl (code := zdv) rfl rfl zq5 zr6
noncomputable def z2v : Spec := ⟨[.v (.pair (.str) (.pair (.str) (.unit))) .fr], Bool × Int, fun v => spec_IsStarPeriodic v.1, fun r => ([.v (.bool) .fr r.1, .v (.int .i64) .fr r.2], [])⟩
noncomputable def z8v : List LSum := []
noncomputable def z7x : List Row := [⟨156, [], [z3w]⟩, ⟨96, [], [z4o]⟩]
theorem zkw : ∀ r, r ∈ z7x → RowIs Go.Proofs.Tryz.prog r := tab_cons (zg0) (tab_cons (zh3) (tab_nil))
theorem zk8 : RoundsOK (mkCtx Go.K.Link.seat z9r z7x) (sums z8v) (loopsOf 0 zcr) z8v := trivial
theorem zkx : ∀ v, (evFn (mkCtx Go.K.Link.seat z9r z7x) (sums z8v) 64 Go.Proofs.Tryz.f64 (encL z2v.a v)).run = (z2v.gen v).bind fun y => some (z2v.out y) := by
  rintro ⟨s, _⟩
  show _ = (spec_IsStarPeriodic s).bind fun y : Bool × Int => some (z2v.out y)
  simp only [spec_IsStarPeriodic, kb_ite, kb_some, kb_none, kb_bind, kb_alt]
  kernel_rfl
theorem zk9 : FnIs Go.Proofs.Tryz.prog 64 (modeOf []) (phi [z2v]) := spec_is (c := z9r) seatOK zkw Go.Proofs.Tryz.func64 rfl (code := zcr) rfl rfl zk8 zkx
noncomputable def zeg : Code := (Go.Proofs.Tryz.f65.body).getD .skip
def zbc : Cfg := ⟨65, [], [], [], [], [(999996, [4, 3])]⟩
noncomputable def z2m : Spec := ⟨[.v (.sl 5 (.int .u8)) .fr], ((List UInt8) × ((List UInt8) × Unit)) × Int, fun v => spec_DrawFailsFor v.1, fun r => ([.v (.pair (.str) (.pair (.str) (.unit))) .fr r.1, .v (.int .i64) .fr r.2], [])⟩
noncomputable def zan : List LSum := []
noncomputable def z9s : List Row := [⟨78, [], [z32]⟩, ⟨154, [.mut], [z4x]⟩, ⟨157, [.mut], [z49]⟩, ⟨93, [.mut], [z1p]⟩]
theorem zmb : ∀ r, r ∈ z9s → RowIs Go.Proofs.Tryz.prog r := tab_cons (zbw) (tab_cons (zjp) (tab_cons (zir) (tab_cons (z48) (tab_nil))))
theorem zli : RoundsOK (mkCtx Go.K.Link.seat zbc z9s) (sums zan) (loopsOf 0 zeg) zan := trivial
theorem zmc : ∀ v, (evFn (mkCtx Go.K.Link.seat zbc z9s) (sums zan) 65 Go.Proofs.Tryz.f65 (encL z2m.a v)).run = (z2m.gen v).bind fun y => some (z2m.out y) := by
  rintro ⟨code, _⟩
  show _ = (spec_DrawFailsFor code).bind fun y : ((List UInt8) × ((List UInt8) × Unit)) × Int => some (z2m.out y)
  simp only [spec_DrawFailsFor, kb_ite, kb_some, kb_none, kb_bind, kb_alt]
  kernel_rfl
theorem zg1 : FnIs Go.Proofs.Tryz.prog 65 (modeOf []) (phi [z2m]) := spec_is (c := zbc) seatOK zmb Go.Proofs.Tryz.func65 rfl (code := zeg) rfl rfl zli zmc
noncomputable def zhk : Code := (Go.Proofs.Tryz.f66.body).getD .skip
def zg2 : Cfg := ⟨66, [], [], [], [], []⟩
noncomputable def ziw : Code := (Go.Proofs.Tryz.f106.body).getD .skip
def zhz : Cfg := ⟨106, [], [], [], [], []⟩
noncomputable def z3p : Spec := ⟨[.v (.int .i64) .fr, .v (.int .i64) .fr, .v (.int .i64) .fr], Bool, fun v => impl_within v.1 v.2.1 v.2.2.1, fun r => ([.v (.bool) .fr r], [])⟩
noncomputable def zh4 : List LSum := []
noncomputable def zg3 : List Row := []
theorem zrs : ∀ r, r ∈ zg3 → RowIs Go.Proofs.Tryz.prog r := tab_nil
theorem zr7 : RoundsOK (mkCtx Go.K.Link.seat zhz zg3) (sums zh4) (loopsOf 0 ziw) zh4 := trivial
theorem zrt : ∀ v, (evFn (mkCtx Go.K.Link.seat zhz zg3) (sums zh4) 106 Go.Proofs.Tryz.f106 (encL z3p.a v)).run = (z3p.gen v).bind fun y => some (z3p.out y) := by
  rintro ⟨n, ⟨low, ⟨high, _⟩⟩⟩
  show _ = (impl_within n low high).bind fun y : Bool => some (z3p.out y)
  simp only [impl_within, kb_ite, kb_some, kb_none, kb_bind, kb_alt]
  kernel_rfl
theorem zdb : FnIs Go.Proofs.Tryz.prog 106 (modeOf []) (phi [z3p]) := spec_is (c := zhz) seatOK zrs Go.Proofs.Tryz.func106 rfl (code := ziw) rfl rfl zr7 zrt
noncomputable def z71 : Code := (Go.Proofs.Tryz.f158.body).getD .skip
def z5m : Cfg := ⟨158, [], [[1, 2, 5], [1, 2], [4]], [], [], []⟩
noncomputable def z5v : Code := (Go.Proofs.Tryz.f225.body).getD .skip
def z4s : Cfg := ⟨225, [], [[1, 2, 3], [1, 2], [6]], [], [], []⟩
noncomputable def z8w : Code := (Go.Proofs.Tryz.f226.body).getD .skip
def z7m : Cfg := ⟨226, [], [[1, 2, 12, 13], [], [4]], [], [], []⟩
noncomputable def zfh : Code := (Go.Proofs.Tryz.f107.body).getD .skip
def zcs : Cfg := ⟨107, [], [], [], [], []⟩
noncomputable def z3x : Spec := ⟨[.v (.pair (.str) (.pair (.str) (.unit))) .fr, .v (.int .i64) .fr], Int, fun v => impl_Sequence_at v.1 v.2.1, fun r => ([.v (.int .u8) .fr r], [])⟩
noncomputable def zbd : List LSum := []
noncomputable def zao : List Row := []
theorem znf : ∀ r, r ∈ zao → RowIs Go.Proofs.Tryz.prog r := tab_nil
theorem zmd : RoundsOK (mkCtx Go.K.Link.seat zcs zao) (sums zbd) (loopsOf 0 zfh) zbd := trivial
theorem zng : ∀ v, (evFn (mkCtx Go.K.Link.seat zcs zao) (sums zbd) 107 Go.Proofs.Tryz.f107 (encL z3x.a v)).run = (z3x.gen v).bind fun y => some (z3x.out y) := by
  rintro ⟨s, ⟨k, _⟩⟩
  show _ = (impl_Sequence_at s k).bind fun y : Int => some (z3x.out y)
  simp only [impl_Sequence_at, kb_ite, kb_some, kb_none, kb_bind, kb_alt]
  kernel_rfl
theorem zme : FnIs Go.Proofs.Tryz.prog 107 (modeOf []) (phi [z3x]) := spec_is (c := zcs) seatOK znf Go.Proofs.Tryz.func107 rfl (code := zfh) rfl rfl zmd zng
noncomputable def z8x : LSum := ⟨0, ⟨[(1, .val (.int .i64) .fr), (0, .val (.ptr (.pair (.str) (.pair (.str) (.unit)))) (.own .fr)), (9, .val (.int .i64) .fr), (0, .val (.int .i64) .fr)], 16⟩, (.ret, ⟨[(4, .val (.int .i64) .fr)], 25⟩), [(.exit 0, ⟨[], 30⟩)], impl_Sequence_rho_l0⟩
noncomputable def z2n : Spec := ⟨[.v (.pair (.str) (.pair (.str) (.unit))) .fr, .v (.int .i64) .fr], Int, fun v => impl_Sequence_rho v.1 v.2.1, fun r => ([.v (.int .i64) .fr r], [])⟩
noncomputable def z6b : List LSum := [z8x]
noncomputable def z5n : List Row := [⟨107, [], [z3x]⟩]
theorem zmf : ∀ r, r ∈ z5n → RowIs Go.Proofs.Tryz.prog r := tab_cons (zme) (tab_nil)
theorem zka : RoundIs (mkCtx Go.K.Link.seat z7m z5n) (sums z6b) 0 (bodyAt (loopsOf 0 z8w) 0) z8x := by
  rintro ⟨k, ⟨s, ⟨t12, ⟨t13, _⟩⟩⟩⟩
  show _ = (impl_Sequence_rho_l0 (k, (s, (t12, (t13, ()))))).bind fun r : (Ctl (Int × (((List UInt8) × ((List UInt8) × Unit))) × Int × Int × Unit) ((Int × Unit) ⊕ (Unit))) => some (ctlVal z8x r)
  simp only [impl_Sequence_rho_l0, kb_ite, kb_some, kb_none, kb_bind, kb_alt]
  kernel_rfl
theorem zlj : RoundsOK (mkCtx Go.K.Link.seat z7m z5n) (sums z6b) (loopsOf 0 z8w) z6b := ⟨⟨rfl, rfl, zka⟩, trivial⟩
theorem zmg : ∀ v, (evFn (mkCtx Go.K.Link.seat z7m z5n) (sums z6b) 226 Go.Proofs.Tryz.f226 (encL z2n.a v)).run = (z2n.gen v).bind fun y => some (z2n.out y) := by
  rintro ⟨s, ⟨k, _⟩⟩
  show _ = (impl_Sequence_rho s k).bind fun y : Int => some (z2n.out y)
  simp only [impl_Sequence_rho, kb_ite, kb_some, kb_none, kb_bind, kb_alt]
  kernel_rfl
theorem zg4 : FnIs Go.Proofs.Tryz.prog 226 (modeOf []) (phi [z2n]) := spec_is (c := z7m) seatOK zmf Go.Proofs.Tryz.func226 rfl (code := z8w) rfl rfl zlj zmg
noncomputable def z5w : LSum := ⟨0, ⟨[(1, .val (.int .i64) .fr), (0, .val (.int .i64) .fr), (0, .val (.ptr (.pair (.str) (.pair (.str) (.unit)))) (.own .fr))], 16⟩, (.exit 0, ⟨[(1, .val (.int .i64) .fr), (0, .val (.int .i64) .fr)], 17⟩), [], impl_Sequence_reaches_l0⟩
noncomputable def z24 : Spec := ⟨[.v (.pair (.str) (.pair (.str) (.unit))) .fr, .v (.int .i64) .fr, .v (.int .i64) .fr], Bool, fun v => impl_Sequence_reaches v.1 v.2.1 v.2.2.1, fun r => ([.v (.bool) .fr r], [])⟩
noncomputable def z4c : List LSum := [z5w]
noncomputable def z40 : List Row := [⟨226, [], [z2n]⟩]
theorem zjd : ∀ r, r ∈ z40 → RowIs Go.Proofs.Tryz.prog r := tab_cons (zg4) (tab_nil)
theorem zi0 : RoundIs (mkCtx Go.K.Link.seat z4s z40) (sums z4c) 0 (bodyAt (loopsOf 0 z5v) 0) z5w := by
  rintro ⟨from', ⟨to', ⟨s, _⟩⟩⟩
  show _ = (impl_Sequence_reaches_l0 (from', (to', (s, ())))).bind fun r : (Ctl (Int × Int × (((List UInt8) × ((List UInt8) × Unit))) × Unit) ((Int × Int × Unit))) => some (ctlVal z5w r)
  simp only [impl_Sequence_reaches_l0, kb_ite, kb_some, kb_none, kb_bind, kb_alt]
  kernel_rfl
theorem zix : RoundsOK (mkCtx Go.K.Link.seat z4s z40) (sums z4c) (loopsOf 0 z5v) z4c := ⟨⟨rfl, rfl, zi0⟩, trivial⟩
theorem zje : ∀ v, (evFn (mkCtx Go.K.Link.seat z4s z40) (sums z4c) 225 Go.Proofs.Tryz.f225 (encL z24.a v)).run = (z24.gen v).bind fun y => some (z24.out y) := by
  rintro ⟨s, ⟨from', ⟨to', _⟩⟩⟩
  show _ = (impl_Sequence_reaches s from' to').bind fun y : Bool => some (z24.out y)
  simp only [impl_Sequence_reaches, kb_ite, kb_some, kb_none, kb_bind, kb_alt]
  kernel_rfl
theorem ziy : FnIs Go.Proofs.Tryz.prog 225 (modeOf []) (phi [z24]) := spec_is (c := z4s) seatOK zjd Go.Proofs.Tryz.func225 rfl (code := z5v) rfl rfl zix zje
noncomputable def z73 : LSum := ⟨0, ⟨[(1, .val (.int .i64) .fr), (0, .val (.ptr (.pair (.str) (.pair (.str) (.unit)))) (.own .fr)), (2, .val (.int .i64) .fr)], 29⟩, (.ret, ⟨[(4, .val (.bool) .fr)], 30⟩), [(.exit 0, ⟨[(1, .val (.int .i64) .fr), (0, .val (.ptr (.pair (.str) (.pair (.str) (.unit)))) (.own .fr))], 32⟩)], impl_Sequence_fails_l0⟩
noncomputable def z1y : Spec := ⟨[.v (.pair (.str) (.pair (.str) (.unit))) .fr, .v (.int .i64) .fr], Bool, fun v => impl_Sequence_fails v.1 v.2.1, fun r => ([.v (.bool) .fr r], [])⟩
noncomputable def z5a : List LSum := [z73]
noncomputable def z4t : List Row := [⟨225, [], [z24]⟩, ⟨226, [], [z2n]⟩]
theorem zky : ∀ r, r ∈ z4t → RowIs Go.Proofs.Tryz.prog r := tab_cons (ziy) (tab_cons (zg4) (tab_nil))
theorem ziz : RoundIs (mkCtx Go.K.Link.seat z5m z4t) (sums z5a) 0 (bodyAt (loopsOf 0 z71) 0) z73 := by
  rintro ⟨m, ⟨s, ⟨k, _⟩⟩⟩
  show _ = (impl_Sequence_fails_l0 (m, (s, (k, ())))).bind fun r : (Ctl (Int × (((List UInt8) × ((List UInt8) × Unit))) × Int × Unit) ((Bool × Unit) ⊕ (Int × (((List UInt8) × ((List UInt8) × Unit))) × Unit))) => some (ctlVal z73 r)
  simp only [impl_Sequence_fails_l0, kb_ite, kb_some, kb_none, kb_bind, kb_alt]
  kernel_rfl
theorem zkb : RoundsOK (mkCtx Go.K.Link.seat z5m z4t) (sums z5a) (loopsOf 0 z71) z5a := ⟨⟨rfl, rfl, ziz⟩, trivial⟩
theorem zkz : ∀ v, (evFn (mkCtx Go.K.Link.seat z5m z4t) (sums z5a) 158 Go.Proofs.Tryz.f158 (encL z1y.a v)).run = (z1y.gen v).bind fun y => some (z1y.out y) := by
  rintro ⟨s, ⟨m, _⟩⟩
  show _ = (impl_Sequence_fails s m).bind fun y : Bool => some (z1y.out y)
  simp only [impl_Sequence_fails, kb_ite, kb_some, kb_none, kb_bind, kb_alt]
  kernel_rfl
theorem zeh : FnIs Go.Proofs.Tryz.prog 158 (modeOf []) (phi [z1y]) := spec_is (c := z5m) seatOK zky Go.Proofs.Tryz.func158 rfl (code := z71) rfl rfl zkb zkz
noncomputable def z5o : Spec := ⟨[.v (.pair (.str) (.pair (.str) (.unit))) .fr, .v (.int .i64) .fr], Bool × Int, fun v => impl_FailsFor v.1 v.2.1, fun r => ([.v (.bool) .fr r.1, .v (.int .i64) .fr r.2], [])⟩
noncomputable def zf2 : List LSum := []
noncomputable def zdx : List Row := [⟨14, [], [z2j]⟩, ⟨155, [], [z1a]⟩, ⟨158, [], [z1y]⟩, ⟨106, [], [z3p]⟩]
theorem zq6 : ∀ r, r ∈ zdx → RowIs (drI := drZ) Go.Proofs.Tryz.prog r := tab_cons (drI := drZ) (zcq) (tab_cons (drI := drZ) (z7v) (tab_cons (drI := drZ) ((weak_is zeh)) (tab_cons (drI := drZ) ((weak_is zdb)) (tab_nil (drI := drZ)))))
theorem zp9 : RoundsOK (mkCtx Go.K.Link.seat zg2 zdx) (sums zf2) (loopsOf 0 zhk) zf2 := trivial
theorem zq7 : ∀ v, (evFn (mkCtx Go.K.Link.seat zg2 zdx) (sums zf2) 66 Go.Proofs.Tryz.f66 (encL z5o.a v)).run = (z5o.gen v).bind fun y => some (z5o.out y) := by
  rintro ⟨s, ⟨m, _⟩⟩
  show _ = (impl_FailsFor s m).bind fun y : Bool × Int => some (z5o.out y)
  simp only [impl_FailsFor, kb_ite, kb_some, kb_none, kb_bind, kb_alt]
  kernel_rfl
theorem zpa : FnIs (drI := drZ) Go.Proofs.Tryz.prog 66 (modeOf []) (phi [z5o]) := spec_is (drI := drZ) (c := zg2) seatOK zq6 Go.Proofs.Tryz.func66 rfl (code := zhk) rfl rfl zp9 zq7
noncomputable def zhl : Code := (Go.Proofs.Tryz.f67.body).getD .skip
def zg5 : Cfg := ⟨67, [], [], [], [], []⟩
noncomputable def zjq : Code := (Go.Proofs.Tryz.f109.body).getD .skip
def zj0 : Cfg := ⟨109, [], [], [], [], []⟩
noncomputable def z74 : Spec := ⟨[.v (.int .i64) .fr, .v (.int .i64) .fr, .v (.int .i64) .fr], Bool, fun v => spec_l01In v.1 v.2.1 v.2.2.1, fun r => ([.v (.bool) .fr r], [])⟩
noncomputable def zi1 : List LSum := []
noncomputable def zh5 : List Row := []
theorem zsa : ∀ r, r ∈ zh5 → RowIs Go.Proofs.Tryz.prog r := tab_nil
theorem zru : RoundsOK (mkCtx Go.K.Link.seat zj0 zh5) (sums zi1) (loopsOf 0 zjq) zi1 := trivial
theorem zsb : ∀ v, (evFn (mkCtx Go.K.Link.seat zj0 zh5) (sums zi1) 109 Go.Proofs.Tryz.f109 (encL z74.a v)).run = (z74.gen v).bind fun y => some (z74.out y) := by
  rintro ⟨n, ⟨low, ⟨high, _⟩⟩⟩
  show _ = (spec_l01In n low high).bind fun y : Bool => some (z74.out y)
  simp only [spec_l01In, kb_ite, kb_some, kb_none, kb_bind, kb_alt]
  kernel_rfl
theorem zm4 : FnIs Go.Proofs.Tryz.prog 109 (modeOf []) (phi [z74]) := spec_is (c := zj0) seatOK zsa Go.Proofs.Tryz.func109 rfl (code := zjq) rfl rfl zru zsb
noncomputable def zct : Code := (Go.Proofs.Tryz.f159.body).getD .skip
def zc1 : Cfg := ⟨159, [], [[1, 2, 5, 6], [1, 2, 5], [4]], [], [], []⟩
noncomputable def zcu : Code := (Go.Proofs.Tryz.f228.body).getD .skip
def zc2 : Cfg := ⟨228, [], [[2, 3, 7, 8, 9, 25], [7, 9, 25], [6, 7, 9, 25, 26]], [], [], []⟩
noncomputable def zf3 : Code := (Go.Proofs.Tryz.f229.body).getD .skip
def zeq : Cfg := ⟨229, [], [[1, 2, 5], [], [4]], [], [], []⟩
noncomputable def zjr : Code := (Go.Proofs.Tryz.f97.body).getD .skip
def zj1 : Cfg := ⟨97, [], [], [], [], []⟩
noncomputable def z9t : Spec := ⟨[.v (.pair (.str) (.pair (.str) (.unit))) .fr, .v (.int .i64) .fr], Int, fun v => spec_l01At v.1 v.2.1, fun r => ([.v (.int .u8) .fr r], [])⟩
noncomputable def zi2 : List LSum := []
noncomputable def zh6 : List Row := []
theorem zsc : ∀ r, r ∈ zh6 → RowIs Go.Proofs.Tryz.prog r := tab_nil
theorem zrv : RoundsOK (mkCtx Go.K.Link.seat zj1 zh6) (sums zi2) (loopsOf 0 zjr) zi2 := trivial
theorem zsd : ∀ v, (evFn (mkCtx Go.K.Link.seat zj1 zh6) (sums zi2) 97 Go.Proofs.Tryz.f97 (encL z9t.a v)).run = (z9t.gen v).bind fun y => some (z9t.out y) := by
  rintro ⟨s, ⟨k, _⟩⟩
  show _ = (spec_l01At s k).bind fun y : Int => some (z9t.out y)
  simp only [spec_l01At, kb_ite, kb_some, kb_none, kb_bind, kb_alt]
  kernel_rfl
theorem zrw : FnIs Go.Proofs.Tryz.prog 97 (modeOf []) (phi [z9t]) := spec_is (c := zj1) seatOK zsc Go.Proofs.Tryz.func97 rfl (code := zjr) rfl rfl zrv zsd
noncomputable def zf4 : LSum := ⟨0, ⟨[(1, .val (.int .i64) .fr), (0, .val (.ptr (.pair (.str) (.pair (.str) (.unit)))) (.own .fr)), (2, .val (.int .i64) .fr)], 27⟩, (.ret, ⟨[(4, .val (.int .i64) .fr)], 28⟩), [(.exit 0, ⟨[], 33⟩)], spec_l02Rho_l0⟩
noncomputable def z5x : Spec := ⟨[.v (.pair (.str) (.pair (.str) (.unit))) .fr, .v (.int .i64) .fr], Int, fun v => spec_l02Rho v.1 v.2.1, fun r => ([.v (.int .i64) .fr r], [])⟩
noncomputable def zdc : List LSum := [zf4]
noncomputable def zc3 : List Row := [⟨97, [], [z9t]⟩]
theorem zrx : ∀ r, r ∈ zc3 → RowIs Go.Proofs.Tryz.prog r := tab_cons (zrw) (tab_nil)
theorem zpb : RoundIs (mkCtx Go.K.Link.seat zeq zc3) (sums zdc) 0 (bodyAt (loopsOf 0 zf3) 0) zf4 := by
  rintro ⟨k, ⟨s, ⟨j, _⟩⟩⟩
  show _ = (spec_l02Rho_l0 (k, (s, (j, ())))).bind fun r : (Ctl (Int × (((List UInt8) × ((List UInt8) × Unit))) × Int × Unit) ((Int × Unit) ⊕ (Unit))) => some (ctlVal zf4 r)
  simp only [spec_l02Rho_l0, kb_ite, kb_some, kb_none, kb_bind, kb_alt]
  kernel_rfl
theorem zr8 : RoundsOK (mkCtx Go.K.Link.seat zeq zc3) (sums zdc) (loopsOf 0 zf3) zdc := ⟨⟨rfl, rfl, zpb⟩, trivial⟩
theorem zry : ∀ v, (evFn (mkCtx Go.K.Link.seat zeq zc3) (sums zdc) 229 Go.Proofs.Tryz.f229 (encL z5x.a v)).run = (z5x.gen v).bind fun y => some (z5x.out y) := by
  rintro ⟨s, ⟨k, _⟩⟩
  show _ = (spec_l02Rho s k).bind fun y : Int => some (z5x.out y)
  simp only [spec_l02Rho, kb_ite, kb_some, kb_none, kb_bind, kb_alt]
  kernel_rfl
theorem zl0 : FnIs Go.Proofs.Tryz.prog 229 (modeOf []) (phi [z5x]) := spec_is (c := zeq) seatOK zrx Go.Proofs.Tryz.func229 rfl (code := zf3) rfl rfl zr8 zry
noncomputable def zcv : LSum := ⟨0, ⟨[(2, .val (.int .i64) .fr), (0, .val (.ptr (.pair (.str) (.pair (.str) (.unit)))) (.own .fr)), (3, .val (.sl 2 (.int .i64)) (.own .fr)), (0, .val (.int .i64) .fr)], 18⟩, (.exit 0, ⟨[(7, .val (.sl 2 (.int .i64)) (.own .fr))], 19⟩), [], spec_l02Along_l0⟩
noncomputable def z5p : Spec := ⟨[.v (.pair (.str) (.pair (.str) (.unit))) .fr, .v (.int .i64) .fr, .v (.int .i64) .fr], (List Int), fun v => spec_l02Along v.1 v.2.1 v.2.2.1, fun r => ([.v (.sl 2 (.int .i64)) (.own .fr) r], [])⟩
noncomputable def zap : List LSum := [zcv]
noncomputable def z9i : List Row := [⟨229, [], [z5x]⟩]
theorem zq8 : ∀ r, r ∈ z9i → RowIs Go.Proofs.Tryz.prog r := tab_cons (zl0) (tab_nil)
theorem znh : RoundIs (mkCtx Go.K.Link.seat zc2 z9i) (sums zap) 0 (bodyAt (loopsOf 0 zcu) 0) zcv := by
  rintro ⟨most, ⟨s, ⟨out, ⟨k, _⟩⟩⟩⟩
  show _ = (spec_l02Along_l0 (most, (s, (out, (k, ()))))).bind fun r : (Ctl (Int × (((List UInt8) × ((List UInt8) × Unit))) × (List Int) × Int × Unit) (((List Int) × Unit))) => some (ctlVal zcv r)
  simp only [spec_l02Along_l0, kb_ite, kb_some, kb_none, kb_bind, kb_alt]
  kernel_rfl
theorem zpc : RoundsOK (mkCtx Go.K.Link.seat zc2 z9i) (sums zap) (loopsOf 0 zcu) zap := ⟨⟨rfl, rfl, znh⟩, trivial⟩
theorem zq9 : ∀ v, (evFn (mkCtx Go.K.Link.seat zc2 z9i) (sums zap) 228 Go.Proofs.Tryz.f228 (encL z5p.a v)).run = (z5p.gen v).bind fun y => some (z5p.out y) := by
  rintro ⟨s, ⟨from', ⟨most, _⟩⟩⟩
  show _ = (spec_l02Along s from' most).bind fun y : (List Int) => some (z5p.out y)
  simp only [spec_l02Along, kb_ite, kb_some, kb_none, kb_bind, kb_alt]
  kernel_rfl
theorem zpd : FnIs Go.Proofs.Tryz.prog 228 (modeOf []) (phi [z5p]) := spec_is (c := zc2) seatOK zq8 Go.Proofs.Tryz.func228 rfl (code := zcu) rfl rfl zpc zq9
noncomputable def zf5 : Code := (Go.Proofs.Tryz.f227.body).getD .skip
def zer : Cfg := ⟨227, [], [[0, 1, 5], [], [4]], [], [], []⟩
noncomputable def zf6 : LSum := ⟨0, ⟨[(0, .val (.sl 2 (.int .i64)) .fr), (0, .val (.int .i64) .fr), (3, .val (.int .i64) .fr)], 12⟩, (.ret, ⟨[(4, .val (.bool) .fr)], 13⟩), [(.exit 0, ⟨[], 18⟩)], spec_l02Has_l0⟩
noncomputable def z84 : Spec := ⟨[.v (.sl 2 (.int .i64)) .fr, .v (.int .i64) .fr], Bool, fun v => spec_l02Has v.1 v.2.1, fun r => ([.v (.bool) .fr r], [])⟩
noncomputable def zdd : List LSum := [zf6]
noncomputable def zc4 : List Row := []
theorem zrz : ∀ r, r ∈ zc4 → RowIs Go.Proofs.Tryz.prog r := tab_nil
theorem zpe : RoundIs (mkCtx Go.K.Link.seat zer zc4) (sums zdd) 0 (bodyAt (loopsOf 0 zf5) 0) zf6 := by
  rintro ⟨list, ⟨m, ⟨i, _⟩⟩⟩
  show _ = (spec_l02Has_l0 (list, (m, (i, ())))).bind fun r : (Ctl ((List Int) × Int × Int × Unit) ((Bool × Unit) ⊕ (Unit))) => some (ctlVal zf6 r)
  simp only [spec_l02Has_l0, kb_ite, kb_some, kb_none, kb_bind, kb_alt]
  kernel_rfl
theorem zr9 : RoundsOK (mkCtx Go.K.Link.seat zer zc4) (sums zdd) (loopsOf 0 zf5) zdd := ⟨⟨rfl, rfl, zpe⟩, trivial⟩
theorem zs0 : ∀ v, (evFn (mkCtx Go.K.Link.seat zer zc4) (sums zdd) 227 Go.Proofs.Tryz.f227 (encL z84.a v)).run = (z84.gen v).bind fun y => some (z84.out y) := by
  rintro ⟨list, ⟨m, _⟩⟩
  show _ = (spec_l02Has list m).bind fun y : Bool => some (z84.out y)
  simp only [spec_l02Has, kb_ite, kb_some, kb_none, kb_bind, kb_alt]
  kernel_rfl
theorem zra : FnIs Go.Proofs.Tryz.prog 227 (modeOf []) (phi [z84]) := spec_is (c := zer) seatOK zrz Go.Proofs.Tryz.func227 rfl (code := zf5) rfl rfl zr9 zs0
noncomputable def zcw : LSum := ⟨0, ⟨[(1, .val (.int .i64) .fr), (0, .val (.ptr (.pair (.str) (.pair (.str) (.unit)))) (.own .fr)), (2, .val (.int .i64) .fr), (0, .val (.int .i64) .fr)], 46⟩, (.ret, ⟨[(4, .val (.bool) .fr)], 48⟩), [(.exit 0, ⟨[(1, .val (.int .i64) .fr), (0, .val (.ptr (.pair (.str) (.pair (.str) (.unit)))) (.own .fr)), (2, .val (.int .i64) .fr)], 47⟩)], spec_l02Fails_l0⟩
noncomputable def z4d : Spec := ⟨[.v (.pair (.str) (.pair (.str) (.unit))) .fr, .v (.int .i64) .fr], Bool, fun v => spec_l02Fails v.1 v.2.1, fun r => ([.v (.bool) .fr r], [])⟩
noncomputable def zaq : List LSum := [zcw]
noncomputable def z9j : List Row := [⟨227, [], [z84]⟩, ⟨228, [], [z5p]⟩, ⟨229, [], [z5x]⟩]
theorem zqa : ∀ r, r ∈ z9j → RowIs Go.Proofs.Tryz.prog r := tab_cons (zra) (tab_cons (zpd) (tab_cons (zl0) (tab_nil)))
theorem zni : RoundIs (mkCtx Go.K.Link.seat zc1 z9j) (sums zaq) 0 (bodyAt (loopsOf 0 zct) 0) zcw := by
  rintro ⟨m, ⟨s, ⟨n, ⟨k, _⟩⟩⟩⟩
  show _ = (spec_l02Fails_l0 (m, (s, (n, (k, ()))))).bind fun r : (Ctl (Int × (((List UInt8) × ((List UInt8) × Unit))) × Int × Int × Unit) ((Bool × Unit) ⊕ (Int × (((List UInt8) × ((List UInt8) × Unit))) × Int × Unit))) => some (ctlVal zcw r)
  simp only [spec_l02Fails_l0, kb_ite, kb_some, kb_none, kb_bind, kb_alt]
  kernel_rfl
theorem zpf : RoundsOK (mkCtx Go.K.Link.seat zc1 z9j) (sums zaq) (loopsOf 0 zct) zaq := ⟨⟨rfl, rfl, zni⟩, trivial⟩
theorem zqb : ∀ v, (evFn (mkCtx Go.K.Link.seat zc1 z9j) (sums zaq) 159 Go.Proofs.Tryz.f159 (encL z4d.a v)).run = (z4d.gen v).bind fun y => some (z4d.out y) := by
  rintro ⟨s, ⟨m, _⟩⟩
  show _ = (spec_l02Fails s m).bind fun y : Bool => some (z4d.out y)
  simp only [spec_l02Fails, kb_ite, kb_some, kb_none, kb_bind, kb_alt]
  kernel_rfl
theorem zj2 : FnIs Go.Proofs.Tryz.prog 159 (modeOf []) (phi [z4d]) := spec_is (c := zc1) seatOK zqa Go.Proofs.Tryz.func159 rfl (code := zct) rfl rfl zpf zqb
noncomputable def z5q : Spec := ⟨[.v (.pair (.str) (.pair (.str) (.unit))) .fr, .v (.int .i64) .fr], Bool × Int, fun v => spec_FailsFor v.1 v.2.1, fun r => ([.v (.bool) .fr r.1, .v (.int .i64) .fr r.2], [])⟩
noncomputable def zf7 : List LSum := []
noncomputable def zdy : List Row := [⟨156, [], [z3w]⟩, ⟨159, [], [z4d]⟩, ⟨96, [], [z4o]⟩, ⟨109, [], [z74]⟩]
theorem zqc : ∀ r, r ∈ zdy → RowIs Go.Proofs.Tryz.prog r := tab_cons (zg0) (tab_cons (zj2) (tab_cons (zh3) (tab_cons (zm4) (tab_nil))))
theorem zpg : RoundsOK (mkCtx Go.K.Link.seat zg5 zdy) (sums zf7) (loopsOf 0 zhl) zf7 := trivial
theorem zqd : ∀ v, (evFn (mkCtx Go.K.Link.seat zg5 zdy) (sums zf7) 67 Go.Proofs.Tryz.f67 (encL z5q.a v)).run = (z5q.gen v).bind fun y => some (z5q.out y) := by
  rintro ⟨s, ⟨m, _⟩⟩
  show _ = (spec_FailsFor s m).bind fun y : Bool × Int => some (z5q.out y)
  simp only [spec_FailsFor, kb_ite, kb_some, kb_none, kb_bind, kb_alt]
  kernel_rfl
theorem zph : FnIs Go.Proofs.Tryz.prog 67 (modeOf []) (phi [z5q]) := spec_is (c := zg5) seatOK zqc Go.Proofs.Tryz.func67 rfl (code := zhl) rfl rfl zpg zqd
noncomputable def zb7 : Code := (Go.Proofs.Tryz.f68.body).getD .skip
def z7y : Cfg := ⟨68, [], [], [], [], []⟩
noncomputable def z26 : Spec := ⟨[.v (.sl 5 (.int .u8)) .fr], ((List UInt8) × ((List UInt8) × Unit)), fun v => spec_DrawIsAdmissible v.1, fun r => ([.v (.pair (.str) (.pair (.str) (.unit))) .fr r], [])⟩
noncomputable def z78 : List LSum := []
noncomputable def z6c : List Row := [⟨65, [], [z2m]⟩, ⟨78, [], [z32]⟩, ⟨93, [.mut], [z1p]⟩]
theorem zjf : ∀ r, r ∈ z6c → RowIs Go.Proofs.Tryz.prog r := tab_cons (zg1) (tab_cons (zbw) (tab_cons (z48) (tab_nil)))
theorem zj3 : RoundsOK (mkCtx Go.K.Link.seat z7y z6c) (sums z78) (loopsOf 0 zb7) z78 := trivial
theorem zjg : ∀ v, (evFn (mkCtx Go.K.Link.seat z7y z6c) (sums z78) 68 Go.Proofs.Tryz.f68 (encL z26.a v)).run = (z26.gen v).bind fun y => some (z26.out y) := by
  rintro ⟨code, _⟩
  show _ = (spec_DrawIsAdmissible code).bind fun y : ((List UInt8) × ((List UInt8) × Unit)) => some (z26.out y)
  simp only [spec_DrawIsAdmissible, kb_ite, kb_some, kb_none, kb_bind, kb_alt]
  kernel_rfl
theorem zj4 : FnIs Go.Proofs.Tryz.prog 68 (modeOf []) (phi [z26]) := spec_is (c := z7y) seatOK zjf Go.Proofs.Tryz.func68 rfl (code := zb7) rfl rfl zj3 zjg
noncomputable def zei : Code := (Go.Proofs.Tryz.f69.body).getD .skip
def zbe : Cfg := ⟨69, [], [], [], [], []⟩
noncomputable def z43 : Code := (Go.Proofs.Tryz.f160.body).getD .skip
def z36 : Cfg := ⟨160, [], [[1, 6, 7], [], [2]], [], [], []⟩
noncomputable def z44 : LSum := ⟨0, ⟨[(1, .val (.ptr (.pair (.str) (.pair (.str) (.unit)))) (.own .fr)), (4, .val (.int .i64) .fr), (0, .val (.int .i64) .fr)], 10⟩, (.ret, ⟨[(2, .val (.bool) .fr)], 15⟩), [(.exit 0, ⟨[], 18⟩)], impl_Sequence_isAdmissible_l0⟩
noncomputable def zu : Spec := ⟨[.v (.pair (.str) (.pair (.str) (.unit))) .fr], Bool, fun v => impl_Sequence_isAdmissible v.1, fun r => ([.v (.bool) .fr r], [])⟩
noncomputable def z2y : List LSum := [z44]
noncomputable def z2q : List Row := [⟨158, [], [z1y]⟩]
theorem zh7 : ∀ r, r ∈ z2q → RowIs Go.Proofs.Tryz.prog r := tab_cons (zeh) (tab_nil)
theorem zfn : RoundIs (mkCtx Go.K.Link.seat z36 z2q) (sums z2y) 0 (bodyAt (loopsOf 0 z43) 0) z44 := by
  rintro ⟨s, ⟨t6, ⟨t7, _⟩⟩⟩
  show _ = (impl_Sequence_isAdmissible_l0 (s, (t6, (t7, ())))).bind fun r : (Ctl ((((List UInt8) × ((List UInt8) × Unit))) × Int × Int × Unit) ((Bool × Unit) ⊕ (Unit))) => some (ctlVal z44 r)
  simp only [impl_Sequence_isAdmissible_l0, kb_ite, kb_some, kb_none, kb_bind, kb_alt]
  kernel_rfl
theorem zgm : RoundsOK (mkCtx Go.K.Link.seat z36 z2q) (sums z2y) (loopsOf 0 z43) z2y := ⟨⟨rfl, rfl, zfn⟩, trivial⟩
theorem zh8 : ∀ v, (evFn (mkCtx Go.K.Link.seat z36 z2q) (sums z2y) 160 Go.Proofs.Tryz.f160 (encL zu.a v)).run = (zu.gen v).bind fun y => some (zu.out y) := by
  rintro ⟨s, _⟩
  show _ = (impl_Sequence_isAdmissible s).bind fun y : Bool => some (zu.out y)
  simp only [impl_Sequence_isAdmissible, kb_ite, kb_some, kb_none, kb_bind, kb_alt]
  kernel_rfl
theorem z9a : FnIs Go.Proofs.Tryz.prog 160 (modeOf []) (phi [zu]) := spec_is (c := z36) seatOK zh7 Go.Proofs.Tryz.func160 rfl (code := z43) rfl rfl zgm zh8
noncomputable def z3f : Spec := ⟨[.v (.pair (.str) (.pair (.str) (.unit))) .fr], Bool × Int, fun v => impl_IsAdmissible v.1, fun r => ([.v (.bool) .fr r.1, .v (.int .i64) .fr r.2], [])⟩
noncomputable def zar : List LSum := []
noncomputable def z9u : List Row := [⟨14, [], [z2j]⟩, ⟨155, [], [z1a]⟩, ⟨160, [], [zu]⟩]
theorem zmh : ∀ r, r ∈ z9u → RowIs (drI := drZ) Go.Proofs.Tryz.prog r := tab_cons (drI := drZ) (zcq) (tab_cons (drI := drZ) (z7v) (tab_cons (drI := drZ) ((weak_is z9a)) (tab_nil (drI := drZ))))
theorem zlk : RoundsOK (mkCtx Go.K.Link.seat zbe z9u) (sums zar) (loopsOf 0 zei) zar := trivial
theorem zmi : ∀ v, (evFn (mkCtx Go.K.Link.seat zbe z9u) (sums zar) 69 Go.Proofs.Tryz.f69 (encL z3f.a v)).run = (z3f.gen v).bind fun y => some (z3f.out y) := by
  rintro ⟨s, _⟩
  show _ = (impl_IsAdmissible s).bind fun y : Bool × Int => some (z3f.out y)
  simp only [impl_IsAdmissible, kb_ite, kb_some, kb_none, kb_bind, kb_alt]
  kernel_rfl
theorem zll : FnIs (drI := drZ) Go.Proofs.Tryz.prog 69 (modeOf []) (phi [z3f]) := spec_is (drI := drZ) (c := zbe) seatOK zmh Go.Proofs.Tryz.func69 rfl (code := zei) rfl rfl zlk zmi
noncomputable def zej : Code := (Go.Proofs.Tryz.f70.body).getD .skip
def zbf : Cfg := ⟨70, [], [], [], [], []⟩
noncomputable def zdz : Code := (Go.Proofs.Tryz.f161.body).getD .skip
def zde : Cfg := ⟨161, [], [[1, 3], [], [2]], [], [], []⟩
noncomputable def ze0 : LSum := ⟨0, ⟨[(1, .val (.ptr (.pair (.str) (.pair (.str) (.unit)))) (.own .fr)), (1, .val (.int .i64) .fr)], 10⟩, (.ret, ⟨[(2, .val (.bool) .fr)], 11⟩), [(.exit 0, ⟨[], 14⟩)], spec_l02Good_l0⟩
noncomputable def z4z : Spec := ⟨[.v (.pair (.str) (.pair (.str) (.unit))) .fr], Bool, fun v => spec_l02Good v.1, fun r => ([.v (.bool) .fr r], [])⟩
noncomputable def zc5 : List LSum := [ze0]
noncomputable def zas : List Row := [⟨159, [], [z4d]⟩]
theorem zrb : ∀ r, r ∈ zas → RowIs Go.Proofs.Tryz.prog r := tab_cons (zj2) (tab_nil)
theorem zoh : RoundIs (mkCtx Go.K.Link.seat zde zas) (sums zc5) 0 (bodyAt (loopsOf 0 zdz) 0) ze0 := by
  rintro ⟨s, ⟨m, _⟩⟩
  show _ = (spec_l02Good_l0 (s, (m, ()))).bind fun r : (Ctl ((((List UInt8) × ((List UInt8) × Unit))) × Int × Unit) ((Bool × Unit) ⊕ (Unit))) => some (ctlVal ze0 r)
  simp only [spec_l02Good_l0, kb_ite, kb_some, kb_none, kb_bind, kb_alt]
  kernel_rfl
theorem zqe : RoundsOK (mkCtx Go.K.Link.seat zde zas) (sums zc5) (loopsOf 0 zdz) zc5 := ⟨⟨rfl, rfl, zoh⟩, trivial⟩
theorem zrc : ∀ v, (evFn (mkCtx Go.K.Link.seat zde zas) (sums zc5) 161 Go.Proofs.Tryz.f161 (encL z4z.a v)).run = (z4z.gen v).bind fun y => some (z4z.out y) := by
  rintro ⟨s, _⟩
  show _ = (spec_l02Good s).bind fun y : Bool => some (z4z.out y)
  simp only [spec_l02Good, kb_ite, kb_some, kb_none, kb_bind, kb_alt]
  kernel_rfl
theorem zjs : FnIs Go.Proofs.Tryz.prog 161 (modeOf []) (phi [z4z]) := spec_is (c := zde) seatOK zrb Go.Proofs.Tryz.func161 rfl (code := zdz) rfl rfl zqe zrc
noncomputable def z3g : Spec := ⟨[.v (.pair (.str) (.pair (.str) (.unit))) .fr], Bool × Int, fun v => spec_IsAdmissible v.1, fun r => ([.v (.bool) .fr r.1, .v (.int .i64) .fr r.2], [])⟩
noncomputable def zat : List LSum := []
noncomputable def z9v : List Row := [⟨156, [], [z3w]⟩, ⟨161, [], [z4z]⟩, ⟨96, [], [z4o]⟩]
theorem zmj : ∀ r, r ∈ z9v → RowIs Go.Proofs.Tryz.prog r := tab_cons (zg0) (tab_cons (zjs) (tab_cons (zh3) (tab_nil)))
theorem zlm : RoundsOK (mkCtx Go.K.Link.seat zbf z9v) (sums zat) (loopsOf 0 zej) zat := trivial
theorem zmk : ∀ v, (evFn (mkCtx Go.K.Link.seat zbf z9v) (sums zat) 70 Go.Proofs.Tryz.f70 (encL z3g.a v)).run = (z3g.gen v).bind fun y => some (z3g.out y) := by
  rintro ⟨s, _⟩
  show _ = (spec_IsAdmissible s).bind fun y : Bool × Int => some (z3g.out y)
  simp only [spec_IsAdmissible, kb_ite, kb_some, kb_none, kb_bind, kb_alt]
  kernel_rfl
theorem zln : FnIs Go.Proofs.Tryz.prog 70 (modeOf []) (phi [z3g]) := spec_is (c := zbf) seatOK zmj Go.Proofs.Tryz.func70 rfl (code := zej) rfl rfl zlm zmk
noncomputable def z9b : Code := (Go.Proofs.Tryz.f71.body).getD .skip
def z5y : Cfg := ⟨71, [], [], [], [], []⟩
noncomputable def z1q : Spec := ⟨[.v (.sl 5 (.int .u8)) .fr], Int, fun v => spec_DrawAdmissibleWords v.1, fun r => ([.v (.int .i64) .fr r], [])⟩
noncomputable def z5e : List LSum := []
noncomputable def z52 : List Row := [⟨78, [], [z32]⟩, ⟨93, [.mut], [z1p]⟩]
theorem zi3 : ∀ r, r ∈ z52 → RowIs Go.Proofs.Tryz.prog r := tab_cons (zbw) (tab_cons (z48) (tab_nil))
theorem zhm : RoundsOK (mkCtx Go.K.Link.seat z5y z52) (sums z5e) (loopsOf 0 z9b) z5e := trivial
theorem zi4 : ∀ v, (evFn (mkCtx Go.K.Link.seat z5y z52) (sums z5e) 71 Go.Proofs.Tryz.f71 (encL z1q.a v)).run = (z1q.gen v).bind fun y => some (z1q.out y) := by
  rintro ⟨code, _⟩
  show _ = (spec_DrawAdmissibleWords code).bind fun y : Int => some (z1q.out y)
  simp only [spec_DrawAdmissibleWords, kb_ite, kb_some, kb_none, kb_bind, kb_alt]
  kernel_rfl
theorem zhn : FnIs Go.Proofs.Tryz.prog 71 (modeOf []) (phi [z1q]) := spec_is (c := z5y) seatOK zi3 Go.Proofs.Tryz.func71 rfl (code := z9b) rfl rfl zhm zi4
noncomputable def z2r : Code := (Go.Proofs.Tryz.f72.body).getD .skip
def z2f : Cfg := ⟨72, [], [[0, 4, 5, 14, 16, 17, 31, 33, 37, 52], [0, 4, 5, 14, 31, 33, 37, 52], [2, 3, 8, 52, 54], [], [], [], [0, 4, 5, 14, 16, 17, 19, 20, 21, 31, 33, 37, 52], [0, 5, 14, 16, 17, 31, 37, 52], [2, 3, 8, 52, 54], [], [], [], [4, 5, 8, 14, 31, 33, 37, 38, 39, 40, 52], [8, 52], [2, 3, 8, 52, 54]], [], [], [(999995, [4, 7, 5, 4, 4, 10, 8, 2])]⟩
noncomputable def z6d : LSum := ⟨2, ⟨[(0, .val (.int .i64) .fr), (3, .val (.sl 9 (.str)) (.own .fr)), (0, .val (.sl 9 (.str)) (.own .fr)), (10, .val (.int .i64) .fr), (0, .val (.int .i64) .fr), (1, .sref 4 []), (0, .val (.int .i64) .fr), (0, .val (.int .i64) .fr)], 33⟩, (.exit 2, ⟨[(0, .val (.int .i64) .fr), (4, .val (.sl 9 (.str)) (.own .fr)), (10, .val (.int .i64) .fr), (0, .val (.int .i64) .fr)], 37⟩), [], impl_AdmissibleWords_l1⟩
noncomputable def z6e : LSum := ⟨0, ⟨[(0, .val (.int .i64) .fr), (3, .val (.sl 9 (.str)) (.own .fr)), (11, .val (.int .i64) .fr), (0, .val (.int .i64) .fr)], 37⟩, (.exit 0, ⟨[(0, .val (.int .i64) .fr), (3, .val (.sl 9 (.str)) (.own .fr))], 50⟩), [], impl_AdmissibleWords_l0⟩
noncomputable def z6f : LSum := ⟨4, ⟨[(4, .val (.sl 9 (.str)) (.own .fr)), (3, .val (.sl 9 (.str)) (.own .fr)), (29, .sref 4 []), (0, .val (.int .i64) .fr), (0, .val (.int .i64) .fr)], 14⟩, (.exit 4, ⟨[(8, .val (.sl 9 (.str)) (.own .fr))], 46⟩), [], impl_AdmissibleWords_l2⟩
noncomputable def z2g : Spec := ⟨[.v (.int .i64) .fr], (List (List UInt8)) × Int, fun v => impl_AdmissibleWords v.1, fun r => ([.v (.sl 9 (.str)) (.own .fr) r.1, .v (.int .i64) .fr r.2], [])⟩
noncomputable def z27 : List LSum := [z6e, z6d, z6f]
noncomputable def z1z : List Row := [⟨160, [], [zu]⟩, ⟨106, [], [z3p]⟩]
theorem zkc : ∀ r, r ∈ z1z → RowIs Go.Proofs.Tryz.prog r := tab_cons (z9a) (tab_cons (zdb) (tab_nil))
theorem zij : RoundIs (mkCtx Go.K.Link.seat z2f z1z) (sums z27) 0 (bodyAt (loopsOf 0 z2r) 0) z6e := by
  rintro ⟨n, ⟨words, ⟨t16, ⟨t17, _⟩⟩⟩⟩
  show _ = (impl_AdmissibleWords_l0 (n, (words, (t16, (t17, ()))))).bind fun r : (Ctl (Int × (List (List UInt8)) × Int × Int × Unit) ((Int × (List (List UInt8)) × Unit))) => some (ctlVal z6e r)
  simp only [impl_AdmissibleWords_l0, kb_ite, kb_some, kb_none, kb_bind, kb_alt]
  kernel_rfl
theorem zik : RoundIs (mkCtx Go.K.Link.seat z2f z1z) (sums z27) 2 (bodyAt (loopsOf 0 z2r) 1) z6d := by
  rintro ⟨n, ⟨words, ⟨next', ⟨t16, ⟨t17, ⟨t20, ⟨t21, _⟩⟩⟩⟩⟩⟩⟩
  show _ = (impl_AdmissibleWords_l1 (n, (words, (next', (t16, (t17, (t20, (t21, ())))))))).bind fun r : (Ctl (Int × (List (List UInt8)) × (List (List UInt8)) × Int × Int × Int × Int × Unit) ((Int × (List (List UInt8)) × Int × Int × Unit))) => some (ctlVal z6d r)
  simp only [impl_AdmissibleWords_l1, kb_ite, kb_some, kb_none, kb_bind, kb_alt]
  kernel_rfl
theorem zil : RoundIs (mkCtx Go.K.Link.seat z2f z1z) (sums z27) 4 (bodyAt (loopsOf 0 z2r) 2) z6f := by
  rintro ⟨words, ⟨out, ⟨t39, ⟨t40, _⟩⟩⟩⟩
  show _ = (impl_AdmissibleWords_l2 (words, (out, (t39, (t40, ()))))).bind fun r : (Ctl ((List (List UInt8)) × (List (List UInt8)) × Int × Int × Unit) (((List (List UInt8)) × Unit))) => some (ctlVal z6f r)
  simp only [impl_AdmissibleWords_l2, kb_ite, kb_some, kb_none, kb_bind, kb_alt]
  kernel_rfl
theorem zjh : RoundsOK (mkCtx Go.K.Link.seat z2f z1z) (sums z27) (loopsOf 0 z2r) z27 := ⟨⟨rfl, rfl, zij⟩, ⟨⟨rfl, rfl, zik⟩, ⟨⟨rfl, rfl, zil⟩, trivial⟩⟩⟩
theorem zkd : ∀ v, (evFn (mkCtx Go.K.Link.seat z2f z1z) (sums z27) 72 Go.Proofs.Tryz.f72 (encL z2g.a v)).run = (z2g.gen v).bind fun y => some (z2g.out y) := by
  rintro ⟨n, _⟩
  show _ = (impl_AdmissibleWords n).bind fun y : (List (List UInt8)) × Int => some (z2g.out y)
  simp only [impl_AdmissibleWords, kb_ite, kb_some, kb_none, kb_bind, kb_alt]
  kernel_rfl
theorem zji : FnIs Go.Proofs.Tryz.prog 72 (modeOf []) (phi [z2g]) := spec_is (c := z2f) seatOK zkc Go.Proofs.Tryz.func72 rfl (code := z2r) rfl rfl zjh zkd
noncomputable def z41 : Code := (Go.Proofs.Tryz.f73.body).getD .skip
def z3n : Cfg := ⟨73, [], [[0, 4, 5, 14, 15, 40, 51], [4, 14, 15, 51], [2, 3, 4, 14, 15, 51, 52], [], [], [], [0, 4, 5, 6, 7, 14, 15, 24, 40, 51], [0, 4, 5, 6, 14, 15, 24, 40, 51], [2, 3, 4, 14, 15, 51, 52]], [], [], []⟩
noncomputable def z6g : LSum := ⟨2, ⟨[(0, .val (.int .i64) .fr), (3, .val (.sl 9 (.str)) (.own .fr)), (0, .val (.int .i64) .fr), (0, .val (.sl 5 (.int .u8)) (.own .fr)), (0, .val (.int .i64) .fr)], 45⟩, (.exit 2, ⟨[(0, .val (.int .i64) .fr), (3, .val (.sl 9 (.str)) (.own .fr)), (0, .val (.int .i64) .fr), (0, .val (.sl 5 (.int .u8)) (.own .fr))], 46⟩), [], spec_AdmissibleWords_l1⟩
noncomputable def z6h : LSum := ⟨0, ⟨[(0, .val (.int .i64) .fr), (3, .val (.sl 9 (.str)) (.own .fr)), (0, .val (.int .i64) .fr)], 47⟩, (.exit 0, ⟨[(4, .val (.sl 9 (.str)) (.own .fr))], 48⟩), [], spec_AdmissibleWords_l0⟩
noncomputable def z2h : Spec := ⟨[.v (.int .i64) .fr], (List (List UInt8)) × Int, fun v => spec_AdmissibleWords v.1, fun r => ([.v (.sl 9 (.str)) (.own .fr) r.1, .v (.int .i64) .fr r.2], [])⟩
noncomputable def z3a : List LSum := [z6h, z6g]
noncomputable def z2z : List Row := [⟨161, [], [z4z]⟩, ⟨109, [], [z74]⟩]
theorem zke : ∀ r, r ∈ z2z → RowIs Go.Proofs.Tryz.prog r := tab_cons (zjs) (tab_cons (zm4) (tab_nil))
theorem zim : RoundIs (mkCtx Go.K.Link.seat z3n z2z) (sums z3a) 0 (bodyAt (loopsOf 0 z41) 0) z6h := by
  rintro ⟨n, ⟨out, ⟨k, _⟩⟩⟩
  show _ = (spec_AdmissibleWords_l0 (n, (out, (k, ())))).bind fun r : (Ctl (Int × (List (List UInt8)) × Int × Unit) (((List (List UInt8)) × Unit))) => some (ctlVal z6h r)
  simp only [spec_AdmissibleWords_l0, kb_ite, kb_some, kb_none, kb_bind, kb_alt]
  kernel_rfl
theorem zin : RoundIs (mkCtx Go.K.Link.seat z3n z2z) (sums z3a) 2 (bodyAt (loopsOf 0 z41) 1) z6g := by
  rintro ⟨n, ⟨out, ⟨k, ⟨word', ⟨i, _⟩⟩⟩⟩⟩
  show _ = (spec_AdmissibleWords_l1 (n, (out, (k, (word', (i, ())))))).bind fun r : (Ctl (Int × (List (List UInt8)) × Int × (List Int) × Int × Unit) ((Int × (List (List UInt8)) × Int × (List Int) × Unit))) => some (ctlVal z6g r)
  simp only [spec_AdmissibleWords_l1, kb_ite, kb_some, kb_none, kb_bind, kb_alt]
  kernel_rfl
theorem zjj : RoundsOK (mkCtx Go.K.Link.seat z3n z2z) (sums z3a) (loopsOf 0 z41) z3a := ⟨⟨rfl, rfl, zim⟩, ⟨⟨rfl, rfl, zin⟩, trivial⟩⟩
theorem zkf : ∀ v, (evFn (mkCtx Go.K.Link.seat z3n z2z) (sums z3a) 73 Go.Proofs.Tryz.f73 (encL z2h.a v)).run = (z2h.gen v).bind fun y => some (z2h.out y) := by
  rintro ⟨n, _⟩
  show _ = (spec_AdmissibleWords n).bind fun y : (List (List UInt8)) × Int => some (z2h.out y)
  simp only [spec_AdmissibleWords, kb_ite, kb_some, kb_none, kb_bind, kb_alt]
  kernel_rfl
theorem zjk : FnIs Go.Proofs.Tryz.prog 73 (modeOf []) (phi [z2h]) := spec_is (c := z3n) seatOK zke Go.Proofs.Tryz.func73 rfl (code := z41) rfl rfl zjj zkf
noncomputable def zf8 : Code := (Go.Proofs.Tryz.f74.body).getD .skip
def zes : Cfg := ⟨74, [], [[0, 1, 5], [], [4]], [], [], []⟩
noncomputable def zf9 : LSum := ⟨0, ⟨[(0, .val (.sl 9 (.str)) .fr), (0, .val (.sl 9 (.str)) .fr), (3, .val (.int .i64) .fr)], 20⟩, (.ret, ⟨[(4, .val (.bool) .fr)], 21⟩), [(.exit 0, ⟨[], 26⟩)], laws_texts9_l0⟩
noncomputable def z85 : Spec := ⟨[.v (.sl 9 (.str)) .fr, .v (.sl 9 (.str)) .fr], Bool, fun v => laws_texts9 v.1 v.2.1, fun r => ([.v (.bool) .fr r], [])⟩
noncomputable def zdf : List LSum := [zf9]
noncomputable def zc6 : List Row := []
theorem zs1 : ∀ r, r ∈ zc6 → RowIs Go.Proofs.Tryz.prog r := tab_nil
theorem zpi : RoundIs (mkCtx Go.K.Link.seat zes zc6) (sums zdf) 0 (bodyAt (loopsOf 0 zf8) 0) zf9 := by
  rintro ⟨a, ⟨b, ⟨i, _⟩⟩⟩
  show _ = (laws_texts9_l0 (a, (b, (i, ())))).bind fun r : (Ctl ((List (List UInt8)) × (List (List UInt8)) × Int × Unit) ((Bool × Unit) ⊕ (Unit))) => some (ctlVal zf9 r)
  simp only [laws_texts9_l0, kb_ite, kb_some, kb_none, kb_bind, kb_alt]
  kernel_rfl
theorem zrd : RoundsOK (mkCtx Go.K.Link.seat zes zc6) (sums zdf) (loopsOf 0 zf8) zdf := ⟨⟨rfl, rfl, zpi⟩, trivial⟩
theorem zs2 : ∀ v, (evFn (mkCtx Go.K.Link.seat zes zc6) (sums zdf) 74 Go.Proofs.Tryz.f74 (encL z85.a v)).run = (z85.gen v).bind fun y => some (z85.out y) := by
  rintro ⟨a, ⟨b, _⟩⟩
  show _ = (laws_texts9 a b).bind fun y : Bool => some (z85.out y)
  simp only [laws_texts9, kb_ite, kb_some, kb_none, kb_bind, kb_alt]
  kernel_rfl
theorem zre : FnIs Go.Proofs.Tryz.prog 74 (modeOf []) (phi [z85]) := spec_is (c := zes) seatOK zs1 Go.Proofs.Tryz.func74 rfl (code := zf8) rfl rfl zrd zs2
noncomputable def z8y : LSum := ⟨0, ⟨[(14, .val (.ptr (.pair (.str) (.pair (.str) (.unit)))) (.own .fr)), (0, .val (.bool) .fr), (3, .val (.int .i64) .fr), (0, .val (.sl 9 (.str)) (.own .fr)), (0, .val (.int .i64) .fr), (2, .val (.bool) .fr), (0, .val (.int .i64) .fr)], 201⟩, (.ret, ⟨[(2, .val (.bool) .fr)], 224⟩), [(.exit 0, ⟨[(15, .val (.bool) .fr), (3, .val (.int .i64) .fr), (0, .val (.sl 9 (.str)) (.own .fr)), (0, .val (.int .i64) .fr), (2, .val (.bool) .fr)], 202⟩)], laws_FnAdmissible_l0⟩
noncomputable def zdk : Code := (Go.Proofs.Tryz.f75.body).getD .skip
def zau : Cfg := ⟨75, [], [], [], [], []⟩
noncomputable def zho : Code := (Go.Proofs.Tryz.f162.body).getD .skip
def zg6 : Cfg := ⟨162, [], [], [], [], []⟩
noncomputable def z5r : Spec := ⟨[.v (.int .i64) .fr], Bool, fun v => impl_isPeriod v.1, fun r => ([.v (.bool) .fr r], [])⟩
noncomputable def zfa : List LSum := []
noncomputable def ze1 : List Row := [⟨106, [], [z3p]⟩]
theorem zqf : ∀ r, r ∈ ze1 → RowIs Go.Proofs.Tryz.prog r := tab_cons (zdb) (tab_nil)
theorem zpj : RoundsOK (mkCtx Go.K.Link.seat zg6 ze1) (sums zfa) (loopsOf 0 zho) zfa := trivial
theorem zqg : ∀ v, (evFn (mkCtx Go.K.Link.seat zg6 ze1) (sums zfa) 162 Go.Proofs.Tryz.f162 (encL z5r.a v)).run = (z5r.gen v).bind fun y => some (z5r.out y) := by
  rintro ⟨n, _⟩
  show _ = (impl_isPeriod n).bind fun y : Bool => some (z5r.out y)
  simp only [impl_isPeriod, kb_ite, kb_some, kb_none, kb_bind, kb_alt]
  kernel_rfl
theorem zpk : FnIs Go.Proofs.Tryz.prog 162 (modeOf []) (phi [z5r]) := spec_is (c := zg6) seatOK zqf Go.Proofs.Tryz.func162 rfl (code := zho) rfl rfl zpj zqg
noncomputable def zie : Code := (Go.Proofs.Tryz.f163.body).getD .skip
def zh9 : Cfg := ⟨163, [], [], [], [], []⟩
noncomputable def z79 : Code := (Go.Proofs.Tryz.f263.body).getD .skip
def z5s : Cfg := ⟨263, [], [[0, 3, 4, 10, 11, 24], [3, 24], [2, 3, 24, 26]], [], [], []⟩
noncomputable def zjt : Code := (Go.Proofs.Tryz.f85.body).getD .skip
def zj5 : Cfg := ⟨85, [], [], [], [], []⟩
noncomputable def ze2 : Code := (Go.Proofs.Tryz.f174.body).getD .skip
def zdg : Cfg := ⟨174, [], [[0, 1], [0], [4]], [], [], []⟩
noncomputable def ze3 : LSum := ⟨0, ⟨[(0, .val (.int .i64) .fr), (0, .val (.int .i64) .fr)], 10⟩, (.exit 0, ⟨[(0, .val (.int .i64) .fr)], 11⟩), [], impl_divisor_l0⟩
noncomputable def z54 : Spec := ⟨[.v (.int .i64) .fr, .v (.int .i64) .fr], Int, fun v => impl_divisor v.1 v.2.1, fun r => ([.v (.int .i64) .fr r], [])⟩
noncomputable def zc7 : List LSum := [ze3]
noncomputable def zav : List Row := []
theorem zrf : ∀ r, r ∈ zav → RowIs Go.Proofs.Tryz.prog r := tab_nil
theorem zoi : RoundIs (mkCtx Go.K.Link.seat zdg zav) (sums zc7) 0 (bodyAt (loopsOf 0 ze2) 0) ze3 := by
  rintro ⟨a, ⟨b, _⟩⟩
  show _ = (impl_divisor_l0 (a, (b, ()))).bind fun r : (Ctl (Int × Int × Unit) ((Int × Unit))) => some (ctlVal ze3 r)
  simp only [impl_divisor_l0, kb_ite, kb_some, kb_none, kb_bind, kb_alt]
  kernel_rfl
theorem zqh : RoundsOK (mkCtx Go.K.Link.seat zdg zav) (sums zc7) (loopsOf 0 ze2) zc7 := ⟨⟨rfl, rfl, zoi⟩, trivial⟩
theorem zrg : ∀ v, (evFn (mkCtx Go.K.Link.seat zdg zav) (sums zc7) 174 Go.Proofs.Tryz.f174 (encL z54.a v)).run = (z54.gen v).bind fun y => some (z54.out y) := by
  rintro ⟨a, ⟨b, _⟩⟩
  show _ = (impl_divisor a b).bind fun y : Int => some (z54.out y)
  simp only [impl_divisor, kb_ite, kb_some, kb_none, kb_bind, kb_alt]
  kernel_rfl
theorem zju : FnIs Go.Proofs.Tryz.prog 174 (modeOf []) (phi [z54]) := spec_is (c := zdg) seatOK zrf Go.Proofs.Tryz.func174 rfl (code := ze2) rfl rfl zqh zrg
noncomputable def z5f : Spec := ⟨[.v (.int .i64) .fr, .v (.int .i64) .fr], (Int × (Int × Unit)), fun v => impl_angle v.1 v.2.1, fun r => ([.v (.pair (.int .i64) (.pair (.int .i64) (.unit))) .fr r], [])⟩
noncomputable def zi5 : List LSum := []
noncomputable def zha : List Row := [⟨174, [], [z54]⟩]
theorem zse : ∀ r, r ∈ zha → RowIs Go.Proofs.Tryz.prog r := tab_cons (zju) (tab_nil)
theorem zs3 : RoundsOK (mkCtx Go.K.Link.seat zj5 zha) (sums zi5) (loopsOf 0 zjt) zi5 := trivial
theorem zsf : ∀ v, (evFn (mkCtx Go.K.Link.seat zj5 zha) (sums zi5) 85 Go.Proofs.Tryz.f85 (encL z5f.a v)).run = (z5f.gen v).bind fun y => some (z5f.out y) := by
  rintro ⟨num, ⟨den, _⟩⟩
  show _ = (impl_angle num den).bind fun y : (Int × (Int × Unit)) => some (z5f.out y)
  simp only [impl_angle, kb_ite, kb_some, kb_none, kb_bind, kb_alt]
  kernel_rfl
theorem zi6 : FnIs Go.Proofs.Tryz.prog 85 (modeOf []) (phi [z5f]) := spec_is (c := zj5) seatOK zse Go.Proofs.Tryz.func85 rfl (code := zjt) rfl rfl zs3 zsf
noncomputable def zcx : Code := (Go.Proofs.Tryz.f233.body).getD .skip
def zc8 : Cfg := ⟨233, [], [[1, 3, 4], [], [2]], [], [], []⟩
noncomputable def zek : Code := (Go.Proofs.Tryz.f87.body).getD .skip
def zbg : Cfg := ⟨87, [], [], [], [], []⟩
noncomputable def z2o : Spec := ⟨[.v (.pair (.int .i64) (.pair (.int .i64) (.unit))) .fr], (Int × (Int × Unit)), fun v => impl_Angle_double v.1, fun r => ([.v (.pair (.int .i64) (.pair (.int .i64) (.unit))) .fr r], [])⟩
noncomputable def zaw : List LSum := []
noncomputable def z9w : List Row := [⟨85, [], [z5f]⟩]
theorem zml : ∀ r, r ∈ z9w → RowIs Go.Proofs.Tryz.prog r := tab_cons (zi6) (tab_nil)
theorem zlo : RoundsOK (mkCtx Go.K.Link.seat zbg z9w) (sums zaw) (loopsOf 0 zek) zaw := trivial
theorem zmm : ∀ v, (evFn (mkCtx Go.K.Link.seat zbg z9w) (sums zaw) 87 Go.Proofs.Tryz.f87 (encL z2o.a v)).run = (z2o.gen v).bind fun y => some (z2o.out y) := by
  rintro ⟨a, _⟩
  show _ = (impl_Angle_double a).bind fun y : (Int × (Int × Unit)) => some (z2o.out y)
  simp only [impl_Angle_double, kb_ite, kb_some, kb_none, kb_bind, kb_alt]
  kernel_rfl
theorem zg7 : FnIs Go.Proofs.Tryz.prog 87 (modeOf []) (phi [z2o]) := spec_is (c := zbg) seatOK zml Go.Proofs.Tryz.func87 rfl (code := zek) rfl rfl zlo zmm
noncomputable def zcy : LSum := ⟨0, ⟨[(1, .val (.ptr (.pair (.int .i64) (.pair (.int .i64) (.unit)))) (.own .fr)), (1, .val (.ptr (.pair (.int .i64) (.pair (.int .i64) (.unit)))) (.own .fr)), (0, .val (.int .i64) .fr)], 11⟩, (.ret, ⟨[(2, .val (.int .i64) .fr)], 13⟩), [(.exit 0, ⟨[], 16⟩)], impl_periodOf_l0⟩
noncomputable def z4e : Spec := ⟨[.v (.pair (.int .i64) (.pair (.int .i64) (.unit))) .fr], Int, fun v => impl_periodOf v.1, fun r => ([.v (.int .i64) .fr r], [])⟩
noncomputable def zax : List LSum := [zcy]
noncomputable def z9k : List Row := [⟨87, [], [z2o]⟩]
theorem zqi : ∀ r, r ∈ z9k → RowIs Go.Proofs.Tryz.prog r := tab_cons (zg7) (tab_nil)
theorem znj : RoundIs (mkCtx Go.K.Link.seat zc8 z9k) (sums zax) 0 (bodyAt (loopsOf 0 zcx) 0) zcy := by
  rintro ⟨a, ⟨x, ⟨n, _⟩⟩⟩
  show _ = (impl_periodOf_l0 (a, (x, (n, ())))).bind fun r : (Ctl (((Int × (Int × Unit))) × ((Int × (Int × Unit))) × Int × Unit) ((Int × Unit) ⊕ (Unit))) => some (ctlVal zcy r)
  simp only [impl_periodOf_l0, kb_ite, kb_some, kb_none, kb_bind, kb_alt]
  kernel_rfl
theorem zpl : RoundsOK (mkCtx Go.K.Link.seat zc8 z9k) (sums zax) (loopsOf 0 zcx) zax := ⟨⟨rfl, rfl, znj⟩, trivial⟩
theorem zqj : ∀ v, (evFn (mkCtx Go.K.Link.seat zc8 z9k) (sums zax) 233 Go.Proofs.Tryz.f233 (encL z4e.a v)).run = (z4e.gen v).bind fun y => some (z4e.out y) := by
  rintro ⟨a, _⟩
  show _ = (impl_periodOf a).bind fun y : Int => some (z4e.out y)
  simp only [impl_periodOf, kb_ite, kb_some, kb_none, kb_bind, kb_alt]
  kernel_rfl
theorem zj6 : FnIs Go.Proofs.Tryz.prog 233 (modeOf []) (phi [z4e]) := spec_is (c := zc8) seatOK zqi Go.Proofs.Tryz.func233 rfl (code := zcx) rfl rfl zpl zqj
noncomputable def z7a : LSum := ⟨0, ⟨[(0, .val (.int .i64) .fr), (2, .val (.sl 25 (.pair (.int .i64) (.pair (.int .i64) (.unit)))) (.own .fr)), (0, .val (.int .i64) .fr), (5, .val (.int .i64) .fr), (0, .val (.int .i64) .fr)], 15⟩, (.exit 0, ⟨[(3, .val (.sl 25 (.pair (.int .i64) (.pair (.int .i64) (.unit)))) (.own .fr))], 23⟩), [], impl_anglesOfPeriod_l0⟩
noncomputable def z2w : Spec := ⟨[.v (.int .i64) .fr], (List (Int × (Int × Unit))), fun v => impl_anglesOfPeriod v.1, fun r => ([.v (.sl 25 (.pair (.int .i64) (.pair (.int .i64) (.unit)))) (.own .fr) r], [])⟩
noncomputable def z5b : List LSum := [z7a]
noncomputable def z4u : List Row := [⟨85, [], [z5f]⟩, ⟨233, [], [z4e]⟩]
theorem zl1 : ∀ r, r ∈ z4u → RowIs Go.Proofs.Tryz.prog r := tab_cons (zi6) (tab_cons (zj6) (tab_nil))
theorem zj7 : RoundIs (mkCtx Go.K.Link.seat z5s z4u) (sums z5b) 0 (bodyAt (loopsOf 0 z79) 0) z7a := by
  rintro ⟨n, ⟨out, ⟨den, ⟨t10, ⟨t11, _⟩⟩⟩⟩⟩
  show _ = (impl_anglesOfPeriod_l0 (n, (out, (den, (t10, (t11, ())))))).bind fun r : (Ctl (Int × (List (Int × (Int × Unit))) × Int × Int × Int × Unit) (((List (Int × (Int × Unit))) × Unit))) => some (ctlVal z7a r)
  simp only [impl_anglesOfPeriod_l0, kb_ite, kb_some, kb_none, kb_bind, kb_alt]
  kernel_rfl
theorem zkg : RoundsOK (mkCtx Go.K.Link.seat z5s z4u) (sums z5b) (loopsOf 0 z79) z5b := ⟨⟨rfl, rfl, zj7⟩, trivial⟩
theorem zl2 : ∀ v, (evFn (mkCtx Go.K.Link.seat z5s z4u) (sums z5b) 263 Go.Proofs.Tryz.f263 (encL z2w.a v)).run = (z2w.gen v).bind fun y => some (z2w.out y) := by
  rintro ⟨n, _⟩
  show _ = (impl_anglesOfPeriod n).bind fun y : (List (Int × (Int × Unit))) => some (z2w.out y)
  simp only [impl_anglesOfPeriod, kb_ite, kb_some, kb_none, kb_bind, kb_alt]
  kernel_rfl
theorem zkh : FnIs Go.Proofs.Tryz.prog 263 (modeOf []) (phi [z2w]) := spec_is (c := z5s) seatOK zl1 Go.Proofs.Tryz.func263 rfl (code := z79) rfl rfl zkg zl2
noncomputable def z1l : Code := (Go.Proofs.Tryz.f264.body).getD .skip
def zv : Cfg := ⟨264, [], [[0, 1, 7, 8], [], [4]], [], [], []⟩
noncomputable def zel : Code := (Go.Proofs.Tryz.f265.body).getD .skip
def zbh : Cfg := ⟨265, [], [], [], [], []⟩
noncomputable def z9c : Code := (Go.Proofs.Tryz.f266.body).getD .skip
def z5z : Cfg := ⟨266, [], [], [], [], []⟩
noncomputable def z2k : Code := (Go.Proofs.Tryz.f291.body).getD .skip
def z1f : Cfg := ⟨291, [], [], [], [], []⟩
noncomputable def z1g : Code := (Go.Proofs.Tryz.f262.body).getD .skip
def zr : Cfg := ⟨262, [], [[0, 1, 7, 8], [], [4]], [], [], []⟩
noncomputable def z7b : Code := (Go.Proofs.Tryz.f292.body).getD .skip
def z4q : Cfg := ⟨292, [], [], [], [], []⟩
noncomputable def zc9 : Code := (Go.Proofs.Tryz.f267.body).getD .skip
def z8z : Cfg := ⟨267, [], [], [], [], []⟩
noncomputable def zem : Code := (Go.Proofs.Tryz.f268.body).getD .skip
def zbi : Cfg := ⟨268, [], [], [], [], []⟩
noncomputable def z3h : Spec := ⟨[.v (.pair (.pair (.int .i64) (.pair (.int .i64) (.unit))) (.pair (.pair (.int .i64) (.pair (.int .i64) (.unit))) (.unit))) .fr], ((Int × (Int × Unit)) × ((Int × (Int × Unit)) × Unit)), fun v => impl_RayPair_leaf v.1, fun r => ([.v (.pair (.pair (.int .i64) (.pair (.int .i64) (.unit))) (.pair (.pair (.int .i64) (.pair (.int .i64) (.unit))) (.unit))) .fr r], [])⟩
noncomputable def zay : List LSum := []
noncomputable def z9x : List Row := []
theorem zmn : ∀ r, r ∈ z9x → RowIs Go.Proofs.Tryz.prog r := tab_nil
theorem zlp : RoundsOK (mkCtx Go.K.Link.seat zbi z9x) (sums zay) (loopsOf 0 zem) zay := trivial
theorem zmo : ∀ v, (evFn (mkCtx Go.K.Link.seat zbi z9x) (sums zay) 268 Go.Proofs.Tryz.f268 (encL z3h.a v)).run = (z3h.gen v).bind fun y => some (z3h.out y) := by
  rintro ⟨p, _⟩
  show _ = (impl_RayPair_leaf p).bind fun y : ((Int × (Int × Unit)) × ((Int × (Int × Unit)) × Unit)) => some (z3h.out y)
  simp only [impl_RayPair_leaf, kb_ite, kb_some, kb_none, kb_bind, kb_alt]
  kernel_rfl
theorem zlq : FnIs Go.Proofs.Tryz.prog 268 (modeOf []) (phi [z3h]) := spec_is (c := zbi) seatOK zmn Go.Proofs.Tryz.func268 rfl (code := zem) rfl rfl zlp zmo
noncomputable def zg8 : Code := (Go.Proofs.Tryz.f142.body).getD .skip
def ze4 : Cfg := ⟨142, [], [], [], [], []⟩
noncomputable def zjv : Code := (Go.Proofs.Tryz.f210.body).getD .skip
def zj8 : Cfg := ⟨210, [], [], [], [], []⟩
noncomputable def zfi : Code := (Go.Proofs.Tryz.f211.body).getD .skip
def zcz : Cfg := ⟨211, [], [], [], [], []⟩
noncomputable def z3y : Spec := ⟨[.v (.pair (.int .i64) (.pair (.int .i64) (.unit))) .fr, .v (.pair (.int .i64) (.pair (.int .i64) (.unit))) .fr], (Int × (Int × Unit)), fun v => impl_Angle_minus v.1 v.2.1, fun r => ([.v (.pair (.int .i64) (.pair (.int .i64) (.unit))) .fr r], [])⟩
noncomputable def zbj : List LSum := []
noncomputable def zaz : List Row := [⟨85, [], [z5f]⟩]
theorem znk : ∀ r, r ∈ zaz → RowIs Go.Proofs.Tryz.prog r := tab_cons (zi6) (tab_nil)
theorem zmp : RoundsOK (mkCtx Go.K.Link.seat zcz zaz) (sums zbj) (loopsOf 0 zfi) zbj := trivial
theorem znl : ∀ v, (evFn (mkCtx Go.K.Link.seat zcz zaz) (sums zbj) 211 Go.Proofs.Tryz.f211 (encL z3y.a v)).run = (z3y.gen v).bind fun y => some (z3y.out y) := by
  rintro ⟨a, ⟨b, _⟩⟩
  show _ = (impl_Angle_minus a b).bind fun y : (Int × (Int × Unit)) => some (z3y.out y)
  simp only [impl_Angle_minus, kb_ite, kb_some, kb_none, kb_bind, kb_alt]
  kernel_rfl
theorem zmq : FnIs Go.Proofs.Tryz.prog 211 (modeOf []) (phi [z3y]) := spec_is (c := zcz) seatOK znk Go.Proofs.Tryz.func211 rfl (code := zfi) rfl rfl zmp znl
noncomputable def zdl : Code := (Go.Proofs.Tryz.f129.body).getD .skip
def zb0 : Cfg := ⟨129, [], [], [], [], []⟩
noncomputable def zen : Code := (Go.Proofs.Tryz.f198.body).getD .skip
def zbk : Cfg := ⟨198, [], [], [], [], []⟩
noncomputable def zg9 : Code := (Go.Proofs.Tryz.f250.body).getD .skip
def ze5 : Cfg := ⟨250, [], [], [], [], []⟩
noncomputable def z4j : Spec := ⟨[.v (.int .i64) .fr], Bool, fun v => cmp_isNaN_int64 v.1, fun r => ([.v (.bool) .fr r], [])⟩
noncomputable def zd0 : List LSum := []
noncomputable def zbl : List Row := []
theorem zoj : ∀ r, r ∈ zbl → RowIs Go.Proofs.Tryz.prog r := tab_nil
theorem znm : RoundsOK (mkCtx Go.K.Link.seat ze5 zbl) (sums zd0) (loopsOf 0 zg9) zd0 := trivial
theorem zok : ∀ v, (evFn (mkCtx Go.K.Link.seat ze5 zbl) (sums zd0) 250 Go.Proofs.Tryz.f250 (encL z4j.a v)).run = (z4j.gen v).bind fun y => some (z4j.out y) := by
  rintro ⟨x, _⟩
  show _ = (cmp_isNaN_int64 x).bind fun y : Bool => some (z4j.out y)
  simp only [cmp_isNaN_int64, kb_ite, kb_some, kb_none, kb_bind, kb_alt]
  kernel_rfl
theorem znn : FnIs Go.Proofs.Tryz.prog 250 (modeOf []) (phi [z4j]) := spec_is (c := ze5) seatOK zoj Go.Proofs.Tryz.func250 rfl (code := zg9) rfl rfl znm zok
noncomputable def z3i : Spec := ⟨[.v (.int .i64) .fr, .v (.int .i64) .fr], Int, fun v => cmp_Compare_int64 v.1 v.2.1, fun r => ([.v (.int .i64) .fr r], [])⟩
noncomputable def zb1 : List LSum := []
noncomputable def z9y : List Row := [⟨250, [], [z4j]⟩]
theorem zmr : ∀ r, r ∈ z9y → RowIs Go.Proofs.Tryz.prog r := tab_cons (znn) (tab_nil)
theorem zlr : RoundsOK (mkCtx Go.K.Link.seat zbk z9y) (sums zb1) (loopsOf 0 zen) zb1 := trivial
theorem zms : ∀ v, (evFn (mkCtx Go.K.Link.seat zbk z9y) (sums zb1) 198 Go.Proofs.Tryz.f198 (encL z3i.a v)).run = (z3i.gen v).bind fun y => some (z3i.out y) := by
  rintro ⟨x, ⟨y, _⟩⟩
  show _ = (cmp_Compare_int64 x y).bind fun y : Int => some (z3i.out y)
  simp only [cmp_Compare_int64, kb_ite, kb_some, kb_none, kb_bind, kb_alt]
  kernel_rfl
theorem zls : FnIs Go.Proofs.Tryz.prog 198 (modeOf []) (phi [z3i]) := spec_is (c := zbk) seatOK zmr Go.Proofs.Tryz.func198 rfl (code := zen) rfl rfl zlr zms
noncomputable def z28 : Spec := ⟨[.v (.pair (.int .i64) (.pair (.int .i64) (.unit))) .fr, .v (.pair (.int .i64) (.pair (.int .i64) (.unit))) .fr], Int, fun v => impl_Angle_compare v.1 v.2.1, fun r => ([.v (.int .i64) .fr r], [])⟩
noncomputable def z9z : List LSum := []
noncomputable def z90 : List Row := [⟨198, [], [z3i]⟩]
theorem zlt : ∀ r, r ∈ z90 → RowIs Go.Proofs.Tryz.prog r := tab_cons (zls) (tab_nil)
theorem zl3 : RoundsOK (mkCtx Go.K.Link.seat zb0 z90) (sums z9z) (loopsOf 0 zdl) z9z := trivial
theorem zlu : ∀ v, (evFn (mkCtx Go.K.Link.seat zb0 z90) (sums z9z) 129 Go.Proofs.Tryz.f129 (encL z28.a v)).run = (z28.gen v).bind fun y => some (z28.out y) := by
  rintro ⟨a, ⟨b, _⟩⟩
  show _ = (impl_Angle_compare a b).bind fun y : Int => some (z28.out y)
  simp only [impl_Angle_compare, kb_ite, kb_some, kb_none, kb_bind, kb_alt]
  kernel_rfl
theorem zfj : FnIs Go.Proofs.Tryz.prog 129 (modeOf []) (phi [z28]) := spec_is (c := zb0) seatOK zlt Go.Proofs.Tryz.func129 rfl (code := zdl) rfl rfl zl3 zlu
noncomputable def za0 : Spec := ⟨[.v (.pair (.int .i64) (.pair (.int .i64) (.unit))) .fr, .v (.pair (.int .i64) (.pair (.int .i64) (.unit))) .fr, .v (.pair (.int .i64) (.pair (.int .i64) (.unit))) .fr], Int, fun v => impl_order v.1 v.2.1 v.2.2.1, fun r => ([.v (.int .i64) .fr r], [])⟩
noncomputable def zi7 : List LSum := []
noncomputable def zhb : List Row := [⟨129, [], [z28]⟩, ⟨211, [], [z3y]⟩]
theorem zsg : ∀ r, r ∈ zhb → RowIs Go.Proofs.Tryz.prog r := tab_cons (zfj) (tab_cons (zmq) (tab_nil))
theorem zs4 : RoundsOK (mkCtx Go.K.Link.seat zj8 zhb) (sums zi7) (loopsOf 0 zjv) zi7 := trivial
theorem zsh : ∀ v, (evFn (mkCtx Go.K.Link.seat zj8 zhb) (sums zi7) 210 Go.Proofs.Tryz.f210 (encL za0.a v)).run = (za0.gen v).bind fun y => some (za0.out y) := by
  rintro ⟨a, ⟨b, ⟨c, _⟩⟩⟩
  show _ = (impl_order a b c).bind fun y : Int => some (za0.out y)
  simp only [impl_order, kb_ite, kb_some, kb_none, kb_bind, kb_alt]
  kernel_rfl
theorem zs5 : FnIs Go.Proofs.Tryz.prog 210 (modeOf []) (phi [za0]) := spec_is (c := zj8) seatOK zsg Go.Proofs.Tryz.func210 rfl (code := zjv) rfl rfl zs4 zsh
noncomputable def z4k : Spec := ⟨[.v (.pair (.pair (.int .i64) (.pair (.int .i64) (.unit))) (.pair (.pair (.int .i64) (.pair (.int .i64) (.unit))) (.unit))) .fr, .v (.pair (.pair (.int .i64) (.pair (.int .i64) (.unit))) (.pair (.pair (.int .i64) (.pair (.int .i64) (.unit))) (.unit))) .fr], Bool, fun v => impl_Leaf_cross v.1 v.2.1, fun r => ([.v (.bool) .fr r], [])⟩
noncomputable def zd1 : List LSum := []
noncomputable def zbm : List Row := [⟨210, [], [za0]⟩]
theorem zol : ∀ r, r ∈ zbm → RowIs Go.Proofs.Tryz.prog r := tab_cons (zs5) (tab_nil)
theorem zno : RoundsOK (mkCtx Go.K.Link.seat ze4 zbm) (sums zd1) (loopsOf 0 zg8) zd1 := trivial
theorem zom : ∀ v, (evFn (mkCtx Go.K.Link.seat ze4 zbm) (sums zd1) 142 Go.Proofs.Tryz.f142 (encL z4k.a v)).run = (z4k.gen v).bind fun y => some (z4k.out y) := by
  rintro ⟨l, ⟨m, _⟩⟩
  show _ = (impl_Leaf_cross l m).bind fun y : Bool => some (z4k.out y)
  simp only [impl_Leaf_cross, kb_ite, kb_some, kb_none, kb_bind, kb_alt]
  kernel_rfl
theorem znp : FnIs Go.Proofs.Tryz.prog 142 (modeOf []) (phi [z4k]) := spec_is (c := ze4) seatOK zol Go.Proofs.Tryz.func142 rfl (code := zg8) rfl rfl zno zom
noncomputable def z2i : Spec := ⟨[.v (.pair (.pair (.int .i64) (.pair (.int .i64) (.unit))) (.pair (.pair (.int .i64) (.pair (.int .i64) (.unit))) (.unit))) .fr, .v (.ptr (.pair (.pair (.int .i64) (.pair (.int .i64) (.unit))) (.pair (.pair (.int .i64) (.pair (.int .i64) (.unit))) (.unit)))) .fr], Bool, fun v => impl_pairsUpTo_f1_f1 v.1 v.2.1, fun r => ([.v (.bool) .fr r], [])⟩
noncomputable def z7z : List LSum := []
noncomputable def z7c : List Row := [⟨268, [], [z3h]⟩, ⟨142, [], [z4k]⟩]
theorem zki : ∀ r, r ∈ z7c → RowIs Go.Proofs.Tryz.prog r := tab_cons (zlq) (tab_cons (znp) (tab_nil))
theorem zjl : RoundsOK (mkCtx Go.K.Link.seat z8z z7c) (sums z7z) (loopsOf 0 zc9) z7z := trivial
theorem zkj : ∀ v, (evFn (mkCtx Go.K.Link.seat z8z z7c) (sums z7z) 267 Go.Proofs.Tryz.f267 (encL z2i.a v)).run = (z2i.gen v).bind fun y => some (z2i.out y) := by
  rintro ⟨p, ⟨t1, _⟩⟩
  show _ = (impl_pairsUpTo_f1_f1 p t1).bind fun y : Bool => some (z2i.out y)
  simp only [impl_pairsUpTo_f1_f1, kb_ite, kb_some, kb_none, kb_bind, kb_alt]
  kernel_rfl
theorem zjm : FnIs Go.Proofs.Tryz.prog 267 (modeOf []) (phi [z2i]) := spec_is (c := z8z) seatOK zki Go.Proofs.Tryz.func267 rfl (code := zc9) rfl rfl zjl zkj
noncomputable def z15 : Spec := ⟨[.v (.pair (.pair (.int .i64) (.pair (.int .i64) (.unit))) (.pair (.pair (.int .i64) (.pair (.int .i64) (.unit))) (.unit))) .fr, .pfn 267 [] [.v (.ptr (.pair (.pair (.int .i64) (.pair (.int .i64) (.unit))) (.pair (.pair (.int .i64) (.pair (.int .i64) (.unit))) (.unit)))) .fr]], Bool, fun v => impl_areAll_impl_RayPair_f1 v.1 v.2.1.2.1, fun r => ([.v (.bool) .fr r], [])⟩
noncomputable def z4f : List LSum := []
noncomputable def z47 : List Row := [⟨267, [], [z2i]⟩]
theorem zgn : ∀ r, r ∈ z47 → RowIs Go.Proofs.Tryz.prog r := tab_cons (zjm) (tab_nil)
theorem zga : RoundsOK (mkCtx Go.K.Link.seat z4q z47) (sums z4f) (loopsOf 0 z7b) z4f := trivial
theorem zgo : ∀ v, (evFn (mkCtx Go.K.Link.seat z4q z47) (sums z4f) 292 Go.Proofs.Tryz.f292 (encL z15.a v)).run = (z15.gen v).bind fun y => some (z15.out y) := by
  rintro ⟨x, ⟨⟨_, ⟨t1_0, _⟩⟩, _⟩⟩
  show _ = (impl_areAll_impl_RayPair_f1 x t1_0).bind fun y : Bool => some (z15.out y)
  simp only [impl_areAll_impl_RayPair_f1, kb_ite, kb_some, kb_none, kb_bind, kb_alt]
  kernel_rfl
theorem zgb : FnIs Go.Proofs.Tryz.prog 292 (modeOf []) (phi [z15]) := spec_is (c := z4q) seatOK zgn Go.Proofs.Tryz.func292 rfl (code := z7b) rfl rfl zga zgo
noncomputable def z1h : LSum := ⟨0, ⟨[(0, .val (.sl 88 (.pair (.pair (.int .i64) (.pair (.int .i64) (.unit))) (.pair (.pair (.int .i64) (.pair (.int .i64) (.unit))) (.unit)))) .fr), (0, .fnl 292 [] [.arg (.pfn 267 [] [.v (.ptr (.pair (.pair (.int .i64) (.pair (.int .i64) (.unit))) (.pair (.pair (.int .i64) (.pair (.int .i64) (.unit))) (.unit)))) .fr])]), (5, .val (.int .i64) .fr), (0, .val (.int .i64) .fr)], 10⟩, (.ret, ⟨[(4, .val (.int .i64) .fr)], 14⟩), [(.exit 0, ⟨[], 19⟩)], slices_IndexFunc__impl_RayPair_impl_RayPair_l0⟩
noncomputable def za : Spec := ⟨[.v (.sl 88 (.pair (.pair (.int .i64) (.pair (.int .i64) (.unit))) (.pair (.pair (.int .i64) (.pair (.int .i64) (.unit))) (.unit)))) .fr, .fn 292 [] [.pfn 267 [] [.v (.ptr (.pair (.pair (.int .i64) (.pair (.int .i64) (.unit))) (.pair (.pair (.int .i64) (.pair (.int .i64) (.unit))) (.unit)))) .fr]]], Int, fun v => slices_IndexFunc__impl_RayPair_impl_RayPair v.1 v.2.1.2.1.2.1, fun r => ([.v (.int .i64) .fr r], [])⟩
noncomputable def zo : List LSum := [z1h]
noncomputable def zm : List Row := [⟨292, [], [z15]⟩]
theorem z8c : ∀ r, r ∈ zm → RowIs Go.Proofs.Tryz.prog r := tab_cons (zgb) (tab_nil)
theorem z7d : RoundIs (mkCtx Go.K.Link.seat zr zm) (sums zo) 0 (bodyAt (loopsOf 0 z1g) 0) z1h := by
  rintro ⟨s, ⟨_, ⟨⟨_, ⟨f, _⟩⟩, _⟩, ⟨t7, ⟨t8, _⟩⟩⟩⟩
  show _ = (slices_IndexFunc__impl_RayPair_impl_RayPair_l0 (s, ((), (((), (f, ())), ()), (t7, (t8, ()))))).bind fun r : (Ctl ((List ((Int × (Int × Unit)) × ((Int × (Int × Unit)) × Unit))) × Unit × ((Unit × (((Int × (Int × Unit)) × ((Int × (Int × Unit)) × Unit)) × Unit)) × Unit) × Int × Int × Unit) ((Int × Unit) ⊕ (Unit))) => some (ctlVal z1h r)
  simp only [slices_IndexFunc__impl_RayPair_impl_RayPair_l0, kb_ite, kb_some, kb_none, kb_bind, kb_alt]
  kernel_rfl
theorem z80 : RoundsOK (mkCtx Go.K.Link.seat zr zm) (sums zo) (loopsOf 0 z1g) zo := ⟨⟨rfl, rfl, z7d⟩, trivial⟩
theorem z8d : ∀ v, (evFn (mkCtx Go.K.Link.seat zr zm) (sums zo) 262 Go.Proofs.Tryz.f262 (encL za.a v)).run = (za.gen v).bind fun y => some (za.out y) := by
  rintro ⟨s, ⟨⟨_, ⟨⟨_, ⟨f_0_1, _⟩⟩, _⟩⟩, _⟩⟩
  show _ = (slices_IndexFunc__impl_RayPair_impl_RayPair s f_0_1).bind fun y : Int => some (za.out y)
  simp only [slices_IndexFunc__impl_RayPair_impl_RayPair, kb_ite, kb_some, kb_none, kb_bind, kb_alt]
  kernel_rfl
theorem z81 : FnIs Go.Proofs.Tryz.prog 262 (modeOf []) (phi [za]) := spec_is (c := zr) seatOK z8c Go.Proofs.Tryz.func262 rfl (code := z1g) rfl rfl z80 z8d
noncomputable def z2 : Spec := ⟨[.v (.sl 88 (.pair (.pair (.int .i64) (.pair (.int .i64) (.unit))) (.pair (.pair (.int .i64) (.pair (.int .i64) (.unit))) (.unit)))) .fr, .fn 292 [] [.pfn 267 [] [.v (.ptr (.pair (.pair (.int .i64) (.pair (.int .i64) (.unit))) (.pair (.pair (.int .i64) (.pair (.int .i64) (.unit))) (.unit)))) .fr]]], Bool, fun v => slices_ContainsFunc__impl_RayPair_impl_RayPair v.1 v.2.1.2.1.2.1, fun r => ([.v (.bool) .fr r], [])⟩
noncomputable def z1b : List LSum := []
noncomputable def z19 : List Row := [⟨262, [], [za]⟩]
theorem z7e : ∀ r, r ∈ z19 → RowIs Go.Proofs.Tryz.prog r := tab_cons (z81) (tab_nil)
theorem z6m : RoundsOK (mkCtx Go.K.Link.seat z1f z19) (sums z1b) (loopsOf 0 z2k) z1b := trivial
theorem z7f : ∀ v, (evFn (mkCtx Go.K.Link.seat z1f z19) (sums z1b) 291 Go.Proofs.Tryz.f291 (encL z2.a v)).run = (z2.gen v).bind fun y => some (z2.out y) := by
  rintro ⟨s, ⟨⟨_, ⟨⟨_, ⟨f_0_1, _⟩⟩, _⟩⟩, _⟩⟩
  show _ = (slices_ContainsFunc__impl_RayPair_impl_RayPair s f_0_1).bind fun y : Bool => some (z2.out y)
  simp only [slices_ContainsFunc__impl_RayPair_impl_RayPair, kb_ite, kb_some, kb_none, kb_bind, kb_alt]
  kernel_rfl
theorem z6n : FnIs Go.Proofs.Tryz.prog 291 (modeOf []) (phi [z2]) := spec_is (c := z1f) seatOK z7e Go.Proofs.Tryz.func291 rfl (code := z2k) rfl rfl z6m z7f
noncomputable def z1r : Spec := ⟨[.v (.sl 88 (.pair (.pair (.int .i64) (.pair (.int .i64) (.unit))) (.pair (.pair (.int .i64) (.pair (.int .i64) (.unit))) (.unit)))) .fr, .fn 267 [] [.v (.ptr (.pair (.pair (.int .i64) (.pair (.int .i64) (.unit))) (.pair (.pair (.int .i64) (.pair (.int .i64) (.unit))) (.unit)))) .fr]], Bool, fun v => impl_areAll_impl_RayPair v.1 v.2.1.2.1, fun r => ([.v (.bool) .fr r], [])⟩
noncomputable def z5g : List LSum := []
noncomputable def z56 : List Row := [⟨291, [], [z2]⟩]
theorem zi8 : ∀ r, r ∈ z56 → RowIs Go.Proofs.Tryz.prog r := tab_cons (z6n) (tab_nil)
theorem zhp : RoundsOK (mkCtx Go.K.Link.seat z5z z56) (sums z5g) (loopsOf 0 z9c) z5g := trivial
theorem zi9 : ∀ v, (evFn (mkCtx Go.K.Link.seat z5z z56) (sums z5g) 266 Go.Proofs.Tryz.f266 (encL z1r.a v)).run = (z1r.gen v).bind fun y => some (z1r.out y) := by
  rintro ⟨list, ⟨⟨_, ⟨is'_0, _⟩⟩, _⟩⟩
  show _ = (impl_areAll_impl_RayPair list is'_0).bind fun y : Bool => some (z1r.out y)
  simp only [impl_areAll_impl_RayPair, kb_ite, kb_some, kb_none, kb_bind, kb_alt]
  kernel_rfl
theorem zhq : FnIs Go.Proofs.Tryz.prog 266 (modeOf []) (phi [z1r]) := spec_is (c := z5z) seatOK zi8 Go.Proofs.Tryz.func266 rfl (code := z9c) rfl rfl zhp zi9
noncomputable def z3j : Spec := ⟨[.v (.pair (.int .i64) (.pair (.int .i64) (.unit))) .fr, .v (.ptr (.sl 25 (.pair (.int .i64) (.pair (.int .i64) (.unit))))) .fr, .v (.ptr (.sl 88 (.pair (.pair (.int .i64) (.pair (.int .i64) (.unit))) (.pair (.pair (.int .i64) (.pair (.int .i64) (.unit))) (.unit))))) .fr], Bool, fun v => impl_pairsUpTo_f1 v.1 v.2.1 v.2.2.1, fun r => ([.v (.bool) .fr r], [])⟩
noncomputable def zb2 : List LSum := []
noncomputable def za1 : List Row := [⟨266, [], [z1r]⟩]
theorem zmt : ∀ r, r ∈ za1 → RowIs Go.Proofs.Tryz.prog r := tab_cons (zhq) (tab_nil)
theorem zlv : RoundsOK (mkCtx Go.K.Link.seat zbh za1) (sums zb2) (loopsOf 0 zel) zb2 := trivial
theorem zmu : ∀ v, (evFn (mkCtx Go.K.Link.seat zbh za1) (sums zb2) 265 Go.Proofs.Tryz.f265 (encL z3j.a v)).run = (z3j.gen v).bind fun y => some (z3j.out y) := by
  rintro ⟨a, ⟨t1, ⟨t2, _⟩⟩⟩
  show _ = (impl_pairsUpTo_f1 a t1 t2).bind fun y : Bool => some (z3j.out y)
  simp only [impl_pairsUpTo_f1, kb_ite, kb_some, kb_none, kb_bind, kb_alt]
  kernel_rfl
theorem zlw : FnIs Go.Proofs.Tryz.prog 265 (modeOf []) (phi [z3j]) := spec_is (c := zbh) seatOK zmt Go.Proofs.Tryz.func265 rfl (code := zel) rfl rfl zlv zmu
noncomputable def z1m : LSum := ⟨0, ⟨[(0, .val (.sl 25 (.pair (.int .i64) (.pair (.int .i64) (.unit)))) .fr), (0, .fnl 265 [] [.arg (.v (.ptr (.sl 25 (.pair (.int .i64) (.pair (.int .i64) (.unit))))) .fr), .arg (.v (.ptr (.sl 88 (.pair (.pair (.int .i64) (.pair (.int .i64) (.unit))) (.pair (.pair (.int .i64) (.pair (.int .i64) (.unit))) (.unit))))) .fr)]), (5, .val (.int .i64) .fr), (0, .val (.int .i64) .fr)], 10⟩, (.ret, ⟨[(4, .val (.int .i64) .fr)], 14⟩), [(.exit 0, ⟨[], 19⟩)], slices_IndexFunc__impl_Angle_impl_Angle_v2_l0⟩
noncomputable def zb : Spec := ⟨[.v (.sl 25 (.pair (.int .i64) (.pair (.int .i64) (.unit)))) .fr, .fn 265 [] [.v (.ptr (.sl 25 (.pair (.int .i64) (.pair (.int .i64) (.unit))))) .fr, .v (.ptr (.sl 88 (.pair (.pair (.int .i64) (.pair (.int .i64) (.unit))) (.pair (.pair (.int .i64) (.pair (.int .i64) (.unit))) (.unit))))) .fr]], Int, fun v => slices_IndexFunc__impl_Angle_impl_Angle_v2 v.1 v.2.1.2.1 v.2.1.2.2.1, fun r => ([.v (.int .i64) .fr r], [])⟩
noncomputable def zs : List LSum := [z1m]
noncomputable def zp : List Row := [⟨265, [], [z3j]⟩]
theorem z91 : ∀ r, r ∈ zp → RowIs Go.Proofs.Tryz.prog r := tab_cons (zlw) (tab_nil)
theorem z7q : RoundIs (mkCtx Go.K.Link.seat zv zp) (sums zs) 0 (bodyAt (loopsOf 0 z1l) 0) z1m := by
  rintro ⟨s, ⟨_, ⟨f_0, ⟨f_1, _⟩⟩, ⟨t7, ⟨t8, _⟩⟩⟩⟩
  show _ = (slices_IndexFunc__impl_Angle_impl_Angle_v2_l0 (s, ((), (f_0, (f_1, ())), (t7, (t8, ()))))).bind fun r : (Ctl ((List (Int × (Int × Unit))) × Unit × (List (Int × (Int × Unit)) × (List ((Int × (Int × Unit)) × ((Int × (Int × Unit)) × Unit)) × Unit)) × Int × Int × Unit) ((Int × Unit) ⊕ (Unit))) => some (ctlVal z1m r)
  simp only [slices_IndexFunc__impl_Angle_impl_Angle_v2_l0, kb_ite, kb_some, kb_none, kb_bind, kb_alt]
  kernel_rfl
theorem z8e : RoundsOK (mkCtx Go.K.Link.seat zv zp) (sums zs) (loopsOf 0 z1l) zs := ⟨⟨rfl, rfl, z7q⟩, trivial⟩
theorem z92 : ∀ v, (evFn (mkCtx Go.K.Link.seat zv zp) (sums zs) 264 Go.Proofs.Tryz.f264 (encL zb.a v)).run = (zb.gen v).bind fun y => some (zb.out y) := by
  rintro ⟨s, ⟨⟨_, ⟨f_0, ⟨f_1, _⟩⟩⟩, _⟩⟩
  show _ = (slices_IndexFunc__impl_Angle_impl_Angle_v2 s f_0 f_1).bind fun y : Int => some (zb.out y)
  simp only [slices_IndexFunc__impl_Angle_impl_Angle_v2, kb_ite, kb_some, kb_none, kb_bind, kb_alt]
  kernel_rfl
theorem z8f : FnIs Go.Proofs.Tryz.prog 264 (modeOf []) (phi [zb]) := spec_is (c := zv) seatOK z91 Go.Proofs.Tryz.func264 rfl (code := z1l) rfl rfl z8e z92
theorem zpm : PrTy Go.Proofs.Tryz.prog ⟨2, 3, 4, 52, 25, 83, 88, 96, 263, 264, 265, 269⟩ := ⟨⟨seatOK.mixed, ⟨Go.Proofs.Tryz.underlying52, by kernel_rfl, Go.Proofs.Tryz.isAgg52, Go.Proofs.Tryz.sizeOf52, Go.Proofs.Tryz.sizeOf25, by decide, by decide⟩, Go.Proofs.Tryz.underlying3, Go.Proofs.Tryz.underlying4, Go.Proofs.Tryz.isAgg3, Go.Proofs.Tryz.isAgg4, Go.Proofs.Tryz.sizeOf3, Go.Proofs.Tryz.sizeOf4, Go.Proofs.Tryz.zeroValue25, rfl, by simp [Value.cells, Value.oneCell']⟩, ⟨Go.Proofs.Tryz.underlying83, by kernel_rfl, Go.Proofs.Tryz.isAgg83, Go.Proofs.Tryz.sizeOf83, Go.Proofs.Tryz.sizeOf88, by decide, by decide⟩, Go.Proofs.Tryz.underlying2, Go.Proofs.Tryz.isAgg2, Go.Proofs.Tryz.sizeOf2, Go.Proofs.Tryz.isAgg25, Go.Proofs.Tryz.zeroValue52, Go.Proofs.Tryz.zeroValue83, Go.Proofs.Tryz.isAgg88, Go.Proofs.Tryz.sizeOf88, Go.Proofs.Tryz.zeroValue88, ⟨_, _, Go.Proofs.Tryz.underlying88, rfl, rfl, rfl, rfl⟩⟩
noncomputable def zj9 : Spec := ⟨[.v (.int .i64) .fr], List ((Int × (Int × Unit)) × ((Int × (Int × Unit)) × Unit)), fun v => impl_pairsUpTo v.1, fun r => ([.v (.sl 88 (.pair (.pair (.int .i64) (.pair (.int .i64) (.unit))) (.pair (.pair (.int .i64) (.pair (.int .i64) (.unit))) (.unit)))) (.own .fr) r], [])⟩
theorem zon : FnIs Go.Proofs.Tryz.prog 231 (modeOf []) (phi [zj9]) := pairs_is (n := ⟨2, 3, 4, 52, 25, 83, 88, 96, 263, 264, 265, 269⟩) zpm Go.Proofs.Tryz.func231 rfl rfl rfl rfl Go.Proofs.Tryz.func269 rfl rfl rfl rfl ⟨_, Go.Proofs.Tryz.func263, rfl, rfl⟩ ⟨_, Go.Proofs.Tryz.func264, rfl, rfl⟩ (A := fun p => impl_anglesOfPeriod p) (I := fun xs ys ps => slices_IndexFunc__impl_Angle_impl_Angle_v2 xs ys ps) zkh (fun p xs h => by
  have e : (phi [z2w] [.v (.int .i64) .fr p]).run = (impl_anglesOfPeriod p).bind fun r => some ([.v (.sl 25 (.pair (.int .i64) (.pair (.int .i64) (.unit)))) (.own .fr) r], []) := by kernel_rfl
  rw [e]
  show (impl_anglesOfPeriod p).bind _ = _
  rw [show impl_anglesOfPeriod p = some xs from h]
  rfl) z8f (fun xs ys ps r h => by
  have e : (phi [zb] [.v (.sl 25 (.pair (.int .i64) (.pair (.int .i64) (.unit)))) .fr xs, .fn 265 [] [.v (.ptr (.sl 25 (.pair (.int .i64) (.pair (.int .i64) (.unit))))) .fr ys, .v (.ptr (.sl 88 (.pair (.pair (.int .i64) (.pair (.int .i64) (.unit))) (.pair (.pair (.int .i64) (.pair (.int .i64) (.unit))) (.unit))))) .fr ps]]).run = (slices_IndexFunc__impl_Angle_impl_Angle_v2 xs ys ps).bind fun r => some ([.v (.int .i64) .fr r], []) := by kernel_rfl
  rw [e]
  show (slices_IndexFunc__impl_Angle_impl_Angle_v2 xs ys ps).bind _ = _
  rw [show slices_IndexFunc__impl_Angle_impl_Angle_v2 xs ys ps = some r from h]
  rfl)
noncomputable def z1c : Code := (Go.Proofs.Tryz.f230.body).getD .skip
def zq : Cfg := ⟨230, [.own], [[0, 1, 5, 6, 13], [0, 5, 13], [0, 4, 13, 39, 41]], [], [], []⟩
noncomputable def z12 : Code := (Go.Proofs.Tryz.f262.body).getD .skip
def zj : Cfg := ⟨262, [], [[0, 1, 7, 8], [], [4]], [], [], []⟩
noncomputable def zgc : Code := (Go.Proofs.Tryz.f232.body).getD .skip
def ze6 : Cfg := ⟨232, [], [], [], [], []⟩
noncomputable def z3c : Spec := ⟨[.v (.pair (.pair (.int .i64) (.pair (.int .i64) (.unit))) (.pair (.pair (.int .i64) (.pair (.int .i64) (.unit))) (.unit))) .fr, .v (.ptr (.int .i64)) .fr], Bool, fun v => impl_pairsOf_f1 v.1 v.2.1, fun r => ([.v (.bool) .fr r], [])⟩
noncomputable def zd2 : List LSum := []
noncomputable def zbn : List Row := [⟨233, [], [z4e]⟩]
theorem zoo : ∀ r, r ∈ zbn → RowIs Go.Proofs.Tryz.prog r := tab_cons (zj6) (tab_nil)
theorem znq : RoundsOK (mkCtx Go.K.Link.seat ze6 zbn) (sums zd2) (loopsOf 0 zgc) zd2 := trivial
theorem zop : ∀ v, (evFn (mkCtx Go.K.Link.seat ze6 zbn) (sums zd2) 232 Go.Proofs.Tryz.f232 (encL z3c.a v)).run = (z3c.gen v).bind fun y => some (z3c.out y) := by
  rintro ⟨p, ⟨t1, _⟩⟩
  show _ = (impl_pairsOf_f1 p t1).bind fun y : Bool => some (z3c.out y)
  simp only [impl_pairsOf_f1, kb_ite, kb_some, kb_none, kb_bind, kb_alt]
  kernel_rfl
theorem zhr : FnIs Go.Proofs.Tryz.prog 232 (modeOf []) (phi [z3c]) := spec_is (c := ze6) seatOK zoo Go.Proofs.Tryz.func232 rfl (code := zgc) rfl rfl znq zop
noncomputable def z13 : LSum := ⟨0, ⟨[(0, .val (.sl 88 (.pair (.pair (.int .i64) (.pair (.int .i64) (.unit))) (.pair (.pair (.int .i64) (.pair (.int .i64) (.unit))) (.unit)))) .fr), (0, .fnl 232 [] [.arg (.v (.ptr (.int .i64)) .fr)]), (5, .val (.int .i64) .fr), (0, .val (.int .i64) .fr)], 10⟩, (.ret, ⟨[(4, .val (.int .i64) .fr)], 14⟩), [(.exit 0, ⟨[], 19⟩)], slices_IndexFunc__impl_RayPair_impl_RayPair_v2_l0⟩
noncomputable def z6 : Spec := ⟨[.v (.sl 88 (.pair (.pair (.int .i64) (.pair (.int .i64) (.unit))) (.pair (.pair (.int .i64) (.pair (.int .i64) (.unit))) (.unit)))) .fr, .fn 232 [] [.v (.ptr (.int .i64)) .fr]], Int, fun v => slices_IndexFunc__impl_RayPair_impl_RayPair_v2 v.1 v.2.1.2.1, fun r => ([.v (.int .i64) .fr r], [])⟩
noncomputable def zh : List LSum := [z13]
noncomputable def zf : List Row := [⟨232, [], [z3c]⟩]
theorem z7g : ∀ r, r ∈ zf → RowIs Go.Proofs.Tryz.prog r := tab_cons (zhr) (tab_nil)
theorem z64 : RoundIs (mkCtx Go.K.Link.seat zj zf) (sums zh) 0 (bodyAt (loopsOf 0 z12) 0) z13 := by
  rintro ⟨s, ⟨_, ⟨f, _⟩, ⟨t7, ⟨t8, _⟩⟩⟩⟩
  show _ = (slices_IndexFunc__impl_RayPair_impl_RayPair_v2_l0 (s, ((), (f, ()), (t7, (t8, ()))))).bind fun r : (Ctl ((List ((Int × (Int × Unit)) × ((Int × (Int × Unit)) × Unit))) × Unit × (Int × Unit) × Int × Int × Unit) ((Int × Unit) ⊕ (Unit))) => some (ctlVal z13 r)
  simp only [slices_IndexFunc__impl_RayPair_impl_RayPair_v2_l0, kb_ite, kb_some, kb_none, kb_bind, kb_alt]
  kernel_rfl
theorem z6o : RoundsOK (mkCtx Go.K.Link.seat zj zf) (sums zh) (loopsOf 0 z12) zh := ⟨⟨rfl, rfl, z64⟩, trivial⟩
theorem z7h : ∀ v, (evFn (mkCtx Go.K.Link.seat zj zf) (sums zh) 262 Go.Proofs.Tryz.f262 (encL z6.a v)).run = (z6.gen v).bind fun y => some (z6.out y) := by
  rintro ⟨s, ⟨⟨_, ⟨f_0, _⟩⟩, _⟩⟩
  show _ = (slices_IndexFunc__impl_RayPair_impl_RayPair_v2 s f_0).bind fun y : Int => some (z6.out y)
  simp only [slices_IndexFunc__impl_RayPair_impl_RayPair_v2, kb_ite, kb_some, kb_none, kb_bind, kb_alt]
  kernel_rfl
theorem z6p : FnIs Go.Proofs.Tryz.prog 262 (modeOf []) (phi [z6]) := spec_is (c := zj) seatOK z7g Go.Proofs.Tryz.func262 rfl (code := z12) rfl rfl z6o z7h
noncomputable def z1d : LSum := ⟨0, ⟨[(0, .val (.sl 88 (.pair (.pair (.int .i64) (.pair (.int .i64) (.unit))) (.pair (.pair (.int .i64) (.pair (.int .i64) (.unit))) (.unit)))) (.own .fr)), (0, .fnl 232 [] [.arg (.v (.ptr (.int .i64)) .fr)]), (3, .val (.int .i64) .fr), (0, .val (.int .i64) .fr)], 35⟩, (.exit 0, ⟨[(0, .val (.sl 88 (.pair (.pair (.int .i64) (.pair (.int .i64) (.unit))) (.pair (.pair (.int .i64) (.pair (.int .i64) (.unit))) (.unit)))) (.own .fr)), (4, .val (.int .i64) .fr)], 36⟩), [], slices_DeleteFunc__impl_RayPair_impl_RayPair_l0⟩
noncomputable def z8 : Spec := ⟨[.v (.sl 88 (.pair (.pair (.int .i64) (.pair (.int .i64) (.unit))) (.pair (.pair (.int .i64) (.pair (.int .i64) (.unit))) (.unit)))) (.own .fr), .fn 232 [] [.v (.ptr (.int .i64)) .fr]], (List ((Int × (Int × Unit)) × ((Int × (Int × Unit)) × Unit))), fun v => slices_DeleteFunc__impl_RayPair_impl_RayPair v.1 v.2.1.2.1, fun r => ([.v (.sl 88 (.pair (.pair (.int .i64) (.pair (.int .i64) (.unit))) (.pair (.pair (.int .i64) (.pair (.int .i64) (.unit))) (.unit)))) (.own .fr) r], [])⟩
noncomputable def zn : List LSum := [z1d]
noncomputable def zk : List Row := [⟨262, [], [z6]⟩, ⟨232, [], [z3c]⟩]
theorem z82 : ∀ r, r ∈ zk → RowIs Go.Proofs.Tryz.prog r := tab_cons (z6p) (tab_cons (zhr) (tab_nil))
theorem z6q : RoundIs (mkCtx Go.K.Link.seat zq zk) (sums zn) 0 (bodyAt (loopsOf 0 z1c) 0) z1d := by
  rintro ⟨s, ⟨_, ⟨del, _⟩, ⟨i, ⟨j, _⟩⟩⟩⟩
  show _ = (slices_DeleteFunc__impl_RayPair_impl_RayPair_l0 (s, ((), (del, ()), (i, (j, ()))))).bind fun r : (Ctl ((List ((Int × (Int × Unit)) × ((Int × (Int × Unit)) × Unit))) × Unit × (Int × Unit) × Int × Int × Unit) (((List ((Int × (Int × Unit)) × ((Int × (Int × Unit)) × Unit))) × Int × Unit))) => some (ctlVal z1d r)
  simp only [slices_DeleteFunc__impl_RayPair_impl_RayPair_l0, kb_ite, kb_some, kb_none, kb_bind, kb_alt]
  kernel_rfl
theorem z7r : RoundsOK (mkCtx Go.K.Link.seat zq zk) (sums zn) (loopsOf 0 z1c) zn := ⟨⟨rfl, rfl, z6q⟩, trivial⟩
theorem z83 : ∀ v, (evFn (mkCtx Go.K.Link.seat zq zk) (sums zn) 230 Go.Proofs.Tryz.f230 (encL z8.a v)).run = (z8.gen v).bind fun y => some (z8.out y) := by
  rintro ⟨s, ⟨⟨_, ⟨del_0, _⟩⟩, _⟩⟩
  show _ = (slices_DeleteFunc__impl_RayPair_impl_RayPair s del_0).bind fun y : (List ((Int × (Int × Unit)) × ((Int × (Int × Unit)) × Unit))) => some (z8.out y)
  simp only [slices_DeleteFunc__impl_RayPair_impl_RayPair, kb_ite, kb_some, kb_none, kb_bind, kb_alt]
  kernel_rfl
theorem z7s : FnIs Go.Proofs.Tryz.prog 230 (modeOf [.own]) (phi [z8]) := spec_is (c := zq) seatOK z82 Go.Proofs.Tryz.func230 rfl (code := z1c) rfl rfl z7r z83
noncomputable def zgd : Code := (Go.Proofs.Tryz.f235.body).getD .skip
def ze7 : Cfg := ⟨235, [], [], [], [], []⟩
noncomputable def z4l : Spec := ⟨[.v (.pair (.pair (.int .i64) (.pair (.int .i64) (.unit))) (.pair (.pair (.int .i64) (.pair (.int .i64) (.unit))) (.unit))) .fr, .v (.pair (.pair (.int .i64) (.pair (.int .i64) (.unit))) (.pair (.pair (.int .i64) (.pair (.int .i64) (.unit))) (.unit))) .fr], Int, fun v => impl_pairsOf_f2 v.1 v.2.1, fun r => ([.v (.int .i64) .fr r], [])⟩
noncomputable def zd3 : List LSum := []
noncomputable def zbo : List Row := [⟨129, [], [z28]⟩]
theorem zoq : ∀ r, r ∈ zbo → RowIs Go.Proofs.Tryz.prog r := tab_cons (zfj) (tab_nil)
theorem znr : RoundsOK (mkCtx Go.K.Link.seat ze7 zbo) (sums zd3) (loopsOf 0 zgd) zd3 := trivial
theorem zor : ∀ v, (evFn (mkCtx Go.K.Link.seat ze7 zbo) (sums zd3) 235 Go.Proofs.Tryz.f235 (encL z4l.a v)).run = (z4l.gen v).bind fun y => some (z4l.out y) := by
  rintro ⟨p, ⟨q, _⟩⟩
  show _ = (impl_pairsOf_f2 p q).bind fun y : Int => some (z4l.out y)
  simp only [impl_pairsOf_f2, kb_ite, kb_some, kb_none, kb_bind, kb_alt]
  kernel_rfl
theorem zns : FnIs Go.Proofs.Tryz.prog 235 (modeOf []) (phi [z4l]) := spec_is (c := ze7) seatOK zoq Go.Proofs.Tryz.func235 rfl (code := zgd) rfl rfl znr zor
noncomputable def z3o : Spec := ⟨[.v (.sl 88 (.pair (.pair (.int .i64) (.pair (.int .i64) (.unit))) (.pair (.pair (.int .i64) (.pair (.int .i64) (.unit))) (.unit)))) (.own .fr), .fn 235 [] []], List ((Int × (Int × Unit)) × ((Int × (Int × Unit)) × Unit)), fun v => slices_SortFunc__impl_RayPair_impl_RayPair v.1, fun r => ([], [.v (.sl 88 (.pair (.pair (.int .i64) (.pair (.int .i64) (.unit))) (.pair (.pair (.int .i64) (.pair (.int .i64) (.unit))) (.unit)))) (.own .fr) r])⟩
theorem z8g : FnIs Go.Proofs.Tryz.prog 234 (modeOf [.mut]) (phi [z3o]) := sortFunc_is (cs := []) (cf := fun c x y => impl_pairsOf_f2 x y ) Go.Proofs.Tryz.sortL234 ⟨_, Go.Proofs.Tryz.func234, rfl, rfl⟩ (T := 88) (e := (.pair (.pair (.int .i64) (.pair (.int .i64) (.unit))) (.pair (.pair (.int .i64) (.pair (.int .i64) (.unit))) (.unit)))) rfl rfl Go.Proofs.Tryz.isAgg88 Go.Proofs.Tryz.sizeOf88 zns (fun c x y r h => by
  have e : (phi [z4l] (.v (.pair (.pair (.int .i64) (.pair (.int .i64) (.unit))) (.pair (.pair (.int .i64) (.pair (.int .i64) (.unit))) (.unit))) .fr x :: .v (.pair (.pair (.int .i64) (.pair (.int .i64) (.unit))) (.pair (.pair (.int .i64) (.pair (.int .i64) (.unit))) (.unit))) .fr y :: encL [] c)).run = (impl_pairsOf_f2 x y ).bind fun r => some ([.v (.int .i64) .fr r], []) := by kernel_rfl
  rw [e]
  show (impl_pairsOf_f2 x y ).bind _ = _
  rw [show impl_pairsOf_f2 x y  = some r from h]
  rfl)
noncomputable def z6r : Spec := ⟨[.v (.int .i64) .fr], (List ((Int × (Int × Unit)) × ((Int × (Int × Unit)) × Unit))), fun v => impl_pairsOf v.1, fun r => ([.v (.sl 88 (.pair (.pair (.int .i64) (.pair (.int .i64) (.unit))) (.pair (.pair (.int .i64) (.pair (.int .i64) (.unit))) (.unit)))) (.own .fr) r], [])⟩
noncomputable def zge : List LSum := []
noncomputable def zfb : List Row := [⟨230, [.own], [z8]⟩, ⟨231, [], [zj9]⟩, ⟨234, [.mut], [z3o]⟩]
theorem zrh : ∀ r, r ∈ zfb → RowIs Go.Proofs.Tryz.prog r := tab_cons (z7s) (tab_cons (zon) (tab_cons (z8g) (tab_nil)))
theorem zqk : RoundsOK (mkCtx Go.K.Link.seat zh9 zfb) (sums zge) (loopsOf 0 zie) zge := trivial
theorem zri : ∀ v, (evFn (mkCtx Go.K.Link.seat zh9 zfb) (sums zge) 163 Go.Proofs.Tryz.f163 (encL z6r.a v)).run = (z6r.gen v).bind fun y => some (z6r.out y) := by
  rintro ⟨n, _⟩
  show _ = (impl_pairsOf n).bind fun y : (List ((Int × (Int × Unit)) × ((Int × (Int × Unit)) × Unit))) => some (z6r.out y)
  simp only [impl_pairsOf, kb_ite, kb_some, kb_none, kb_bind, kb_alt]
  kernel_rfl
theorem zql : FnIs Go.Proofs.Tryz.prog 163 (modeOf []) (phi [z6r]) := spec_is (c := zh9) seatOK zrh Go.Proofs.Tryz.func163 rfl (code := zie) rfl rfl zqk zri
noncomputable def z38 : Spec := ⟨[.v (.int .i64) .fr], (List ((Int × (Int × Unit)) × ((Int × (Int × Unit)) × Unit))) × Int, fun v => impl_PairsOfPeriod v.1, fun r => ([.v (.sl 88 (.pair (.pair (.int .i64) (.pair (.int .i64) (.unit))) (.pair (.pair (.int .i64) (.pair (.int .i64) (.unit))) (.unit)))) (.own .fr) r.1, .v (.int .i64) .fr r.2], [])⟩
noncomputable def za2 : List LSum := []
noncomputable def z93 : List Row := [⟨162, [], [z5r]⟩, ⟨163, [], [z6r]⟩]
theorem zlx : ∀ r, r ∈ z93 → RowIs Go.Proofs.Tryz.prog r := tab_cons (zpk) (tab_cons (zql) (tab_nil))
theorem zl4 : RoundsOK (mkCtx Go.K.Link.seat zau z93) (sums za2) (loopsOf 0 zdk) za2 := trivial
theorem zly : ∀ v, (evFn (mkCtx Go.K.Link.seat zau z93) (sums za2) 75 Go.Proofs.Tryz.f75 (encL z38.a v)).run = (z38.gen v).bind fun y => some (z38.out y) := by
  rintro ⟨n, _⟩
  show _ = (impl_PairsOfPeriod n).bind fun y : (List ((Int × (Int × Unit)) × ((Int × (Int × Unit)) × Unit))) × Int => some (z38.out y)
  simp only [impl_PairsOfPeriod, kb_ite, kb_some, kb_none, kb_bind, kb_alt]
  kernel_rfl
theorem zl5 : FnIs Go.Proofs.Tryz.prog 75 (modeOf []) (phi [z38]) := spec_is (c := zau) seatOK zlx Go.Proofs.Tryz.func75 rfl (code := zdk) rfl rfl zl4 zly
noncomputable def zgf : Code := (Go.Proofs.Tryz.f76.body).getD .skip
def ze8 : Cfg := ⟨76, [], [], [], [], []⟩
noncomputable def zfk : Code := (Go.Proofs.Tryz.f164.body).getD .skip
def zd4 : Cfg := ⟨164, [], [], [], [], []⟩
noncomputable def zgg : Code := (Go.Proofs.Tryz.f86.body).getD .skip
def ze9 : Cfg := ⟨86, [], [], [], [], []⟩
noncomputable def zaa : Code := (Go.Proofs.Tryz.f175.body).getD .skip
def z7i : Cfg := ⟨175, [], [], [], [], []⟩
noncomputable def z31 : Code := (Go.Proofs.Tryz.f238.body).getD .skip
def z1t : Cfg := ⟨238, [], [], [], [], []⟩
noncomputable def z1u : Code := (Go.Proofs.Tryz.f264.body).getD .skip
def z10 : Cfg := ⟨264, [], [[0, 1, 7, 8], [], [4]], [], [], []⟩
noncomputable def z8h : Code := (Go.Proofs.Tryz.f239.body).getD .skip
def z5h : Cfg := ⟨239, [], [], [], [], []⟩
noncomputable def zif : Code := (Go.Proofs.Tryz.f168.body).getD .skip
def zhc : Cfg := ⟨168, [], [], [], [], []⟩
noncomputable def z57 : Spec := ⟨[.v (.pair (.int .i64) (.pair (.int .i64) (.unit))) .fr], Bool, fun v => impl_IsAngle v.1, fun r => ([.v (.bool) .fr r], [])⟩
noncomputable def zgh : List LSum := []
noncomputable def zfc : List Row := [⟨174, [], [z54]⟩, ⟨106, [], [z3p]⟩]
theorem zrj : ∀ r, r ∈ zfc → RowIs Go.Proofs.Tryz.prog r := tab_cons (zju) (tab_cons (zdb) (tab_nil))
theorem zqm : RoundsOK (mkCtx Go.K.Link.seat zhc zfc) (sums zgh) (loopsOf 0 zif) zgh := trivial
theorem zrk : ∀ v, (evFn (mkCtx Go.K.Link.seat zhc zfc) (sums zgh) 168 Go.Proofs.Tryz.f168 (encL z57.a v)).run = (z57.gen v).bind fun y => some (z57.out y) := by
  rintro ⟨a, _⟩
  show _ = (impl_IsAngle a).bind fun y : Bool => some (z57.out y)
  simp only [impl_IsAngle, kb_ite, kb_some, kb_none, kb_bind, kb_alt]
  kernel_rfl
theorem zjw : FnIs Go.Proofs.Tryz.prog 168 (modeOf []) (phi [z57]) := spec_is (c := zhc) seatOK zrj Go.Proofs.Tryz.func168 rfl (code := zif) rfl rfl zqm zrk
noncomputable def z1k : Spec := ⟨[.v (.pair (.int .i64) (.pair (.int .i64) (.unit))) .fr, .pfn 168 [] []], Bool, fun v => impl_areAll_impl_Angle_f1 v.1, fun r => ([.v (.bool) .fr r], [])⟩
noncomputable def z58 : List LSum := []
noncomputable def z4r : List Row := [⟨168, [], [z57]⟩]
theorem zhs : ∀ r, r ∈ z4r → RowIs Go.Proofs.Tryz.prog r := tab_cons (zjw) (tab_nil)
theorem zhd : RoundsOK (mkCtx Go.K.Link.seat z5h z4r) (sums z58) (loopsOf 0 z8h) z58 := trivial
theorem zht : ∀ v, (evFn (mkCtx Go.K.Link.seat z5h z4r) (sums z58) 239 Go.Proofs.Tryz.f239 (encL z1k.a v)).run = (z1k.gen v).bind fun y => some (z1k.out y) := by
  rintro ⟨x, ⟨⟨_, _⟩, _⟩⟩
  show _ = (impl_areAll_impl_Angle_f1 x).bind fun y : Bool => some (z1k.out y)
  simp only [impl_areAll_impl_Angle_f1, kb_ite, kb_some, kb_none, kb_bind, kb_alt]
  kernel_rfl
theorem zhe : FnIs Go.Proofs.Tryz.prog 239 (modeOf []) (phi [z1k]) := spec_is (c := z5h) seatOK zhs Go.Proofs.Tryz.func239 rfl (code := z8h) rfl rfl zhd zht
noncomputable def z1v : LSum := ⟨0, ⟨[(0, .val (.sl 25 (.pair (.int .i64) (.pair (.int .i64) (.unit)))) .fr), (0, .fnl 239 [] [.arg (.pfn 168 [] [])]), (5, .val (.int .i64) .fr), (0, .val (.int .i64) .fr)], 10⟩, (.ret, ⟨[(4, .val (.int .i64) .fr)], 14⟩), [(.exit 0, ⟨[], 19⟩)], slices_IndexFunc__impl_Angle_impl_Angle_l0⟩
noncomputable def zd : Spec := ⟨[.v (.sl 25 (.pair (.int .i64) (.pair (.int .i64) (.unit)))) .fr, .fn 239 [] [.pfn 168 [] []]], Int, fun v => slices_IndexFunc__impl_Angle_impl_Angle v.1, fun r => ([.v (.int .i64) .fr r], [])⟩
noncomputable def zy : List LSum := [z1v]
noncomputable def zw : List Row := [⟨239, [], [z1k]⟩]
theorem za8 : ∀ r, r ∈ zw → RowIs Go.Proofs.Tryz.prog r := tab_cons (zhe) (tab_nil)
theorem z94 : RoundIs (mkCtx Go.K.Link.seat z10 zw) (sums zy) 0 (bodyAt (loopsOf 0 z1u) 0) z1v := by
  rintro ⟨s, ⟨_, ⟨⟨_, _⟩, _⟩, ⟨t7, ⟨t8, _⟩⟩⟩⟩
  show _ = (slices_IndexFunc__impl_Angle_impl_Angle_l0 (s, ((), (((), ()), ()), (t7, (t8, ()))))).bind fun r : (Ctl ((List (Int × (Int × Unit))) × Unit × ((Unit × Unit) × Unit) × Int × Int × Unit) ((Int × Unit) ⊕ (Unit))) => some (ctlVal z1v r)
  simp only [slices_IndexFunc__impl_Angle_impl_Angle_l0, kb_ite, kb_some, kb_none, kb_bind, kb_alt]
  kernel_rfl
theorem za3 : RoundsOK (mkCtx Go.K.Link.seat z10 zw) (sums zy) (loopsOf 0 z1u) zy := ⟨⟨rfl, rfl, z94⟩, trivial⟩
theorem za9 : ∀ v, (evFn (mkCtx Go.K.Link.seat z10 zw) (sums zy) 264 Go.Proofs.Tryz.f264 (encL zd.a v)).run = (zd.gen v).bind fun y => some (zd.out y) := by
  rintro ⟨s, ⟨⟨_, ⟨⟨_, _⟩, _⟩⟩, _⟩⟩
  show _ = (slices_IndexFunc__impl_Angle_impl_Angle s).bind fun y : Int => some (zd.out y)
  simp only [slices_IndexFunc__impl_Angle_impl_Angle, kb_ite, kb_some, kb_none, kb_bind, kb_alt]
  kernel_rfl
theorem za4 : FnIs Go.Proofs.Tryz.prog 264 (modeOf []) (phi [zd]) := spec_is (c := z10) seatOK za8 Go.Proofs.Tryz.func264 rfl (code := z1u) rfl rfl za3 za9
noncomputable def zc : Spec := ⟨[.v (.sl 25 (.pair (.int .i64) (.pair (.int .i64) (.unit)))) .fr, .fn 239 [] [.pfn 168 [] []]], Bool, fun v => slices_ContainsFunc__impl_Angle_impl_Angle v.1, fun r => ([.v (.bool) .fr r], [])⟩
noncomputable def z1s : List LSum := []
noncomputable def z1o : List Row := [⟨264, [], [zd]⟩]
theorem z95 : ∀ r, r ∈ z1o → RowIs Go.Proofs.Tryz.prog r := tab_cons (za4) (tab_nil)
theorem z8i : RoundsOK (mkCtx Go.K.Link.seat z1t z1o) (sums z1s) (loopsOf 0 z31) z1s := trivial
theorem z96 : ∀ v, (evFn (mkCtx Go.K.Link.seat z1t z1o) (sums z1s) 238 Go.Proofs.Tryz.f238 (encL zc.a v)).run = (zc.gen v).bind fun y => some (zc.out y) := by
  rintro ⟨s, ⟨⟨_, ⟨⟨_, _⟩, _⟩⟩, _⟩⟩
  show _ = (slices_ContainsFunc__impl_Angle_impl_Angle s).bind fun y : Bool => some (zc.out y)
  simp only [slices_ContainsFunc__impl_Angle_impl_Angle, kb_ite, kb_some, kb_none, kb_bind, kb_alt]
  kernel_rfl
theorem z8j : FnIs Go.Proofs.Tryz.prog 238 (modeOf []) (phi [zc]) := spec_is (c := z1t) seatOK z95 Go.Proofs.Tryz.func238 rfl (code := z31) rfl rfl z8i z96
noncomputable def z21 : Spec := ⟨[.v (.sl 25 (.pair (.int .i64) (.pair (.int .i64) (.unit)))) .fr, .fn 168 [] []], Bool, fun v => impl_areAll_impl_Angle v.1, fun r => ([.v (.bool) .fr r], [])⟩
noncomputable def z6i : List LSum := []
noncomputable def z60 : List Row := [⟨238, [], [zc]⟩]
theorem zja : ∀ r, r ∈ z60 → RowIs Go.Proofs.Tryz.prog r := tab_cons (z8j) (tab_nil)
theorem zio : RoundsOK (mkCtx Go.K.Link.seat z7i z60) (sums z6i) (loopsOf 0 zaa) z6i := trivial
theorem zjb : ∀ v, (evFn (mkCtx Go.K.Link.seat z7i z60) (sums z6i) 175 Go.Proofs.Tryz.f175 (encL z21.a v)).run = (z21.gen v).bind fun y => some (z21.out y) := by
  rintro ⟨list, ⟨⟨_, _⟩, _⟩⟩
  show _ = (impl_areAll_impl_Angle list).bind fun y : Bool => some (z21.out y)
  simp only [impl_areAll_impl_Angle, kb_ite, kb_some, kb_none, kb_bind, kb_alt]
  kernel_rfl
theorem zip : FnIs Go.Proofs.Tryz.prog 175 (modeOf []) (phi [z21]) := spec_is (c := z7i) seatOK zja Go.Proofs.Tryz.func175 rfl (code := zaa) rfl rfl zio zjb
noncomputable def z4m : Spec := ⟨[.v (.sl 25 (.pair (.int .i64) (.pair (.int .i64) (.unit)))) .fr], Int, fun v => impl_anglesCode v.1, fun r => ([.v (.int .i64) .fr r], [])⟩
noncomputable def zd5 : List LSum := []
noncomputable def zbp : List Row := [⟨175, [], [z21]⟩]
theorem zos : ∀ r, r ∈ zbp → RowIs Go.Proofs.Tryz.prog r := tab_cons (zip) (tab_nil)
theorem znt : RoundsOK (mkCtx Go.K.Link.seat ze9 zbp) (sums zd5) (loopsOf 0 zgg) zd5 := trivial
theorem zot : ∀ v, (evFn (mkCtx Go.K.Link.seat ze9 zbp) (sums zd5) 86 Go.Proofs.Tryz.f86 (encL z4m.a v)).run = (z4m.gen v).bind fun y => some (z4m.out y) := by
  rintro ⟨list, _⟩
  show _ = (impl_anglesCode list).bind fun y : Int => some (z4m.out y)
  simp only [impl_anglesCode, kb_ite, kb_some, kb_none, kb_bind, kb_alt]
  kernel_rfl
theorem znu : FnIs Go.Proofs.Tryz.prog 86 (modeOf []) (phi [z4m]) := spec_is (c := ze9) seatOK zos Go.Proofs.Tryz.func86 rfl (code := zgg) rfl rfl znt zot
noncomputable def zig : Code := (Go.Proofs.Tryz.f79.body).getD .skip
def zhf : Cfg := ⟨79, [], [], [], [], []⟩
noncomputable def za5 : Code := (Go.Proofs.Tryz.f169.body).getD .skip
def z8k : Cfg := ⟨169, [], [[1, 5, 12, 20], [], [2, 3, 4, 5, 12, 20]], [], [], []⟩
noncomputable def z29 : Code := (Go.Proofs.Tryz.f116.body).getD .skip
def z1n : Cfg := ⟨116, [], [[0, 3, 7, 8], [], [4]], [], [], []⟩
noncomputable def z2a : LSum := ⟨0, ⟨[(0, .val (.sl 25 (.pair (.int .i64) (.pair (.int .i64) (.unit)))) .fr), (2, .val (.ptr (.pair (.int .i64) (.pair (.int .i64) (.unit)))) (.own .fr)), (3, .val (.int .i64) .fr), (0, .val (.int .i64) .fr)], 10⟩, (.ret, ⟨[(4, .val (.int .i64) .fr)], 14⟩), [(.exit 0, ⟨[], 19⟩)], slices_Index__impl_Angle_impl_Angle_l0⟩
noncomputable def ze : Spec := ⟨[.v (.sl 25 (.pair (.int .i64) (.pair (.int .i64) (.unit)))) .fr, .v (.pair (.int .i64) (.pair (.int .i64) (.unit))) .fr], Int, fun v => slices_Index__impl_Angle_impl_Angle v.1 v.2.1, fun r => ([.v (.int .i64) .fr r], [])⟩
noncomputable def z1i : List LSum := [z2a]
noncomputable def z1e : List Row := []
theorem zcb : ∀ r, r ∈ z1e → RowIs Go.Proofs.Tryz.prog r := tab_nil
theorem zb3 : RoundIs (mkCtx Go.K.Link.seat z1n z1e) (sums z1i) 0 (bodyAt (loopsOf 0 z29) 0) z2a := by
  rintro ⟨s, ⟨v, ⟨t7, ⟨t8, _⟩⟩⟩⟩
  show _ = (slices_Index__impl_Angle_impl_Angle_l0 (s, (v, (t7, (t8, ()))))).bind fun r : (Ctl ((List (Int × (Int × Unit))) × ((Int × (Int × Unit))) × Int × Int × Unit) ((Int × Unit) ⊕ (Unit))) => some (ctlVal z2a r)
  simp only [slices_Index__impl_Angle_impl_Angle_l0, kb_ite, kb_some, kb_none, kb_bind, kb_alt]
  kernel_rfl
theorem zbq : RoundsOK (mkCtx Go.K.Link.seat z1n z1e) (sums z1i) (loopsOf 0 z29) z1i := ⟨⟨rfl, rfl, zb3⟩, trivial⟩
theorem zcc : ∀ v, (evFn (mkCtx Go.K.Link.seat z1n z1e) (sums z1i) 116 Go.Proofs.Tryz.f116 (encL ze.a v)).run = (ze.gen v).bind fun y => some (ze.out y) := by
  rintro ⟨s, ⟨v, _⟩⟩
  show _ = (slices_Index__impl_Angle_impl_Angle s v).bind fun y : Int => some (ze.out y)
  simp only [slices_Index__impl_Angle_impl_Angle, kb_ite, kb_some, kb_none, kb_bind, kb_alt]
  kernel_rfl
theorem zbr : FnIs Go.Proofs.Tryz.prog 116 (modeOf []) (phi [ze]) := spec_is (c := z1n) seatOK zcb Go.Proofs.Tryz.func116 rfl (code := z29) rfl rfl zbq zcc
noncomputable def za6 : LSum := ⟨0, ⟨[(1, .val (.ptr (.pair (.int .i64) (.pair (.int .i64) (.unit)))) (.own .fr)), (3, .val (.sl 25 (.pair (.int .i64) (.pair (.int .i64) (.unit)))) (.own .fr))], 17⟩, (.ret, ⟨[(2, .sref 5 []), (0, .val (.int .i64) .fr), (0, .val (.bool) .fr), (0, .val (.sl 25 (.pair (.int .i64) (.pair (.int .i64) (.unit)))) (.own .fr)), (6, .sref 5 [])], 10⟩), [(.ret, ⟨[(2, .val (.sl 25 (.pair (.int .i64) (.pair (.int .i64) (.unit)))) (.own .fr)), (0, .val (.int .i64) .fr), (0, .val (.bool) .fr), (0, .val (.sl 25 (.pair (.int .i64) (.pair (.int .i64) (.unit)))) (.own .fr))], 17⟩)], impl_Angle_orbit_l0⟩
noncomputable def z30 : Spec := ⟨[.v (.pair (.int .i64) (.pair (.int .i64) (.unit))) .fr], (List (Int × (Int × Unit))) × Int × Bool, fun v => impl_Angle_orbit v.1, fun r => ([.v (.sl 25 (.pair (.int .i64) (.pair (.int .i64) (.unit)))) (.own .fr) r.1, .v (.int .i64) .fr r.2.1, .v (.bool) .fr r.2.2], [])⟩
noncomputable def z7n : List LSum := [za6]
noncomputable def z6j : List Row := [⟨87, [], [z2o]⟩, ⟨116, [], [ze]⟩]
theorem znv : ∀ r, r ∈ z6j → RowIs Go.Proofs.Tryz.prog r := tab_cons (zg7) (tab_cons (zbr) (tab_nil))
theorem zl6 : RoundIs (mkCtx Go.K.Link.seat z8k z6j) (sums z7n) 0 (bodyAt (loopsOf 0 za5) 0) za6 := by
  rintro ⟨a, ⟨list, _⟩⟩
  show _ = (impl_Angle_orbit_l0 (a, (list, ()))).bind fun r : (Ctl (((Int × (Int × Unit))) × (List (Int × (Int × Unit))) × Unit) ((Int × Bool × (List (Int × (Int × Unit))) × Unit) ⊕ ((List (Int × (Int × Unit))) × Int × Bool × (List (Int × (Int × Unit))) × Unit))) => some (ctlVal za6 r)
  simp only [impl_Angle_orbit_l0, kb_ite, kb_some, kb_none, kb_bind, kb_alt]
  kernel_rfl
theorem zmv : RoundsOK (mkCtx Go.K.Link.seat z8k z6j) (sums z7n) (loopsOf 0 za5) z7n := ⟨⟨rfl, rfl, zl6⟩, trivial⟩
theorem znw : ∀ v, (evFn (mkCtx Go.K.Link.seat z8k z6j) (sums z7n) 169 Go.Proofs.Tryz.f169 (encL z30.a v)).run = (z30.gen v).bind fun y => some (z30.out y) := by
  rintro ⟨a, _⟩
  show _ = (impl_Angle_orbit a).bind fun y : (List (Int × (Int × Unit))) × Int × Bool => some (z30.out y)
  simp only [impl_Angle_orbit, kb_ite, kb_some, kb_none, kb_bind, kb_alt]
  kernel_rfl
theorem zgs : FnIs Go.Proofs.Tryz.prog 169 (modeOf []) (phi [z30]) := spec_is (c := z8k) seatOK znv Go.Proofs.Tryz.func169 rfl (code := za5) rfl rfl zmv znw
noncomputable def z6s : Spec := ⟨[.v (.pair (.int .i64) (.pair (.int .i64) (.unit))) .fr], (List (Int × (Int × Unit))) × Int × Int, fun v => impl_orbitOf v.1, fun r => ([.v (.sl 25 (.pair (.int .i64) (.pair (.int .i64) (.unit)))) (.own .fr) r.1, .v (.int .i64) .fr r.2.1, .v (.int .i64) .fr r.2.2], [])⟩
noncomputable def zgi : List LSum := []
noncomputable def zfd : List Row := [⟨168, [], [z57]⟩, ⟨169, [], [z30]⟩]
theorem zrl : ∀ r, r ∈ zfd → RowIs Go.Proofs.Tryz.prog r := tab_cons (zjw) (tab_cons (zgs) (tab_nil))
theorem zqn : RoundsOK (mkCtx Go.K.Link.seat zhf zfd) (sums zgi) (loopsOf 0 zig) zgi := trivial
theorem zrm : ∀ v, (evFn (mkCtx Go.K.Link.seat zhf zfd) (sums zgi) 79 Go.Proofs.Tryz.f79 (encL z6s.a v)).run = (z6s.gen v).bind fun y => some (z6s.out y) := by
  rintro ⟨a, _⟩
  show _ = (impl_orbitOf a).bind fun y : (List (Int × (Int × Unit))) × Int × Int => some (z6s.out y)
  simp only [impl_orbitOf, kb_ite, kb_some, kb_none, kb_bind, kb_alt]
  kernel_rfl
theorem zqo : FnIs Go.Proofs.Tryz.prog 79 (modeOf []) (phi [z6s]) := spec_is (c := zhf) seatOK zrl Go.Proofs.Tryz.func79 rfl (code := zig) rfl rfl zqn zrm
noncomputable def zgt : Code := (Go.Proofs.Tryz.f236.body).getD .skip
def zfe : Cfg := ⟨236, [], [], [], [], []⟩
noncomputable def zea : Code := (Go.Proofs.Tryz.f80.body).getD .skip
def zdh : Cfg := ⟨80, [], [[0, 1, 2, 6, 7, 10, 11, 12, 21], [1, 6, 7, 21], [6]], [], [], []⟩
noncomputable def zeo : Code := (Go.Proofs.Tryz.f272.body).getD .skip
def zbs : Cfg := ⟨272, [], [], [], [], []⟩
noncomputable def zhu : Code := (Go.Proofs.Tryz.f273.body).getD .skip
def zgj : Cfg := ⟨273, [], [], [], [], []⟩
noncomputable def z5t : Spec := ⟨[.v (.pair (.int .i64) (.pair (.int .i64) (.unit))) .fr, .v (.pair (.int .i64) (.pair (.int .i64) (.unit))) .fr], Int, fun v => impl_letterOf v.1 v.2.1, fun r => ([.v (.int .u8) .fr r], [])⟩
noncomputable def zff : List LSum := []
noncomputable def zeb : List Row := []
theorem zqp : ∀ r, r ∈ zeb → RowIs Go.Proofs.Tryz.prog r := tab_nil
theorem zpn : RoundsOK (mkCtx Go.K.Link.seat zgj zeb) (sums zff) (loopsOf 0 zhu) zff := trivial
theorem zqq : ∀ v, (evFn (mkCtx Go.K.Link.seat zgj zeb) (sums zff) 273 Go.Proofs.Tryz.f273 (encL z5t.a v)).run = (z5t.gen v).bind fun y => some (z5t.out y) := by
  rintro ⟨x, ⟨t, _⟩⟩
  show _ = (impl_letterOf x t).bind fun y : Int => some (z5t.out y)
  simp only [impl_letterOf, kb_ite, kb_some, kb_none, kb_bind, kb_alt]
  kernel_rfl
theorem zpo : FnIs Go.Proofs.Tryz.prog 273 (modeOf []) (phi [z5t]) := spec_is (c := zgj) seatOK zqp Go.Proofs.Tryz.func273 rfl (code := zhu) rfl rfl zpn zqq
noncomputable def z3k : Spec := ⟨[.v (.pair (.int .i64) (.pair (.int .i64) (.unit))) .fr, .v (.ptr (.pair (.int .i64) (.pair (.int .i64) (.unit)))) .fr], Int, fun v => impl_itinerary_f1 v.1 v.2.1, fun r => ([.v (.int .u8) .fr r], [])⟩
noncomputable def zb4 : List LSum := []
noncomputable def za7 : List Row := [⟨273, [], [z5t]⟩]
theorem zmw : ∀ r, r ∈ za7 → RowIs Go.Proofs.Tryz.prog r := tab_cons (zpo) (tab_nil)
theorem zlz : RoundsOK (mkCtx Go.K.Link.seat zbs za7) (sums zb4) (loopsOf 0 zeo) zb4 := trivial
theorem zmx : ∀ v, (evFn (mkCtx Go.K.Link.seat zbs za7) (sums zb4) 272 Go.Proofs.Tryz.f272 (encL z3k.a v)).run = (z3k.gen v).bind fun y => some (z3k.out y) := by
  rintro ⟨a, ⟨t1, _⟩⟩
  show _ = (impl_itinerary_f1 a t1).bind fun y : Int => some (z3k.out y)
  simp only [impl_itinerary_f1, kb_ite, kb_some, kb_none, kb_bind, kb_alt]
  kernel_rfl
theorem zm0 : FnIs Go.Proofs.Tryz.prog 272 (modeOf []) (phi [z3k]) := spec_is (c := zbs) seatOK zmw Go.Proofs.Tryz.func272 rfl (code := zeo) rfl rfl zlz zmx
noncomputable def zec : LSum := ⟨0, ⟨[(0, .val (.sl 25 (.pair (.int .i64) (.pair (.int .i64) (.unit)))) .fr), (0, .val (.int .i64) .fr), (0, .fnl 272 [] [.arg (.v (.ptr (.pair (.int .i64) (.pair (.int .i64) (.unit)))) .fr)]), (3, .val (.ptr (.pair (.str) (.pair (.str) (.unit)))) (.own .fr)), (0, .val (.sl 5 (.int .u8)) (.own .fr)), (2, .val (.sl 25 (.pair (.int .i64) (.pair (.int .i64) (.unit)))) .fr), (0, .val (.int .i64) .fr), (0, .val (.int .i64) .fr)], 19⟩, (.exit 0, ⟨[(1, .val (.int .i64) .fr), (4, .val (.ptr (.pair (.str) (.pair (.str) (.unit)))) (.own .fr)), (0, .val (.sl 5 (.int .u8)) (.own .fr))], 24⟩), [], impl_spelled_l0⟩
noncomputable def z6t : Spec := ⟨[.v (.sl 25 (.pair (.int .i64) (.pair (.int .i64) (.unit)))) .fr, .v (.int .i64) .fr, .fn 272 [] [.v (.ptr (.pair (.int .i64) (.pair (.int .i64) (.unit)))) .fr]], ((List UInt8) × ((List UInt8) × Unit)), fun v => impl_spelled v.1 v.2.1 v.2.2.1.2.1, fun r => ([.v (.pair (.str) (.pair (.str) (.unit))) .fr r], [])⟩
noncomputable def zca : List LSum := [zec]
noncomputable def zb5 : List Row := [⟨272, [], [z3k]⟩, ⟨92, [], [z4b]⟩]
theorem zrn : ∀ r, r ∈ zb5 → RowIs (drI := drZ) Go.Proofs.Tryz.prog r := tab_cons (drI := drZ) ((weak_is zm0)) (tab_cons (drI := drZ) (ziu) (tab_nil (drI := drZ)))
theorem zou : RoundIs (mkCtx Go.K.Link.seat zdh zb5) (sums zca) 0 (bodyAt (loopsOf 0 zea) 0) zec := by
  rintro ⟨list, ⟨pre, ⟨_, ⟨letter, _⟩, ⟨t6, ⟨word', ⟨t10, ⟨t11, ⟨t12, _⟩⟩⟩⟩⟩⟩⟩⟩
  show _ = (impl_spelled_l0 (list, (pre, ((), (letter, ()), (t6, (word', (t10, (t11, (t12, ()))))))))).bind fun r : (Ctl ((List (Int × (Int × Unit))) × Int × Unit × ((Int × (Int × Unit)) × Unit) × (((List UInt8) × ((List UInt8) × Unit))) × (List Int) × (List (Int × (Int × Unit))) × Int × Int × Unit) ((Int × (((List UInt8) × ((List UInt8) × Unit))) × (List Int) × Unit))) => some (ctlVal zec r)
  simp only [impl_spelled_l0, kb_ite, kb_some, kb_none, kb_bind, kb_alt]
  kernel_rfl
theorem zqr : RoundsOK (mkCtx Go.K.Link.seat zdh zb5) (sums zca) (loopsOf 0 zea) zca := ⟨⟨rfl, rfl, zou⟩, trivial⟩
theorem zro : ∀ v, (evFn (mkCtx Go.K.Link.seat zdh zb5) (sums zca) 80 Go.Proofs.Tryz.f80 (encL z6t.a v)).run = (z6t.gen v).bind fun y => some (z6t.out y) := by
  rintro ⟨list, ⟨pre, ⟨⟨_, ⟨letter_0, _⟩⟩, _⟩⟩⟩
  show _ = (impl_spelled list pre letter_0).bind fun y : ((List UInt8) × ((List UInt8) × Unit)) => some (z6t.out y)
  simp only [impl_spelled, kb_ite, kb_some, kb_none, kb_bind, kb_alt]
  kernel_rfl
theorem zqs : FnIs (drI := drZ) Go.Proofs.Tryz.prog 80 (modeOf []) (phi [z6t]) := spec_is (drI := drZ) (c := zdh) seatOK zrn Go.Proofs.Tryz.func80 rfl (code := zea) rfl rfl zqr zro
noncomputable def z59 : Spec := ⟨[.v (.pair (.int .i64) (.pair (.int .i64) (.unit))) .fr, .v (.pair (.int .i64) (.pair (.int .i64) (.unit))) .fr], ((List UInt8) × ((List UInt8) × Unit)), fun v => impl_itinerary v.1 v.2.1, fun r => ([.v (.pair (.str) (.pair (.str) (.unit))) .fr r], [])⟩
noncomputable def zed : List LSum := []
noncomputable def zd6 : List Row := [⟨80, [], [z6t]⟩, ⟨169, [], [z30]⟩]
theorem zpp : ∀ r, r ∈ zd6 → RowIs (drI := drZ) Go.Proofs.Tryz.prog r := tab_cons (drI := drZ) (zqs) (tab_cons (drI := drZ) ((weak_is zgs)) (tab_nil (drI := drZ)))
theorem zov : RoundsOK (mkCtx Go.K.Link.seat zfe zd6) (sums zed) (loopsOf 0 zgt) zed := trivial
theorem zpq : ∀ v, (evFn (mkCtx Go.K.Link.seat zfe zd6) (sums zed) 236 Go.Proofs.Tryz.f236 (encL z59.a v)).run = (z59.gen v).bind fun y => some (z59.out y) := by
  rintro ⟨x, ⟨t, _⟩⟩
  show _ = (impl_itinerary x t).bind fun y : ((List UInt8) × ((List UInt8) × Unit)) => some (z59.out y)
  simp only [impl_itinerary, kb_ite, kb_some, kb_none, kb_bind, kb_alt]
  kernel_rfl
theorem zow : FnIs (drI := drZ) Go.Proofs.Tryz.prog 236 (modeOf []) (phi [z59]) := spec_is (drI := drZ) (c := zfe) seatOK zpp Go.Proofs.Tryz.func236 rfl (code := zgt) rfl rfl zov zpq
noncomputable def z3z : Spec := ⟨[.v (.pair (.int .i64) (.pair (.int .i64) (.unit))) .fr, .v (.pair (.int .i64) (.pair (.int .i64) (.unit))) .fr], ((List UInt8) × ((List UInt8) × Unit)) × Int, fun v => impl_ItineraryOf v.1 v.2.1, fun r => ([.v (.pair (.str) (.pair (.str) (.unit))) .fr r.1, .v (.int .i64) .fr r.2], [])⟩
noncomputable def zbt : List LSum := []
noncomputable def zb6 : List Row := [⟨79, [], [z6s]⟩, ⟨86, [], [z4m]⟩, ⟨236, [], [z59]⟩]
theorem znx : ∀ r, r ∈ zb6 → RowIs (drI := drZ) Go.Proofs.Tryz.prog r := tab_cons (drI := drZ) ((weak_is zqo)) (tab_cons (drI := drZ) ((weak_is znu)) (tab_cons (drI := drZ) (zow) (tab_nil (drI := drZ))))
theorem zmy : RoundsOK (mkCtx Go.K.Link.seat zd4 zb6) (sums zbt) (loopsOf 0 zfk) zbt := trivial
theorem zny : ∀ v, (evFn (mkCtx Go.K.Link.seat zd4 zb6) (sums zbt) 164 Go.Proofs.Tryz.f164 (encL z3z.a v)).run = (z3z.gen v).bind fun y => some (z3z.out y) := by
  rintro ⟨x, ⟨t, _⟩⟩
  show _ = (impl_ItineraryOf x t).bind fun y : ((List UInt8) × ((List UInt8) × Unit)) × Int => some (z3z.out y)
  simp only [impl_ItineraryOf, kb_ite, kb_some, kb_none, kb_bind, kb_alt]
  kernel_rfl
theorem zmz : FnIs (drI := drZ) Go.Proofs.Tryz.prog 164 (modeOf []) (phi [z3z]) := spec_is (drI := drZ) (c := zd4) seatOK znx Go.Proofs.Tryz.func164 rfl (code := zfk) rfl rfl zmy zny
noncomputable def z4n : Spec := ⟨[.v (.pair (.int .i64) (.pair (.int .i64) (.unit))) .fr], ((List UInt8) × ((List UInt8) × Unit)) × Int, fun v => impl_KneadingOf v.1, fun r => ([.v (.pair (.str) (.pair (.str) (.unit))) .fr r.1, .v (.int .i64) .fr r.2], [])⟩
noncomputable def zd7 : List LSum := []
noncomputable def zbu : List Row := [⟨164, [], [z3z]⟩]
theorem zox : ∀ r, r ∈ zbu → RowIs (drI := drZ) Go.Proofs.Tryz.prog r := tab_cons (drI := drZ) (zmz) (tab_nil (drI := drZ))
theorem znz : RoundsOK (mkCtx Go.K.Link.seat ze8 zbu) (sums zd7) (loopsOf 0 zgf) zd7 := trivial
theorem zoy : ∀ v, (evFn (mkCtx Go.K.Link.seat ze8 zbu) (sums zd7) 76 Go.Proofs.Tryz.f76 (encL z4n.a v)).run = (z4n.gen v).bind fun y => some (z4n.out y) := by
  rintro ⟨t, _⟩
  show _ = (impl_KneadingOf t).bind fun y : ((List UInt8) × ((List UInt8) × Unit)) × Int => some (z4n.out y)
  simp only [impl_KneadingOf, kb_ite, kb_some, kb_none, kb_bind, kb_alt]
  kernel_rfl
theorem zo0 : FnIs (drI := drZ) Go.Proofs.Tryz.prog 76 (modeOf []) (phi [z4n]) := spec_is (drI := drZ) (c := ze8) seatOK zox Go.Proofs.Tryz.func76 rfl (code := zgf) rfl rfl znz zoy
noncomputable def z97 : LSum := ⟨4, ⟨[(19, .val (.int .i64) .fr), (0, .val (.sl 9 (.str)) (.own .fr)), (7, .val (.sl 88 (.pair (.pair (.int .i64) (.pair (.int .i64) (.unit))) (.pair (.pair (.int .i64) (.pair (.int .i64) (.unit))) (.unit)))) (.own .fr)), (1, .val (.sl 4 (.bool)) (.own .fr)), (0, .val (.int .i64) .fr), (0, .val (.ptr (.pair (.str) (.pair (.str) (.unit)))) (.own .fr)), (0, .val (.int .i64) .fr), (0, .val (.bool) .fr), (0, .val (.int .i64) .fr)], 191⟩, (.exit 4, ⟨[(19, .val (.int .i64) .fr), (0, .val (.sl 9 (.str)) (.own .fr)), (7, .val (.sl 88 (.pair (.pair (.int .i64) (.pair (.int .i64) (.unit))) (.pair (.pair (.int .i64) (.pair (.int .i64) (.unit))) (.unit)))) (.own .fr)), (1, .val (.sl 4 (.bool)) (.own .fr)), (0, .val (.int .i64) .fr), (1, .val (.int .i64) .fr), (0, .val (.bool) .fr)], 192⟩), [], laws_FnAdmissible_l2⟩
noncomputable def z98 : LSum := ⟨2, ⟨[(19, .val (.int .i64) .fr), (0, .val (.sl 9 (.str)) (.own .fr)), (7, .val (.sl 88 (.pair (.pair (.int .i64) (.pair (.int .i64) (.unit))) (.pair (.pair (.int .i64) (.pair (.int .i64) (.unit))) (.unit)))) (.own .fr)), (1, .val (.sl 4 (.bool)) (.own .fr)), (0, .val (.int .i64) .fr)], 195⟩, (.ret, ⟨[(2, .val (.bool) .fr)], 224⟩), [(.exit 2, ⟨[(19, .val (.int .i64) .fr), (10, .val (.sl 4 (.bool)) (.own .fr))], 196⟩)], laws_FnAdmissible_l1⟩
noncomputable def z99 : LSum := ⟨6, ⟨[(19, .val (.int .i64) .fr), (10, .val (.sl 4 (.bool)) (.own .fr)), (5, .val (.int .i64) .fr)], 190⟩, (.ret, ⟨[(2, .val (.bool) .fr)], 224⟩), [(.exit 6, ⟨[], 227⟩)], laws_FnAdmissible_l3⟩
noncomputable def laws_FnAdmissible_s : Spec := ⟨[.v (.sl 5 (.int .u8)) .fr], Bool, fun v => laws_FnAdmissible v.1, fun r => ([.v (.bool) .fr r], [])⟩
noncomputable def z2b : List LSum := [z8y, z98, z97, z99]
noncomputable def z23 : List Row := [⟨7, [], [zd8]⟩, ⟨62, [], [z1w]⟩, ⟨63, [], [z2u]⟩, ⟨64, [], [z2v]⟩, ⟨65, [], [z2m]⟩, ⟨66, [], [z5o]⟩, ⟨67, [], [z5q]⟩, ⟨68, [], [z26]⟩, ⟨69, [], [z3f]⟩, ⟨70, [], [z3g]⟩, ⟨71, [], [z1q]⟩, ⟨72, [], [z2g]⟩, ⟨73, [], [z2h]⟩, ⟨74, [], [z85]⟩, ⟨75, [], [z38]⟩, ⟨76, [], [z4n]⟩]
theorem zn0 : ∀ r, r ∈ z23 → RowIs (drI := drZ) Go.Proofs.Tryz.prog r := tab_cons (drI := drZ) ((weak_is zsj)) (tab_cons (drI := drZ) ((weak_is zhx)) (tab_cons (drI := drZ) (zk7) (tab_cons (drI := drZ) ((weak_is zk9)) (tab_cons (drI := drZ) ((weak_is zg1)) (tab_cons (drI := drZ) (zpa) (tab_cons (drI := drZ) ((weak_is zph)) (tab_cons (drI := drZ) ((weak_is zj4)) (tab_cons (drI := drZ) (zll) (tab_cons (drI := drZ) ((weak_is zln)) (tab_cons (drI := drZ) ((weak_is zhn)) (tab_cons (drI := drZ) ((weak_is zji)) (tab_cons (drI := drZ) ((weak_is zjk)) (tab_cons (drI := drZ) ((weak_is zre)) (tab_cons (drI := drZ) ((weak_is zl5)) (tab_cons (drI := drZ) (zo0) (tab_nil (drI := drZ)))))))))))))))))
theorem zkk : RoundIs (mkCtx Go.K.Link.seat z2l z23) (sums z2b) 0 (bodyAt (loopsOf 0 z2e) 0) z8y := by
  rintro ⟨a, ⟨good, ⟨n, ⟨words, ⟨four, ⟨all, ⟨k, _⟩⟩⟩⟩⟩⟩⟩
  show _ = (laws_FnAdmissible_l0 (a, (good, (n, (words, (four, (all, (k, ())))))))).bind fun r : (Ctl ((((List UInt8) × ((List UInt8) × Unit))) × Bool × Int × (List (List UInt8)) × Int × Bool × Int × Unit) ((Bool × Unit) ⊕ (Bool × Int × (List (List UInt8)) × Int × Bool × Unit))) => some (ctlVal z8y r)
  simp only [laws_FnAdmissible_l0, kb_ite, kb_some, kb_none, kb_bind, kb_alt]
  kernel_rfl
theorem zkl : RoundIs (mkCtx Go.K.Link.seat z2l z23) (sums z2b) 2 (bodyAt (loopsOf 0 z2e) 1) z98 := by
  rintro ⟨n, ⟨words, ⟨pairs, ⟨met, ⟨i, _⟩⟩⟩⟩⟩
  show _ = (laws_FnAdmissible_l1 (n, (words, (pairs, (met, (i, ())))))).bind fun r : (Ctl (Int × (List (List UInt8)) × (List ((Int × (Int × Unit)) × ((Int × (Int × Unit)) × Unit))) × (List Bool) × Int × Unit) ((Bool × Unit) ⊕ (Int × (List Bool) × Unit))) => some (ctlVal z98 r)
  simp only [laws_FnAdmissible_l1, kb_ite, kb_some, kb_none, kb_bind, kb_alt]
  kernel_rfl
theorem zkm : RoundIs (mkCtx Go.K.Link.seat z2l z23) (sums z2b) 4 (bodyAt (loopsOf 0 z2e) 2) z97 := by
  rintro ⟨n, ⟨words, ⟨pairs, ⟨met, ⟨i, ⟨kneading, ⟨seven, ⟨found, ⟨k, _⟩⟩⟩⟩⟩⟩⟩⟩⟩
  show _ = (laws_FnAdmissible_l2 (n, (words, (pairs, (met, (i, (kneading, (seven, (found, (k, ())))))))))).bind fun r : (Ctl (Int × (List (List UInt8)) × (List ((Int × (Int × Unit)) × ((Int × (Int × Unit)) × Unit))) × (List Bool) × Int × (((List UInt8) × ((List UInt8) × Unit))) × Int × Bool × Int × Unit) ((Int × (List (List UInt8)) × (List ((Int × (Int × Unit)) × ((Int × (Int × Unit)) × Unit))) × (List Bool) × Int × Int × Bool × Unit))) => some (ctlVal z97 r)
  simp only [laws_FnAdmissible_l2, kb_ite, kb_some, kb_none, kb_bind, kb_alt]
  kernel_rfl
theorem zkn : RoundIs (mkCtx Go.K.Link.seat z2l z23) (sums z2b) 6 (bodyAt (loopsOf 0 z2e) 3) z99 := by
  rintro ⟨n, ⟨met, ⟨k, _⟩⟩⟩
  show _ = (laws_FnAdmissible_l3 (n, (met, (k, ())))).bind fun r : (Ctl (Int × (List Bool) × Int × Unit) ((Bool × Unit) ⊕ (Unit))) => some (ctlVal z99 r)
  simp only [laws_FnAdmissible_l3, kb_ite, kb_some, kb_none, kb_bind, kb_alt]
  kernel_rfl
theorem zm1 : RoundsOK (mkCtx Go.K.Link.seat z2l z23) (sums z2b) (loopsOf 0 z2e) z2b := ⟨⟨rfl, rfl, zkk⟩, ⟨⟨rfl, rfl, zkl⟩, ⟨⟨rfl, rfl, zkm⟩, ⟨⟨rfl, rfl, zkn⟩, trivial⟩⟩⟩⟩
theorem zn1 : ∀ v, (evFn (mkCtx Go.K.Link.seat z2l z23) (sums z2b) 6 Go.Proofs.Tryz.f6 (encL laws_FnAdmissible_s.a v)).run = (laws_FnAdmissible_s.gen v).bind fun y => some (laws_FnAdmissible_s.out y) := by
  rintro ⟨code, _⟩
  show _ = (laws_FnAdmissible code).bind fun y : Bool => some (laws_FnAdmissible_s.out y)
  simp only [laws_FnAdmissible, kb_ite, kb_some, kb_none, kb_bind, kb_alt]
  kernel_rfl
theorem laws_FnAdmissible_is : FnIs (drI := drZ) Go.Proofs.Tryz.prog 6 (modeOf []) (phi [laws_FnAdmissible_s]) := spec_is (drI := drZ) (c := z2l) seatOK zn0 Go.Proofs.Tryz.func6 rfl (code := z2e) rfl rfl zm1 zn1
end Go.K.Link
namespace Go.Proofs.YtnciaembgnoolaaGreat
open Go.K Go.K.Link Go.RowKit
theorem Tryz.own : ownKnob Tryz.prog.godebug = none := by kernel_rfl
theorem Tryz.laidOut : laidOutB Tryz.prog = true := by kernel_rfl
end Go.Proofs.YtnciaembgnoolaaGreat

