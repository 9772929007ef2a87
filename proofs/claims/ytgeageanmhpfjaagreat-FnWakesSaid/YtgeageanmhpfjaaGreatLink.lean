/- What each function of the program gives, as a plain function, with the proof that it gives it; no condition. -/
import Derived.Test.YtgeageanmhpfjaaGreatP1
import Derived.Test.YtgeageanmhpfjaaGreatS1
import Derived.Test.YtgeageanmhpfjaaGreatK3
import Derived.Test.YtgeageanmhpfjaaGreatRows
import Derived.Shelf.Lay
import Derived.Ground.SlsfProg
import Derived.Ground.NamesProg
set_option linter.all false
set_option maxRecDepth 100000
set_option maxHeartbeats 4000000
set_option linter.all false
namespace Go.Proofs
open Go.Shelf Go.RowKit
def Tryz.sortL173_ren : Go.Shelf.Ren := ⟨fun | 6 => 173 | 15 => 197 | 14 => 196 | 28 => 216 | 29 => 217 | 20 => 208 | 21 => 209 | 22 => 210 | 23 => 211 | 24 => 212 | 25 => 213 | 26 => 214 | 27 => 215 | 46 => 230 | 47 => 231 | 48 => 232 | 49 => 233 | 50 => 234 | 57 => 243 | n => n, fun | 22 => 37 | 24 => 47 | 25 => 158 | 3 => 3 | 39 => 146 | 0 => 0 | 53 => 188 | 55 => 113 | 4 => 4 | 46 => 181 | 45 => 180 | 50 => 185 | 5 => 5 | 9 => 9 | 66 => 204 | 70 => 208 | 76 => 217 | 77 => 218 | n => n, fun | n => n⟩
theorem Tryz.sortL173 : Go.Proofs.SlLaysF0.n6 Tryz.prog Tryz.sortL173_ren := {
  mixed := by kernel_rfl
  f6 := ⟨ "slices.SortFunc[[]loop.example/g01234/impl.RayPair,loop.example/g01234/impl.RayPair]", by decide, Tryz.func173.trans (congrArg some (by kernel_rfl))⟩
  f14 := ⟨ "slices.pdqsortCmpFunc[loop.example/g01234/impl.RayPair]", by decide, Tryz.func196.trans (congrArg some (by kernel_rfl))⟩
  f15 := Tryz.func197.trans (congrArg some (by kernel_rfl))
  f20 := ⟨ "slices.insertionSortCmpFunc[loop.example/g01234/impl.RayPair]", by decide, Tryz.func208.trans (congrArg some (by kernel_rfl))⟩
  f21 := ⟨ "slices.heapSortCmpFunc[loop.example/g01234/impl.RayPair]", by decide, Tryz.func209.trans (congrArg some (by kernel_rfl))⟩
  f22 := ⟨ "slices.breakPatternsCmpFunc[loop.example/g01234/impl.RayPair]", by decide, Tryz.func210.trans (congrArg some (by kernel_rfl))⟩
  f23 := ⟨ "slices.choosePivotCmpFunc[loop.example/g01234/impl.RayPair]", by decide, Tryz.func211.trans (congrArg some (by kernel_rfl))⟩
  f24 := ⟨ "slices.reverseRangeCmpFunc[loop.example/g01234/impl.RayPair]", by decide, Tryz.func212.trans (congrArg some (by kernel_rfl))⟩
  f25 := ⟨ "slices.partialInsertionSortCmpFunc[loop.example/g01234/impl.RayPair]", by decide, Tryz.func213.trans (congrArg some (by kernel_rfl))⟩
  f26 := ⟨ "slices.partitionEqualCmpFunc[loop.example/g01234/impl.RayPair]", by decide, Tryz.func214.trans (congrArg some (by kernel_rfl))⟩
  f27 := ⟨ "slices.partitionCmpFunc[loop.example/g01234/impl.RayPair]", by decide, Tryz.func215.trans (congrArg some (by kernel_rfl))⟩
  f28 := Tryz.func216.trans (congrArg some (by kernel_rfl))
  f29 := Tryz.func217.trans (congrArg some (by kernel_rfl))
  f46 := ⟨ "slices.siftDownCmpFunc[loop.example/g01234/impl.RayPair]", by decide, Tryz.func230.trans (congrArg some (by kernel_rfl))⟩
  f47 := Tryz.func231.trans (congrArg some (by kernel_rfl))
  f48 := Tryz.func232.trans (congrArg some (by kernel_rfl))
  f49 := ⟨ "slices.medianAdjacentCmpFunc[loop.example/g01234/impl.RayPair]", by decide, Tryz.func233.trans (congrArg some (by kernel_rfl))⟩
  f50 := ⟨ "slices.medianCmpFunc[loop.example/g01234/impl.RayPair]", by decide, Tryz.func234.trans (congrArg some (by kernel_rfl))⟩
  f57 := ⟨ "slices.order2CmpFunc[loop.example/g01234/impl.RayPair]", by decide, Tryz.func243.trans (congrArg some (by kernel_rfl))⟩
  t0 := Tryz.underlying0
  a0 := Tryz.isAgg0
  z0 := Tryz.sizeOf0
  v0 := Tryz.zeroValue0
  t3 := Tryz.underlying3
  a3 := Tryz.isAgg3
  z3 := Tryz.sizeOf3
  v3 := Tryz.zeroValue3
  t4 := Tryz.underlying4
  a4 := Tryz.isAgg4
  z4 := Tryz.sizeOf4
  v4 := Tryz.zeroValue4
  t5 := Tryz.underlying5
  a5 := Tryz.isAgg5
  z5 := Tryz.sizeOf5
  v5 := Tryz.zeroValue5
  t9 := Tryz.underlying9
  a9 := Tryz.isAgg9
  z9 := Tryz.sizeOf9
  v9 := Tryz.zeroValue9
  t22 := Tryz.underlying37
  a22 := Tryz.isAgg37
  z22 := Tryz.sizeOf37
  v22 := Tryz.zeroValue37
  t25 := Tryz.underlying158
  a25 := Tryz.isAgg158
  z25 := Tryz.sizeOf158
  v25 := Tryz.zeroValue158
  t39 := Tryz.underlying146
  a39 := Tryz.isAgg146
  z39 := Tryz.sizeOf146
  v39 := Tryz.zeroValue146
  t45 := Tryz.underlying180
  a45 := Tryz.isAgg180
  z45 := Tryz.sizeOf180
  v45 := Tryz.zeroValue180
  t46 := Tryz.underlying181
  a46 := Tryz.isAgg181
  z46 := Tryz.sizeOf181
  v46 := Tryz.zeroValue181
  t50 := Tryz.underlying185
  a50 := Tryz.isAgg185
  z50 := Tryz.sizeOf185
  v50 := Tryz.zeroValue185
  t53 := Tryz.underlying188
  a53 := Tryz.isAgg188
  z53 := Tryz.sizeOf188
  v53 := Tryz.zeroValue188
  t55 := Tryz.underlying113
  a55 := Tryz.isAgg113
  z55 := Tryz.sizeOf113
  v55 := Tryz.zeroValue113
  t66 := Tryz.underlying204
  a66 := Tryz.isAgg204
  z66 := Tryz.sizeOf204
  v66 := Tryz.zeroValue204
  t70 := Tryz.underlying208
  a70 := Tryz.isAgg208
  z70 := Tryz.sizeOf208
  v70 := Tryz.zeroValue208
  t76 := Tryz.underlying217
  a76 := Tryz.isAgg217
  z76 := Tryz.sizeOf217
  v76 := Tryz.zeroValue217
  t77 := Tryz.underlying218
  a77 := Tryz.isAgg218
  z77 := Tryz.sizeOf218
  v77 := Tryz.zeroValue218 }
end Go.Proofs
namespace Go.K.Link
open Go.K.Pure
def tyList : List (Nat × Ty) := [(2, .int .i64), (3, .int .i64), (4, .bool), (5, .int .u8), (6, .int .u8), (7, .pair (.int .i64) (.pair (.int .i64) (.pair (.bool) (.pair (.int .u8) (.unit))))), (8, .pair (.int .i64) (.pair (.int .i64) (.pair (.bool) (.pair (.int .u8) (.unit))))), (9, .str), (10, .str), (11, .str), (12, .int .u64), (21, .int .i32), (22, .pair (.int .i64) (.pair (.int .i64) (.unit))), (23, .pair (.int .i64) (.pair (.int .i64) (.unit))), (24, .sl 9 (.str)), (27, .pair (.int .i64) (.pair (.int .i64) (.unit))), (37, .sl 47 (.pair (.pair (.int .i64) (.pair (.int .i64) (.unit))) (.pair (.pair (.int .i64) (.pair (.int .i64) (.unit))) (.unit)))), (46, .pair (.pair (.int .i64) (.pair (.int .i64) (.unit))) (.pair (.pair (.int .i64) (.pair (.int .i64) (.unit))) (.unit))), (47, .pair (.pair (.int .i64) (.pair (.int .i64) (.unit))) (.pair (.pair (.int .i64) (.pair (.int .i64) (.unit))) (.unit))), (51, .sl 5 (.int .u8)), (61, .sl 27 (.pair (.int .i64) (.pair (.int .i64) (.unit)))), (70, .pair (.str) (.pair (.str) (.unit))), (71, .pair (.str) (.pair (.str) (.unit))), (80, .arr 2 (.str)), (81, .pair (.int .i64) (.pair (.arr 2 (.str)) (.unit))), (82, .pair (.int .i64) (.pair (.arr 2 (.str)) (.unit))), (110, .ptr (.pair (.sl 5 (.int .u8)) (.pair (.int .i64) (.pair (.int .u64) (.unit))))), (113, .int .u64), (131, .pair (.pair (.int .i64) (.pair (.int .i64) (.unit))) (.pair (.pair (.int .i64) (.pair (.int .i64) (.unit))) (.unit))), (132, .pair (.pair (.int .i64) (.pair (.int .i64) (.unit))) (.pair (.pair (.int .i64) (.pair (.int .i64) (.unit))) (.unit))), (146, .int .u64), (151, .pair (.sl 5 (.int .u8)) (.pair (.int .i64) (.pair (.int .u64) (.unit)))), (152, .pair (.sl 5 (.int .u8)) (.pair (.int .i64) (.pair (.int .u64) (.unit)))), (156, .sl 2 (.int .i64)), (173, .sl 4 (.bool)), (180, .int .i64), (188, .int .u32), (204, .int .u64), (208, .ptr (.int .i64)), (214, .ptr (.int .u8)), (217, .ptr (.int .u64)), (228, .int .u8), (229, .int .u8), (231, .int .i32), (232, .int .i32)]
def byList : List (Nat × Nat) := [(24, 16), (37, 32), (51, 1), (61, 16), (156, 8), (173, 1)]
def ftyList : List Nat := [1, 26, 28, 29, 30, 31, 33, 34, 35, 36, 39, 40, 41, 42, 44, 45, 49, 50, 52, 53, 54, 55, 56, 58, 59, 60, 63, 64, 65, 66, 68, 69, 73, 75, 76, 78, 79, 84, 85, 87, 88, 89, 90, 91, 93, 94, 95, 97, 98, 99, 100, 101, 103, 104, 105, 106, 107, 108, 109, 111, 112, 114, 115, 116, 117, 118, 119, 120, 121, 122, 123, 124, 125, 126, 128, 129, 130, 133, 134, 135, 136, 138, 139, 141, 142, 143, 144, 145, 147, 148, 149, 150, 154, 155, 157, 158, 159, 160, 161, 162, 163, 164, 165, 166, 167, 168, 169, 170, 171, 172, 174, 175, 176, 177, 178, 179, 182, 183, 184, 186, 187, 189, 191, 195, 199, 200, 201, 202, 203, 205, 206, 207, 209, 211, 213, 215, 216, 219, 221, 222, 230]
def etList : List (Nat × Nat) := [(24, 9), (37, 47), (51, 5), (61, 27), (156, 2), (173, 4)]
def fieldList : List (Nat × List Nat) := [(7, [2, 3, 4, 6]), (8, [2, 3, 4, 6]), (13, [9, 12]), (14, [9, 12]), (18, [17]), (19, [17]), (22, [2, 2]), (23, [2, 2]), (27, [2, 2]), (46, [27, 27]), (47, [27, 27]), (70, [9, 9]), (71, [9, 9]), (81, [3, 80]), (82, [3, 80]), (131, [27, 27]), (132, [27, 27]), (151, [51, 3, 113]), (152, [51, 3, 113]), (193, [192, 51]), (194, [192, 51]), (223, [17, 17, 17, 9]), (224, [17, 17, 17, 9]), (226, [225]), (227, [225]), (233, [12, 12, 188, 228, 5, 5, 229, 230, 214, 231, 232]), (234, [12, 12, 188, 228, 5, 5, 229, 230, 214, 231, 232])]
def seat : Seat := seatOf tyList byList ftyList fieldList etList
theorem seatOK : SeatOK Go.Proofs.Tryz.prog seat := seat_ok (by kernel_rfl) (by kernel_rfl) (by kernel_rfl) (by kernel_rfl)
noncomputable def laws_FnWakes_code : Code := (Go.Proofs.Tryz.f11.body).getD .skip
def laws_FnWakes_c : Cfg := ⟨11, [], [[3, 4, 5, 8, 12, 14, 18, 19, 22, 31, 89], [3, 4, 5, 8, 18, 19, 22], [2], [], [], [], [8, 18, 19, 22, 32, 33, 34, 35, 36, 37, 38, 39, 241], [8, 18, 19, 22, 32, 33, 34, 35, 37, 38], [2]], [], [], []⟩
noncomputable def laws_big_code : Code := (Go.Proofs.Tryz.f40.body).getD .skip
def laws_big_c : Cfg := ⟨40, [], [], [], [], []⟩
noncomputable def laws_big_s : Spec := ⟨[.v (.sl 5 (.int .u8)) .fr], Bool, fun v => laws_big v.1, fun r => ([.v (.bool) .fr r], [])⟩
noncomputable def laws_big_ls : List LSum := []
noncomputable def laws_big_tab : List Row := []
theorem laws_big_t : ∀ r, r ∈ laws_big_tab → RowIs Go.Proofs.Tryz.prog r := tab_nil
theorem laws_big_rs : RoundsOK (mkCtx Go.K.Link.seat laws_big_c laws_big_tab) (sums laws_big_ls) (loopsOf 0 laws_big_code) laws_big_ls := trivial
theorem laws_big_e : ∀ v, (evFn (mkCtx Go.K.Link.seat laws_big_c laws_big_tab) (sums laws_big_ls) 40 Go.Proofs.Tryz.f40 (encL laws_big_s.a v)).run = (laws_big_s.gen v).bind fun y => some (laws_big_s.out y) := by
  rintro ⟨code, _⟩
  show _ = (laws_big code).bind fun y : Bool => some (laws_big_s.out y)
  simp only [laws_big, kb_ite, kb_some, kb_none, kb_bind, kb_alt]
  kernel_rfl
theorem laws_big_is : FnIs Go.Proofs.Tryz.prog 40 (modeOf []) (phi [laws_big_s]) := spec_is (c := laws_big_c) seatOK laws_big_t Go.Proofs.Tryz.func40 rfl (code := laws_big_code) rfl rfl laws_big_rs laws_big_e
noncomputable def spec_DrawWidthOf_code : Code := (Go.Proofs.Tryz.f41.body).getD .skip
def spec_DrawWidthOf_c : Cfg := ⟨41, [], [], [], [], []⟩
noncomputable def spec_l01From_code : Code := (Go.Proofs.Tryz.f116.body).getD .skip
def spec_l01From_c : Cfg := ⟨116, [], [[0, 3, 4, 11], [3, 11], [2, 3, 11, 37]], [], [], []⟩
noncomputable def spec_l01From_l0_s : LSum := ⟨0, ⟨[(0, .val (.sl 5 (.int .u8)) .fr), (2, .val (.ptr (.pair (.sl 5 (.int .u8)) (.pair (.int .i64) (.pair (.int .u64) (.unit))))) (.own .fr)), (0, .val (.int .i64) .fr)], 33⟩, (.exit 0, ⟨[(3, .val (.ptr (.pair (.sl 5 (.int .u8)) (.pair (.int .i64) (.pair (.int .u64) (.unit))))) (.own .fr))], 34⟩), [], spec_l01From_l0⟩
noncomputable def spec_l01From_s : Spec := ⟨[.v (.sl 5 (.int .u8)) .fr], (((List Int) × (Int × (Int × Unit)))), fun v => spec_l01From v.1, fun r => ([.v (.ptr (.pair (.sl 5 (.int .u8)) (.pair (.int .i64) (.pair (.int .u64) (.unit))))) (.own .fr) r], [])⟩
noncomputable def spec_l01From_ls : List LSum := [spec_l01From_l0_s]
noncomputable def spec_l01From_tab : List Row := []
theorem spec_l01From_t : ∀ r, r ∈ spec_l01From_tab → RowIs Go.Proofs.Tryz.prog r := tab_nil
theorem spec_l01From_l0_r : RoundIs (mkCtx Go.K.Link.seat spec_l01From_c spec_l01From_tab) (sums spec_l01From_ls) 0 (bodyAt (loopsOf 0 spec_l01From_code) 0) spec_l01From_l0_s := by
  rintro ⟨code, ⟨s, ⟨i, _⟩⟩⟩
  show _ = (spec_l01From_l0 (code, (s, (i, ())))).bind fun r : (Ctl ((List Int) × (((List Int) × (Int × (Int × Unit)))) × Int × Unit) (((((List Int) × (Int × (Int × Unit)))) × Unit))) => some (ctlVal spec_l01From_l0_s r)
  simp only [spec_l01From_l0, kb_ite, kb_some, kb_none, kb_bind, kb_alt]
  kernel_rfl
theorem spec_l01From_rs : RoundsOK (mkCtx Go.K.Link.seat spec_l01From_c spec_l01From_tab) (sums spec_l01From_ls) (loopsOf 0 spec_l01From_code) spec_l01From_ls := ⟨⟨rfl, rfl, spec_l01From_l0_r⟩, trivial⟩
theorem spec_l01From_e : ∀ v, (evFn (mkCtx Go.K.Link.seat spec_l01From_c spec_l01From_tab) (sums spec_l01From_ls) 116 Go.Proofs.Tryz.f116 (encL spec_l01From_s.a v)).run = (spec_l01From_s.gen v).bind fun y => some (spec_l01From_s.out y) := by
  rintro ⟨code, _⟩
  show _ = (spec_l01From code).bind fun y : (((List Int) × (Int × (Int × Unit)))) => some (spec_l01From_s.out y)
  simp only [spec_l01From, kb_ite, kb_some, kb_none, kb_bind, kb_alt]
  kernel_rfl
theorem spec_l01From_is : FnIs Go.Proofs.Tryz.prog 116 (modeOf []) (phi [spec_l01From_s]) := spec_is (c := spec_l01From_c) seatOK spec_l01From_t Go.Proofs.Tryz.func116 rfl (code := spec_l01From_code) rfl rfl spec_l01From_rs spec_l01From_e
noncomputable def spec_l04Draw_code : Code := (Go.Proofs.Tryz.f115.body).getD .skip
def spec_l04Draw_c : Cfg := ⟨115, [.mut], [], [], [], []⟩
noncomputable def spec_l01Pick_code : Code := (Go.Proofs.Tryz.f123.body).getD .skip
def spec_l01Pick_c : Cfg := ⟨123, [.mut], [], [], [], []⟩
noncomputable def spec_l01Next_code : Code := (Go.Proofs.Tryz.f129.body).getD .skip
def spec_l01Next_c : Cfg := ⟨129, [.mut], [], [], [], []⟩
noncomputable def spec_l01Next_s : Spec := ⟨[.v (.ptr (.pair (.sl 5 (.int .u8)) (.pair (.int .i64) (.pair (.int .u64) (.unit))))) (.own .fr), .v (.int .i64) .fr], Int × (((List Int) × (Int × (Int × Unit)))), fun v => spec_l01Next v.1 v.2.1, fun r => ([.v (.int .i64) .fr r.1], [.v (.ptr (.pair (.sl 5 (.int .u8)) (.pair (.int .i64) (.pair (.int .u64) (.unit))))) (.own .fr) r.2])⟩
noncomputable def spec_l01Next_ls : List LSum := []
noncomputable def spec_l01Next_tab : List Row := []
theorem spec_l01Next_t : ∀ r, r ∈ spec_l01Next_tab → RowIs Go.Proofs.Tryz.prog r := tab_nil
theorem spec_l01Next_rs : RoundsOK (mkCtx Go.K.Link.seat spec_l01Next_c spec_l01Next_tab) (sums spec_l01Next_ls) (loopsOf 0 spec_l01Next_code) spec_l01Next_ls := trivial
theorem spec_l01Next_e : ∀ v, (evFn (mkCtx Go.K.Link.seat spec_l01Next_c spec_l01Next_tab) (sums spec_l01Next_ls) 129 Go.Proofs.Tryz.f129 (encL spec_l01Next_s.a v)).run = (spec_l01Next_s.gen v).bind fun y => some (spec_l01Next_s.out y) := by
  rintro ⟨s, ⟨n, _⟩⟩
  show _ = (spec_l01Next s n).bind fun y : Int × (((List Int) × (Int × (Int × Unit)))) => some (spec_l01Next_s.out y)
  simp only [spec_l01Next, kb_ite, kb_some, kb_none, kb_bind, kb_alt]
  kernel_rfl
theorem spec_l01Next_is : FnIs Go.Proofs.Tryz.prog 129 (modeOf [.mut]) (phi [spec_l01Next_s]) := spec_is (c := spec_l01Next_c) seatOK spec_l01Next_t Go.Proofs.Tryz.func129 rfl (code := spec_l01Next_code) rfl rfl spec_l01Next_rs spec_l01Next_e
noncomputable def spec_l01Pick_s : Spec := ⟨[.v (.ptr (.pair (.sl 5 (.int .u8)) (.pair (.int .i64) (.pair (.int .u64) (.unit))))) (.own .fr), .v (.sl 2 (.int .i64)) .fr], Int × (((List Int) × (Int × (Int × Unit)))), fun v => spec_l01Pick v.1 v.2.1, fun r => ([.v (.int .i64) .fr r.1], [.v (.ptr (.pair (.sl 5 (.int .u8)) (.pair (.int .i64) (.pair (.int .u64) (.unit))))) (.own .fr) r.2])⟩
noncomputable def spec_l01Pick_ls : List LSum := []
noncomputable def spec_l01Pick_tab : List Row := [⟨129, [.mut], [spec_l01Next_s]⟩]
theorem spec_l01Pick_t : ∀ r, r ∈ spec_l01Pick_tab → RowIs Go.Proofs.Tryz.prog r := tab_cons (spec_l01Next_is) (tab_nil)
theorem spec_l01Pick_rs : RoundsOK (mkCtx Go.K.Link.seat spec_l01Pick_c spec_l01Pick_tab) (sums spec_l01Pick_ls) (loopsOf 0 spec_l01Pick_code) spec_l01Pick_ls := trivial
theorem spec_l01Pick_e : ∀ v, (evFn (mkCtx Go.K.Link.seat spec_l01Pick_c spec_l01Pick_tab) (sums spec_l01Pick_ls) 123 Go.Proofs.Tryz.f123 (encL spec_l01Pick_s.a v)).run = (spec_l01Pick_s.gen v).bind fun y => some (spec_l01Pick_s.out y) := by
  rintro ⟨s, ⟨list, _⟩⟩
  show _ = (spec_l01Pick s list).bind fun y : Int × (((List Int) × (Int × (Int × Unit)))) => some (spec_l01Pick_s.out y)
  simp only [spec_l01Pick, kb_ite, kb_some, kb_none, kb_bind, kb_alt]
  kernel_rfl
theorem spec_l01Pick_is : FnIs Go.Proofs.Tryz.prog 123 (modeOf [.mut]) (phi [spec_l01Pick_s]) := spec_is (c := spec_l01Pick_c) seatOK spec_l01Pick_t Go.Proofs.Tryz.func123 rfl (code := spec_l01Pick_code) rfl rfl spec_l01Pick_rs spec_l01Pick_e
noncomputable def spec_l01Spoil_code : Code := (Go.Proofs.Tryz.f140.body).getD .skip
def spec_l01Spoil_c : Cfg := ⟨140, [.mut], [], [], [], []⟩
noncomputable def spec_l01Draw_code : Code := (Go.Proofs.Tryz.f180.body).getD .skip
def spec_l01Draw_c : Cfg := ⟨180, [.mut], [], [], [], []⟩
noncomputable def spec_l01Of_code : Code := (Go.Proofs.Tryz.f120.body).getD .skip
def spec_l01Of_c : Cfg := ⟨120, [], [], [], [], []⟩
noncomputable def spec_l01Divisor_code : Code := (Go.Proofs.Tryz.f158.body).getD .skip
def spec_l01Divisor_c : Cfg := ⟨158, [], [[0, 1], [0], [4]], [], [], []⟩
noncomputable def spec_l01Divisor_l0_s : LSum := ⟨0, ⟨[(0, .val (.int .i64) .fr), (0, .val (.int .i64) .fr)], 12⟩, (.exit 0, ⟨[(0, .val (.int .i64) .fr)], 13⟩), [], spec_l01Divisor_l0⟩
noncomputable def spec_l01Divisor_s : Spec := ⟨[.v (.int .i64) .fr, .v (.int .i64) .fr], Int, fun v => spec_l01Divisor v.1 v.2.1, fun r => ([.v (.int .i64) .fr r], [])⟩
noncomputable def spec_l01Divisor_ls : List LSum := [spec_l01Divisor_l0_s]
noncomputable def spec_l01Divisor_tab : List Row := []
theorem spec_l01Divisor_t : ∀ r, r ∈ spec_l01Divisor_tab → RowIs Go.Proofs.Tryz.prog r := tab_nil
theorem spec_l01Divisor_l0_r : RoundIs (mkCtx Go.K.Link.seat spec_l01Divisor_c spec_l01Divisor_tab) (sums spec_l01Divisor_ls) 0 (bodyAt (loopsOf 0 spec_l01Divisor_code) 0) spec_l01Divisor_l0_s := by
  rintro ⟨a, ⟨b, _⟩⟩
  show _ = (spec_l01Divisor_l0 (a, (b, ()))).bind fun r : (Ctl (Int × Int × Unit) ((Int × Unit))) => some (ctlVal spec_l01Divisor_l0_s r)
  simp only [spec_l01Divisor_l0, kb_ite, kb_some, kb_none, kb_bind, kb_alt]
  kernel_rfl
theorem spec_l01Divisor_rs : RoundsOK (mkCtx Go.K.Link.seat spec_l01Divisor_c spec_l01Divisor_tab) (sums spec_l01Divisor_ls) (loopsOf 0 spec_l01Divisor_code) spec_l01Divisor_ls := ⟨⟨rfl, rfl, spec_l01Divisor_l0_r⟩, trivial⟩
theorem spec_l01Divisor_e : ∀ v, (evFn (mkCtx Go.K.Link.seat spec_l01Divisor_c spec_l01Divisor_tab) (sums spec_l01Divisor_ls) 158 Go.Proofs.Tryz.f158 (encL spec_l01Divisor_s.a v)).run = (spec_l01Divisor_s.gen v).bind fun y => some (spec_l01Divisor_s.out y) := by
  rintro ⟨a, ⟨b, _⟩⟩
  show _ = (spec_l01Divisor a b).bind fun y : Int => some (spec_l01Divisor_s.out y)
  simp only [spec_l01Divisor, kb_ite, kb_some, kb_none, kb_bind, kb_alt]
  kernel_rfl
theorem spec_l01Divisor_is : FnIs Go.Proofs.Tryz.prog 158 (modeOf []) (phi [spec_l01Divisor_s]) := spec_is (c := spec_l01Divisor_c) seatOK spec_l01Divisor_t Go.Proofs.Tryz.func158 rfl (code := spec_l01Divisor_code) rfl rfl spec_l01Divisor_rs spec_l01Divisor_e
noncomputable def spec_l01Of_s : Spec := ⟨[.v (.int .i64) .fr, .v (.int .i64) .fr], (Int × (Int × Unit)), fun v => spec_l01Of v.1 v.2.1, fun r => ([.v (.pair (.int .i64) (.pair (.int .i64) (.unit))) .fr r], [])⟩
noncomputable def spec_l01Of_ls : List LSum := []
noncomputable def spec_l01Of_tab : List Row := [⟨158, [], [spec_l01Divisor_s]⟩]
theorem spec_l01Of_t : ∀ r, r ∈ spec_l01Of_tab → RowIs Go.Proofs.Tryz.prog r := tab_cons (spec_l01Divisor_is) (tab_nil)
theorem spec_l01Of_rs : RoundsOK (mkCtx Go.K.Link.seat spec_l01Of_c spec_l01Of_tab) (sums spec_l01Of_ls) (loopsOf 0 spec_l01Of_code) spec_l01Of_ls := trivial
theorem spec_l01Of_e : ∀ v, (evFn (mkCtx Go.K.Link.seat spec_l01Of_c spec_l01Of_tab) (sums spec_l01Of_ls) 120 Go.Proofs.Tryz.f120 (encL spec_l01Of_s.a v)).run = (spec_l01Of_s.gen v).bind fun y => some (spec_l01Of_s.out y) := by
  rintro ⟨num, ⟨den, _⟩⟩
  show _ = (spec_l01Of num den).bind fun y : (Int × (Int × Unit)) => some (spec_l01Of_s.out y)
  simp only [spec_l01Of, kb_ite, kb_some, kb_none, kb_bind, kb_alt]
  kernel_rfl
theorem spec_l01Of_is : FnIs Go.Proofs.Tryz.prog 120 (modeOf []) (phi [spec_l01Of_s]) := spec_is (c := spec_l01Of_c) seatOK spec_l01Of_t Go.Proofs.Tryz.func120 rfl (code := spec_l01Of_code) rfl rfl spec_l01Of_rs spec_l01Of_e
noncomputable def spec_l01Draw_s : Spec := ⟨[.v (.ptr (.pair (.sl 5 (.int .u8)) (.pair (.int .i64) (.pair (.int .u64) (.unit))))) (.own .fr)], (Int × (Int × Unit)) × (((List Int) × (Int × (Int × Unit)))), fun v => spec_l01Draw v.1, fun r => ([.v (.pair (.int .i64) (.pair (.int .i64) (.unit))) .fr r.1], [.v (.ptr (.pair (.sl 5 (.int .u8)) (.pair (.int .i64) (.pair (.int .u64) (.unit))))) (.own .fr) r.2])⟩
noncomputable def spec_l01Draw_ls : List LSum := []
noncomputable def spec_l01Draw_tab : List Row := [⟨129, [.mut], [spec_l01Next_s]⟩, ⟨120, [], [spec_l01Of_s]⟩, ⟨123, [.mut], [spec_l01Pick_s]⟩]
theorem spec_l01Draw_t : ∀ r, r ∈ spec_l01Draw_tab → RowIs Go.Proofs.Tryz.prog r := tab_cons (spec_l01Next_is) (tab_cons (spec_l01Of_is) (tab_cons (spec_l01Pick_is) (tab_nil)))
theorem spec_l01Draw_rs : RoundsOK (mkCtx Go.K.Link.seat spec_l01Draw_c spec_l01Draw_tab) (sums spec_l01Draw_ls) (loopsOf 0 spec_l01Draw_code) spec_l01Draw_ls := trivial
theorem spec_l01Draw_e : ∀ v, (evFn (mkCtx Go.K.Link.seat spec_l01Draw_c spec_l01Draw_tab) (sums spec_l01Draw_ls) 180 Go.Proofs.Tryz.f180 (encL spec_l01Draw_s.a v)).run = (spec_l01Draw_s.gen v).bind fun y => some (spec_l01Draw_s.out y) := by
  rintro ⟨s, _⟩
  show _ = (spec_l01Draw s).bind fun y : (Int × (Int × Unit)) × (((List Int) × (Int × (Int × Unit)))) => some (spec_l01Draw_s.out y)
  simp only [spec_l01Draw, kb_ite, kb_some, kb_none, kb_bind, kb_alt]
  kernel_rfl
theorem spec_l01Draw_is : FnIs Go.Proofs.Tryz.prog 180 (modeOf [.mut]) (phi [spec_l01Draw_s]) := spec_is (c := spec_l01Draw_c) seatOK spec_l01Draw_t Go.Proofs.Tryz.func180 rfl (code := spec_l01Draw_code) rfl rfl spec_l01Draw_rs spec_l01Draw_e
noncomputable def spec_l01Bad_code : Code := (Go.Proofs.Tryz.f179.body).getD .skip
def spec_l01Bad_c : Cfg := ⟨179, [.mut], [], [], [], []⟩
noncomputable def spec_l01Bad_s : Spec := ⟨[.v (.ptr (.pair (.sl 5 (.int .u8)) (.pair (.int .i64) (.pair (.int .u64) (.unit))))) (.own .fr), .v (.pair (.int .i64) (.pair (.int .i64) (.unit))) .fr], (Int × (Int × Unit)) × (((List Int) × (Int × (Int × Unit)))), fun v => spec_l01Bad v.1 v.2.1, fun r => ([.v (.pair (.int .i64) (.pair (.int .i64) (.unit))) .fr r.1], [.v (.ptr (.pair (.sl 5 (.int .u8)) (.pair (.int .i64) (.pair (.int .u64) (.unit))))) (.own .fr) r.2])⟩
noncomputable def spec_l01Bad_ls : List LSum := []
noncomputable def spec_l01Bad_tab : List Row := [⟨129, [.mut], [spec_l01Next_s]⟩, ⟨123, [.mut], [spec_l01Pick_s]⟩]
theorem spec_l01Bad_t : ∀ r, r ∈ spec_l01Bad_tab → RowIs Go.Proofs.Tryz.prog r := tab_cons (spec_l01Next_is) (tab_cons (spec_l01Pick_is) (tab_nil))
theorem spec_l01Bad_rs : RoundsOK (mkCtx Go.K.Link.seat spec_l01Bad_c spec_l01Bad_tab) (sums spec_l01Bad_ls) (loopsOf 0 spec_l01Bad_code) spec_l01Bad_ls := trivial
theorem spec_l01Bad_e : ∀ v, (evFn (mkCtx Go.K.Link.seat spec_l01Bad_c spec_l01Bad_tab) (sums spec_l01Bad_ls) 179 Go.Proofs.Tryz.f179 (encL spec_l01Bad_s.a v)).run = (spec_l01Bad_s.gen v).bind fun y => some (spec_l01Bad_s.out y) := by
  rintro ⟨s, ⟨a, _⟩⟩
  show _ = (spec_l01Bad s a).bind fun y : (Int × (Int × Unit)) × (((List Int) × (Int × (Int × Unit)))) => some (spec_l01Bad_s.out y)
  simp only [spec_l01Bad, kb_ite, kb_some, kb_none, kb_bind, kb_alt]
  kernel_rfl
theorem spec_l01Bad_is : FnIs Go.Proofs.Tryz.prog 179 (modeOf [.mut]) (phi [spec_l01Bad_s]) := spec_is (c := spec_l01Bad_c) seatOK spec_l01Bad_t Go.Proofs.Tryz.func179 rfl (code := spec_l01Bad_code) rfl rfl spec_l01Bad_rs spec_l01Bad_e
noncomputable def spec_l01Spoil_s : Spec := ⟨[.v (.ptr (.pair (.sl 5 (.int .u8)) (.pair (.int .i64) (.pair (.int .u64) (.unit))))) (.own .fr)], (Int × (Int × Unit)) × (((List Int) × (Int × (Int × Unit)))), fun v => spec_l01Spoil v.1, fun r => ([.v (.pair (.int .i64) (.pair (.int .i64) (.unit))) .fr r.1], [.v (.ptr (.pair (.sl 5 (.int .u8)) (.pair (.int .i64) (.pair (.int .u64) (.unit))))) (.own .fr) r.2])⟩
noncomputable def spec_l01Spoil_ls : List LSum := []
noncomputable def spec_l01Spoil_tab : List Row := [⟨179, [.mut], [spec_l01Bad_s]⟩, ⟨180, [.mut], [spec_l01Draw_s]⟩]
theorem spec_l01Spoil_t : ∀ r, r ∈ spec_l01Spoil_tab → RowIs Go.Proofs.Tryz.prog r := tab_cons (spec_l01Bad_is) (tab_cons (spec_l01Draw_is) (tab_nil))
theorem spec_l01Spoil_rs : RoundsOK (mkCtx Go.K.Link.seat spec_l01Spoil_c spec_l01Spoil_tab) (sums spec_l01Spoil_ls) (loopsOf 0 spec_l01Spoil_code) spec_l01Spoil_ls := trivial
theorem spec_l01Spoil_e : ∀ v, (evFn (mkCtx Go.K.Link.seat spec_l01Spoil_c spec_l01Spoil_tab) (sums spec_l01Spoil_ls) 140 Go.Proofs.Tryz.f140 (encL spec_l01Spoil_s.a v)).run = (spec_l01Spoil_s.gen v).bind fun y => some (spec_l01Spoil_s.out y) := by
  rintro ⟨s, _⟩
  show _ = (spec_l01Spoil s).bind fun y : (Int × (Int × Unit)) × (((List Int) × (Int × (Int × Unit)))) => some (spec_l01Spoil_s.out y)
  simp only [spec_l01Spoil, kb_ite, kb_some, kb_none, kb_bind, kb_alt]
  kernel_rfl
theorem spec_l01Spoil_is : FnIs Go.Proofs.Tryz.prog 140 (modeOf [.mut]) (phi [spec_l01Spoil_s]) := spec_is (c := spec_l01Spoil_c) seatOK spec_l01Spoil_t Go.Proofs.Tryz.func140 rfl (code := spec_l01Spoil_code) rfl rfl spec_l01Spoil_rs spec_l01Spoil_e
noncomputable def spec_l04Draw_s : Spec := ⟨[.v (.ptr (.pair (.sl 5 (.int .u8)) (.pair (.int .i64) (.pair (.int .u64) (.unit))))) (.own .fr)], (Int × (Int × Unit)) × (((List Int) × (Int × (Int × Unit)))), fun v => spec_l04Draw v.1, fun r => ([.v (.pair (.int .i64) (.pair (.int .i64) (.unit))) .fr r.1], [.v (.ptr (.pair (.sl 5 (.int .u8)) (.pair (.int .i64) (.pair (.int .u64) (.unit))))) (.own .fr) r.2])⟩
noncomputable def spec_l04Draw_ls : List LSum := []
noncomputable def spec_l04Draw_tab : List Row := [⟨129, [.mut], [spec_l01Next_s]⟩, ⟨120, [], [spec_l01Of_s]⟩, ⟨123, [.mut], [spec_l01Pick_s]⟩, ⟨140, [.mut], [spec_l01Spoil_s]⟩]
theorem spec_l04Draw_t : ∀ r, r ∈ spec_l04Draw_tab → RowIs Go.Proofs.Tryz.prog r := tab_cons (spec_l01Next_is) (tab_cons (spec_l01Of_is) (tab_cons (spec_l01Pick_is) (tab_cons (spec_l01Spoil_is) (tab_nil))))
theorem spec_l04Draw_rs : RoundsOK (mkCtx Go.K.Link.seat spec_l04Draw_c spec_l04Draw_tab) (sums spec_l04Draw_ls) (loopsOf 0 spec_l04Draw_code) spec_l04Draw_ls := trivial
theorem spec_l04Draw_e : ∀ v, (evFn (mkCtx Go.K.Link.seat spec_l04Draw_c spec_l04Draw_tab) (sums spec_l04Draw_ls) 115 Go.Proofs.Tryz.f115 (encL spec_l04Draw_s.a v)).run = (spec_l04Draw_s.gen v).bind fun y => some (spec_l04Draw_s.out y) := by
  rintro ⟨s, _⟩
  show _ = (spec_l04Draw s).bind fun y : (Int × (Int × Unit)) × (((List Int) × (Int × (Int × Unit)))) => some (spec_l04Draw_s.out y)
  simp only [spec_l04Draw, kb_ite, kb_some, kb_none, kb_bind, kb_alt]
  kernel_rfl
theorem spec_l04Draw_is : FnIs Go.Proofs.Tryz.prog 115 (modeOf [.mut]) (phi [spec_l04Draw_s]) := spec_is (c := spec_l04Draw_c) seatOK spec_l04Draw_t Go.Proofs.Tryz.func115 rfl (code := spec_l04Draw_code) rfl rfl spec_l04Draw_rs spec_l04Draw_e
noncomputable def spec_DrawWidthOf_s : Spec := ⟨[.v (.sl 5 (.int .u8)) .fr], (Int × (Int × Unit)), fun v => spec_DrawWidthOf v.1, fun r => ([.v (.pair (.int .i64) (.pair (.int .i64) (.unit))) .fr r], [])⟩
noncomputable def spec_DrawWidthOf_ls : List LSum := []
noncomputable def spec_DrawWidthOf_tab : List Row := [⟨115, [.mut], [spec_l04Draw_s]⟩, ⟨116, [], [spec_l01From_s]⟩]
theorem spec_DrawWidthOf_t : ∀ r, r ∈ spec_DrawWidthOf_tab → RowIs Go.Proofs.Tryz.prog r := tab_cons (spec_l04Draw_is) (tab_cons (spec_l01From_is) (tab_nil))
theorem spec_DrawWidthOf_rs : RoundsOK (mkCtx Go.K.Link.seat spec_DrawWidthOf_c spec_DrawWidthOf_tab) (sums spec_DrawWidthOf_ls) (loopsOf 0 spec_DrawWidthOf_code) spec_DrawWidthOf_ls := trivial
theorem spec_DrawWidthOf_e : ∀ v, (evFn (mkCtx Go.K.Link.seat spec_DrawWidthOf_c spec_DrawWidthOf_tab) (sums spec_DrawWidthOf_ls) 41 Go.Proofs.Tryz.f41 (encL spec_DrawWidthOf_s.a v)).run = (spec_DrawWidthOf_s.gen v).bind fun y => some (spec_DrawWidthOf_s.out y) := by
  rintro ⟨code, _⟩
  show _ = (spec_DrawWidthOf code).bind fun y : (Int × (Int × Unit)) => some (spec_DrawWidthOf_s.out y)
  simp only [spec_DrawWidthOf, kb_ite, kb_some, kb_none, kb_bind, kb_alt]
  kernel_rfl
theorem spec_DrawWidthOf_is : FnIs Go.Proofs.Tryz.prog 41 (modeOf []) (phi [spec_DrawWidthOf_s]) := spec_is (c := spec_DrawWidthOf_c) seatOK spec_DrawWidthOf_t Go.Proofs.Tryz.func41 rfl (code := spec_DrawWidthOf_code) rfl rfl spec_DrawWidthOf_rs spec_DrawWidthOf_e
noncomputable def impl_WidthOf_code : Code := (Go.Proofs.Tryz.f42.body).getD .skip
def impl_WidthOf_c : Cfg := ⟨42, [], [], [], [], []⟩
noncomputable def impl_PairOf_code : Code := (Go.Proofs.Tryz.f58.body).getD .skip
def impl_PairOf_c : Cfg := ⟨58, [], [], [], [], []⟩
noncomputable def impl_anglesCode_code : Code := (Go.Proofs.Tryz.f92.body).getD .skip
def impl_anglesCode_c : Cfg := ⟨92, [], [], [], [], []⟩
noncomputable def impl_areAll_impl_Angle_code : Code := (Go.Proofs.Tryz.f154.body).getD .skip
def impl_areAll_impl_Angle_c : Cfg := ⟨154, [], [], [], [], []⟩
noncomputable def slices_ContainsFunc__impl_Angle_impl_Angle_code : Code := (Go.Proofs.Tryz.f183.body).getD .skip
def slices_ContainsFunc__impl_Angle_impl_Angle_c : Cfg := ⟨183, [], [], [], [], []⟩
noncomputable def slices_IndexFunc__impl_Angle_impl_Angle_code : Code := (Go.Proofs.Tryz.f191.body).getD .skip
def slices_IndexFunc__impl_Angle_impl_Angle_c : Cfg := ⟨191, [], [[0, 1, 7, 8], [], [4]], [], [], []⟩
noncomputable def impl_areAll_impl_Angle_f1_code : Code := (Go.Proofs.Tryz.f184.body).getD .skip
def impl_areAll_impl_Angle_f1_c : Cfg := ⟨184, [], [], [], [], []⟩
noncomputable def impl_IsAngle_code : Code := (Go.Proofs.Tryz.f106.body).getD .skip
def impl_IsAngle_c : Cfg := ⟨106, [], [], [], [], []⟩
noncomputable def impl_within_code : Code := (Go.Proofs.Tryz.f137.body).getD .skip
def impl_within_c : Cfg := ⟨137, [], [], [], [], []⟩
noncomputable def impl_within_s : Spec := ⟨[.v (.int .i64) .fr, .v (.int .i64) .fr, .v (.int .i64) .fr], Bool, fun v => impl_within v.1 v.2.1 v.2.2.1, fun r => ([.v (.bool) .fr r], [])⟩
noncomputable def impl_within_ls : List LSum := []
noncomputable def impl_within_tab : List Row := []
theorem impl_within_t : ∀ r, r ∈ impl_within_tab → RowIs Go.Proofs.Tryz.prog r := tab_nil
theorem impl_within_rs : RoundsOK (mkCtx Go.K.Link.seat impl_within_c impl_within_tab) (sums impl_within_ls) (loopsOf 0 impl_within_code) impl_within_ls := trivial
theorem impl_within_e : ∀ v, (evFn (mkCtx Go.K.Link.seat impl_within_c impl_within_tab) (sums impl_within_ls) 137 Go.Proofs.Tryz.f137 (encL impl_within_s.a v)).run = (impl_within_s.gen v).bind fun y => some (impl_within_s.out y) := by
  rintro ⟨n, ⟨low, ⟨high, _⟩⟩⟩
  show _ = (impl_within n low high).bind fun y : Bool => some (impl_within_s.out y)
  simp only [impl_within, kb_ite, kb_some, kb_none, kb_bind, kb_alt]
  kernel_rfl
theorem impl_within_is : FnIs Go.Proofs.Tryz.prog 137 (modeOf []) (phi [impl_within_s]) := spec_is (c := impl_within_c) seatOK impl_within_t Go.Proofs.Tryz.func137 rfl (code := impl_within_code) rfl rfl impl_within_rs impl_within_e
noncomputable def impl_divisor_code : Code := (Go.Proofs.Tryz.f159.body).getD .skip
def impl_divisor_c : Cfg := ⟨159, [], [[0, 1], [0], [4]], [], [], []⟩
noncomputable def impl_divisor_l0_s : LSum := ⟨0, ⟨[(0, .val (.int .i64) .fr), (0, .val (.int .i64) .fr)], 10⟩, (.exit 0, ⟨[(0, .val (.int .i64) .fr)], 11⟩), [], impl_divisor_l0⟩
noncomputable def impl_divisor_s : Spec := ⟨[.v (.int .i64) .fr, .v (.int .i64) .fr], Int, fun v => impl_divisor v.1 v.2.1, fun r => ([.v (.int .i64) .fr r], [])⟩
noncomputable def impl_divisor_ls : List LSum := [impl_divisor_l0_s]
noncomputable def impl_divisor_tab : List Row := []
theorem impl_divisor_t : ∀ r, r ∈ impl_divisor_tab → RowIs Go.Proofs.Tryz.prog r := tab_nil
theorem impl_divisor_l0_r : RoundIs (mkCtx Go.K.Link.seat impl_divisor_c impl_divisor_tab) (sums impl_divisor_ls) 0 (bodyAt (loopsOf 0 impl_divisor_code) 0) impl_divisor_l0_s := by
  rintro ⟨a, ⟨b, _⟩⟩
  show _ = (impl_divisor_l0 (a, (b, ()))).bind fun r : (Ctl (Int × Int × Unit) ((Int × Unit))) => some (ctlVal impl_divisor_l0_s r)
  simp only [impl_divisor_l0, kb_ite, kb_some, kb_none, kb_bind, kb_alt]
  kernel_rfl
theorem impl_divisor_rs : RoundsOK (mkCtx Go.K.Link.seat impl_divisor_c impl_divisor_tab) (sums impl_divisor_ls) (loopsOf 0 impl_divisor_code) impl_divisor_ls := ⟨⟨rfl, rfl, impl_divisor_l0_r⟩, trivial⟩
theorem impl_divisor_e : ∀ v, (evFn (mkCtx Go.K.Link.seat impl_divisor_c impl_divisor_tab) (sums impl_divisor_ls) 159 Go.Proofs.Tryz.f159 (encL impl_divisor_s.a v)).run = (impl_divisor_s.gen v).bind fun y => some (impl_divisor_s.out y) := by
  rintro ⟨a, ⟨b, _⟩⟩
  show _ = (impl_divisor a b).bind fun y : Int => some (impl_divisor_s.out y)
  simp only [impl_divisor, kb_ite, kb_some, kb_none, kb_bind, kb_alt]
  kernel_rfl
theorem impl_divisor_is : FnIs Go.Proofs.Tryz.prog 159 (modeOf []) (phi [impl_divisor_s]) := spec_is (c := impl_divisor_c) seatOK impl_divisor_t Go.Proofs.Tryz.func159 rfl (code := impl_divisor_code) rfl rfl impl_divisor_rs impl_divisor_e
noncomputable def impl_IsAngle_s : Spec := ⟨[.v (.pair (.int .i64) (.pair (.int .i64) (.unit))) .fr], Bool, fun v => impl_IsAngle v.1, fun r => ([.v (.bool) .fr r], [])⟩
noncomputable def impl_IsAngle_ls : List LSum := []
noncomputable def impl_IsAngle_tab : List Row := [⟨137, [], [impl_within_s]⟩, ⟨159, [], [impl_divisor_s]⟩]
theorem impl_IsAngle_t : ∀ r, r ∈ impl_IsAngle_tab → RowIs Go.Proofs.Tryz.prog r := tab_cons (impl_within_is) (tab_cons (impl_divisor_is) (tab_nil))
theorem impl_IsAngle_rs : RoundsOK (mkCtx Go.K.Link.seat impl_IsAngle_c impl_IsAngle_tab) (sums impl_IsAngle_ls) (loopsOf 0 impl_IsAngle_code) impl_IsAngle_ls := trivial
theorem impl_IsAngle_e : ∀ v, (evFn (mkCtx Go.K.Link.seat impl_IsAngle_c impl_IsAngle_tab) (sums impl_IsAngle_ls) 106 Go.Proofs.Tryz.f106 (encL impl_IsAngle_s.a v)).run = (impl_IsAngle_s.gen v).bind fun y => some (impl_IsAngle_s.out y) := by
  rintro ⟨a, _⟩
  show _ = (impl_IsAngle a).bind fun y : Bool => some (impl_IsAngle_s.out y)
  simp only [impl_IsAngle, kb_ite, kb_some, kb_none, kb_bind, kb_alt]
  kernel_rfl
theorem impl_IsAngle_is : FnIs Go.Proofs.Tryz.prog 106 (modeOf []) (phi [impl_IsAngle_s]) := spec_is (c := impl_IsAngle_c) seatOK impl_IsAngle_t Go.Proofs.Tryz.func106 rfl (code := impl_IsAngle_code) rfl rfl impl_IsAngle_rs impl_IsAngle_e
noncomputable def impl_areAll_impl_Angle_f1_s : Spec := ⟨[.v (.pair (.int .i64) (.pair (.int .i64) (.unit))) .fr, .pfn 106 [] []], Bool, fun v => impl_areAll_impl_Angle_f1 v.1, fun r => ([.v (.bool) .fr r], [])⟩
noncomputable def impl_areAll_impl_Angle_f1_ls : List LSum := []
noncomputable def impl_areAll_impl_Angle_f1_tab : List Row := [⟨106, [], [impl_IsAngle_s]⟩]
theorem impl_areAll_impl_Angle_f1_t : ∀ r, r ∈ impl_areAll_impl_Angle_f1_tab → RowIs Go.Proofs.Tryz.prog r := tab_cons (impl_IsAngle_is) (tab_nil)
theorem impl_areAll_impl_Angle_f1_rs : RoundsOK (mkCtx Go.K.Link.seat impl_areAll_impl_Angle_f1_c impl_areAll_impl_Angle_f1_tab) (sums impl_areAll_impl_Angle_f1_ls) (loopsOf 0 impl_areAll_impl_Angle_f1_code) impl_areAll_impl_Angle_f1_ls := trivial
theorem impl_areAll_impl_Angle_f1_e : ∀ v, (evFn (mkCtx Go.K.Link.seat impl_areAll_impl_Angle_f1_c impl_areAll_impl_Angle_f1_tab) (sums impl_areAll_impl_Angle_f1_ls) 184 Go.Proofs.Tryz.f184 (encL impl_areAll_impl_Angle_f1_s.a v)).run = (impl_areAll_impl_Angle_f1_s.gen v).bind fun y => some (impl_areAll_impl_Angle_f1_s.out y) := by
  rintro ⟨x, ⟨⟨_, _⟩, _⟩⟩
  show _ = (impl_areAll_impl_Angle_f1 x).bind fun y : Bool => some (impl_areAll_impl_Angle_f1_s.out y)
  simp only [impl_areAll_impl_Angle_f1, kb_ite, kb_some, kb_none, kb_bind, kb_alt]
  kernel_rfl
theorem impl_areAll_impl_Angle_f1_is : FnIs Go.Proofs.Tryz.prog 184 (modeOf []) (phi [impl_areAll_impl_Angle_f1_s]) := spec_is (c := impl_areAll_impl_Angle_f1_c) seatOK impl_areAll_impl_Angle_f1_t Go.Proofs.Tryz.func184 rfl (code := impl_areAll_impl_Angle_f1_code) rfl rfl impl_areAll_impl_Angle_f1_rs impl_areAll_impl_Angle_f1_e
noncomputable def slices_IndexFunc__impl_Angle_impl_Angle_l0_s : LSum := ⟨0, ⟨[(0, .val (.sl 27 (.pair (.int .i64) (.pair (.int .i64) (.unit)))) .fr), (0, .fnl 184 [] [.arg (.pfn 106 [] [])]), (5, .val (.int .i64) .fr), (0, .val (.int .i64) .fr)], 10⟩, (.ret, ⟨[(4, .val (.int .i64) .fr)], 14⟩), [(.exit 0, ⟨[], 19⟩)], slices_IndexFunc__impl_Angle_impl_Angle_l0⟩
noncomputable def slices_IndexFunc__impl_Angle_impl_Angle_s : Spec := ⟨[.v (.sl 27 (.pair (.int .i64) (.pair (.int .i64) (.unit)))) .fr, .fn 184 [] [.pfn 106 [] []]], Int, fun v => slices_IndexFunc__impl_Angle_impl_Angle v.1, fun r => ([.v (.int .i64) .fr r], [])⟩
noncomputable def slices_IndexFunc__impl_Angle_impl_Angle_ls : List LSum := [slices_IndexFunc__impl_Angle_impl_Angle_l0_s]
noncomputable def slices_IndexFunc__impl_Angle_impl_Angle_tab : List Row := [⟨184, [], [impl_areAll_impl_Angle_f1_s]⟩]
theorem slices_IndexFunc__impl_Angle_impl_Angle_t : ∀ r, r ∈ slices_IndexFunc__impl_Angle_impl_Angle_tab → RowIs Go.Proofs.Tryz.prog r := tab_cons (impl_areAll_impl_Angle_f1_is) (tab_nil)
theorem slices_IndexFunc__impl_Angle_impl_Angle_l0_r : RoundIs (mkCtx Go.K.Link.seat slices_IndexFunc__impl_Angle_impl_Angle_c slices_IndexFunc__impl_Angle_impl_Angle_tab) (sums slices_IndexFunc__impl_Angle_impl_Angle_ls) 0 (bodyAt (loopsOf 0 slices_IndexFunc__impl_Angle_impl_Angle_code) 0) slices_IndexFunc__impl_Angle_impl_Angle_l0_s := by
  rintro ⟨s, ⟨_, ⟨⟨_, _⟩, _⟩, ⟨t7, ⟨t8, _⟩⟩⟩⟩
  show _ = (slices_IndexFunc__impl_Angle_impl_Angle_l0 (s, ((), (((), ()), ()), (t7, (t8, ()))))).bind fun r : (Ctl ((List (Int × (Int × Unit))) × Unit × ((Unit × Unit) × Unit) × Int × Int × Unit) ((Int × Unit) ⊕ (Unit))) => some (ctlVal slices_IndexFunc__impl_Angle_impl_Angle_l0_s r)
  simp only [slices_IndexFunc__impl_Angle_impl_Angle_l0, kb_ite, kb_some, kb_none, kb_bind, kb_alt]
  kernel_rfl
theorem slices_IndexFunc__impl_Angle_impl_Angle_rs : RoundsOK (mkCtx Go.K.Link.seat slices_IndexFunc__impl_Angle_impl_Angle_c slices_IndexFunc__impl_Angle_impl_Angle_tab) (sums slices_IndexFunc__impl_Angle_impl_Angle_ls) (loopsOf 0 slices_IndexFunc__impl_Angle_impl_Angle_code) slices_IndexFunc__impl_Angle_impl_Angle_ls := ⟨⟨rfl, rfl, slices_IndexFunc__impl_Angle_impl_Angle_l0_r⟩, trivial⟩
theorem slices_IndexFunc__impl_Angle_impl_Angle_e : ∀ v, (evFn (mkCtx Go.K.Link.seat slices_IndexFunc__impl_Angle_impl_Angle_c slices_IndexFunc__impl_Angle_impl_Angle_tab) (sums slices_IndexFunc__impl_Angle_impl_Angle_ls) 191 Go.Proofs.Tryz.f191 (encL slices_IndexFunc__impl_Angle_impl_Angle_s.a v)).run = (slices_IndexFunc__impl_Angle_impl_Angle_s.gen v).bind fun y => some (slices_IndexFunc__impl_Angle_impl_Angle_s.out y) := by
  rintro ⟨s, ⟨⟨_, ⟨⟨_, _⟩, _⟩⟩, _⟩⟩
  show _ = (slices_IndexFunc__impl_Angle_impl_Angle s).bind fun y : Int => some (slices_IndexFunc__impl_Angle_impl_Angle_s.out y)
  simp only [slices_IndexFunc__impl_Angle_impl_Angle, kb_ite, kb_some, kb_none, kb_bind, kb_alt]
  kernel_rfl
theorem slices_IndexFunc__impl_Angle_impl_Angle_is : FnIs Go.Proofs.Tryz.prog 191 (modeOf []) (phi [slices_IndexFunc__impl_Angle_impl_Angle_s]) := spec_is (c := slices_IndexFunc__impl_Angle_impl_Angle_c) seatOK slices_IndexFunc__impl_Angle_impl_Angle_t Go.Proofs.Tryz.func191 rfl (code := slices_IndexFunc__impl_Angle_impl_Angle_code) rfl rfl slices_IndexFunc__impl_Angle_impl_Angle_rs slices_IndexFunc__impl_Angle_impl_Angle_e
noncomputable def slices_ContainsFunc__impl_Angle_impl_Angle_s : Spec := ⟨[.v (.sl 27 (.pair (.int .i64) (.pair (.int .i64) (.unit)))) .fr, .fn 184 [] [.pfn 106 [] []]], Bool, fun v => slices_ContainsFunc__impl_Angle_impl_Angle v.1, fun r => ([.v (.bool) .fr r], [])⟩
noncomputable def slices_ContainsFunc__impl_Angle_impl_Angle_ls : List LSum := []
noncomputable def slices_ContainsFunc__impl_Angle_impl_Angle_tab : List Row := [⟨191, [], [slices_IndexFunc__impl_Angle_impl_Angle_s]⟩]
theorem slices_ContainsFunc__impl_Angle_impl_Angle_t : ∀ r, r ∈ slices_ContainsFunc__impl_Angle_impl_Angle_tab → RowIs Go.Proofs.Tryz.prog r := tab_cons (slices_IndexFunc__impl_Angle_impl_Angle_is) (tab_nil)
theorem slices_ContainsFunc__impl_Angle_impl_Angle_rs : RoundsOK (mkCtx Go.K.Link.seat slices_ContainsFunc__impl_Angle_impl_Angle_c slices_ContainsFunc__impl_Angle_impl_Angle_tab) (sums slices_ContainsFunc__impl_Angle_impl_Angle_ls) (loopsOf 0 slices_ContainsFunc__impl_Angle_impl_Angle_code) slices_ContainsFunc__impl_Angle_impl_Angle_ls := trivial
theorem slices_ContainsFunc__impl_Angle_impl_Angle_e : ∀ v, (evFn (mkCtx Go.K.Link.seat slices_ContainsFunc__impl_Angle_impl_Angle_c slices_ContainsFunc__impl_Angle_impl_Angle_tab) (sums slices_ContainsFunc__impl_Angle_impl_Angle_ls) 183 Go.Proofs.Tryz.f183 (encL slices_ContainsFunc__impl_Angle_impl_Angle_s.a v)).run = (slices_ContainsFunc__impl_Angle_impl_Angle_s.gen v).bind fun y => some (slices_ContainsFunc__impl_Angle_impl_Angle_s.out y) := by
  rintro ⟨s, ⟨⟨_, ⟨⟨_, _⟩, _⟩⟩, _⟩⟩
  show _ = (slices_ContainsFunc__impl_Angle_impl_Angle s).bind fun y : Bool => some (slices_ContainsFunc__impl_Angle_impl_Angle_s.out y)
  simp only [slices_ContainsFunc__impl_Angle_impl_Angle, kb_ite, kb_some, kb_none, kb_bind, kb_alt]
  kernel_rfl
theorem slices_ContainsFunc__impl_Angle_impl_Angle_is : FnIs Go.Proofs.Tryz.prog 183 (modeOf []) (phi [slices_ContainsFunc__impl_Angle_impl_Angle_s]) := spec_is (c := slices_ContainsFunc__impl_Angle_impl_Angle_c) seatOK slices_ContainsFunc__impl_Angle_impl_Angle_t Go.Proofs.Tryz.func183 rfl (code := slices_ContainsFunc__impl_Angle_impl_Angle_code) rfl rfl slices_ContainsFunc__impl_Angle_impl_Angle_rs slices_ContainsFunc__impl_Angle_impl_Angle_e
noncomputable def impl_areAll_impl_Angle_s : Spec := ⟨[.v (.sl 27 (.pair (.int .i64) (.pair (.int .i64) (.unit)))) .fr, .fn 106 [] []], Bool, fun v => impl_areAll_impl_Angle v.1, fun r => ([.v (.bool) .fr r], [])⟩
noncomputable def impl_areAll_impl_Angle_ls : List LSum := []
noncomputable def impl_areAll_impl_Angle_tab : List Row := [⟨183, [], [slices_ContainsFunc__impl_Angle_impl_Angle_s]⟩]
theorem impl_areAll_impl_Angle_t : ∀ r, r ∈ impl_areAll_impl_Angle_tab → RowIs Go.Proofs.Tryz.prog r := tab_cons (slices_ContainsFunc__impl_Angle_impl_Angle_is) (tab_nil)
theorem impl_areAll_impl_Angle_rs : RoundsOK (mkCtx Go.K.Link.seat impl_areAll_impl_Angle_c impl_areAll_impl_Angle_tab) (sums impl_areAll_impl_Angle_ls) (loopsOf 0 impl_areAll_impl_Angle_code) impl_areAll_impl_Angle_ls := trivial
theorem impl_areAll_impl_Angle_e : ∀ v, (evFn (mkCtx Go.K.Link.seat impl_areAll_impl_Angle_c impl_areAll_impl_Angle_tab) (sums impl_areAll_impl_Angle_ls) 154 Go.Proofs.Tryz.f154 (encL impl_areAll_impl_Angle_s.a v)).run = (impl_areAll_impl_Angle_s.gen v).bind fun y => some (impl_areAll_impl_Angle_s.out y) := by
  rintro ⟨list, ⟨⟨_, _⟩, _⟩⟩
  show _ = (impl_areAll_impl_Angle list).bind fun y : Bool => some (impl_areAll_impl_Angle_s.out y)
  simp only [impl_areAll_impl_Angle, kb_ite, kb_some, kb_none, kb_bind, kb_alt]
  kernel_rfl
theorem impl_areAll_impl_Angle_is : FnIs Go.Proofs.Tryz.prog 154 (modeOf []) (phi [impl_areAll_impl_Angle_s]) := spec_is (c := impl_areAll_impl_Angle_c) seatOK impl_areAll_impl_Angle_t Go.Proofs.Tryz.func154 rfl (code := impl_areAll_impl_Angle_code) rfl rfl impl_areAll_impl_Angle_rs impl_areAll_impl_Angle_e
noncomputable def impl_anglesCode_s : Spec := ⟨[.v (.sl 27 (.pair (.int .i64) (.pair (.int .i64) (.unit)))) .fr], Int, fun v => impl_anglesCode v.1, fun r => ([.v (.int .i64) .fr r], [])⟩
noncomputable def impl_anglesCode_ls : List LSum := []
noncomputable def impl_anglesCode_tab : List Row := [⟨154, [], [impl_areAll_impl_Angle_s]⟩]
theorem impl_anglesCode_t : ∀ r, r ∈ impl_anglesCode_tab → RowIs Go.Proofs.Tryz.prog r := tab_cons (impl_areAll_impl_Angle_is) (tab_nil)
theorem impl_anglesCode_rs : RoundsOK (mkCtx Go.K.Link.seat impl_anglesCode_c impl_anglesCode_tab) (sums impl_anglesCode_ls) (loopsOf 0 impl_anglesCode_code) impl_anglesCode_ls := trivial
theorem impl_anglesCode_e : ∀ v, (evFn (mkCtx Go.K.Link.seat impl_anglesCode_c impl_anglesCode_tab) (sums impl_anglesCode_ls) 92 Go.Proofs.Tryz.f92 (encL impl_anglesCode_s.a v)).run = (impl_anglesCode_s.gen v).bind fun y => some (impl_anglesCode_s.out y) := by
  rintro ⟨list, _⟩
  show _ = (impl_anglesCode list).bind fun y : Int => some (impl_anglesCode_s.out y)
  simp only [impl_anglesCode, kb_ite, kb_some, kb_none, kb_bind, kb_alt]
  kernel_rfl
theorem impl_anglesCode_is : FnIs Go.Proofs.Tryz.prog 92 (modeOf []) (phi [impl_anglesCode_s]) := spec_is (c := impl_anglesCode_c) seatOK impl_anglesCode_t Go.Proofs.Tryz.func92 rfl (code := impl_anglesCode_code) rfl rfl impl_anglesCode_rs impl_anglesCode_e
noncomputable def impl_periodOf_code : Code := (Go.Proofs.Tryz.f93.body).getD .skip
def impl_periodOf_c : Cfg := ⟨93, [], [[1, 3, 4], [], [2]], [], [], []⟩
noncomputable def impl_Angle_double_code : Code := (Go.Proofs.Tryz.f155.body).getD .skip
def impl_Angle_double_c : Cfg := ⟨155, [], [], [], [], []⟩
noncomputable def impl_angle_code : Code := (Go.Proofs.Tryz.f164.body).getD .skip
def impl_angle_c : Cfg := ⟨164, [], [], [], [], []⟩
noncomputable def impl_angle_s : Spec := ⟨[.v (.int .i64) .fr, .v (.int .i64) .fr], (Int × (Int × Unit)), fun v => impl_angle v.1 v.2.1, fun r => ([.v (.pair (.int .i64) (.pair (.int .i64) (.unit))) .fr r], [])⟩
noncomputable def impl_angle_ls : List LSum := []
noncomputable def impl_angle_tab : List Row := [⟨159, [], [impl_divisor_s]⟩]
theorem impl_angle_t : ∀ r, r ∈ impl_angle_tab → RowIs Go.Proofs.Tryz.prog r := tab_cons (impl_divisor_is) (tab_nil)
theorem impl_angle_rs : RoundsOK (mkCtx Go.K.Link.seat impl_angle_c impl_angle_tab) (sums impl_angle_ls) (loopsOf 0 impl_angle_code) impl_angle_ls := trivial
theorem impl_angle_e : ∀ v, (evFn (mkCtx Go.K.Link.seat impl_angle_c impl_angle_tab) (sums impl_angle_ls) 164 Go.Proofs.Tryz.f164 (encL impl_angle_s.a v)).run = (impl_angle_s.gen v).bind fun y => some (impl_angle_s.out y) := by
  rintro ⟨num, ⟨den, _⟩⟩
  show _ = (impl_angle num den).bind fun y : (Int × (Int × Unit)) => some (impl_angle_s.out y)
  simp only [impl_angle, kb_ite, kb_some, kb_none, kb_bind, kb_alt]
  kernel_rfl
theorem impl_angle_is : FnIs Go.Proofs.Tryz.prog 164 (modeOf []) (phi [impl_angle_s]) := spec_is (c := impl_angle_c) seatOK impl_angle_t Go.Proofs.Tryz.func164 rfl (code := impl_angle_code) rfl rfl impl_angle_rs impl_angle_e
noncomputable def impl_Angle_double_s : Spec := ⟨[.v (.pair (.int .i64) (.pair (.int .i64) (.unit))) .fr], (Int × (Int × Unit)), fun v => impl_Angle_double v.1, fun r => ([.v (.pair (.int .i64) (.pair (.int .i64) (.unit))) .fr r], [])⟩
noncomputable def impl_Angle_double_ls : List LSum := []
noncomputable def impl_Angle_double_tab : List Row := [⟨164, [], [impl_angle_s]⟩]
theorem impl_Angle_double_t : ∀ r, r ∈ impl_Angle_double_tab → RowIs Go.Proofs.Tryz.prog r := tab_cons (impl_angle_is) (tab_nil)
theorem impl_Angle_double_rs : RoundsOK (mkCtx Go.K.Link.seat impl_Angle_double_c impl_Angle_double_tab) (sums impl_Angle_double_ls) (loopsOf 0 impl_Angle_double_code) impl_Angle_double_ls := trivial
theorem impl_Angle_double_e : ∀ v, (evFn (mkCtx Go.K.Link.seat impl_Angle_double_c impl_Angle_double_tab) (sums impl_Angle_double_ls) 155 Go.Proofs.Tryz.f155 (encL impl_Angle_double_s.a v)).run = (impl_Angle_double_s.gen v).bind fun y => some (impl_Angle_double_s.out y) := by
  rintro ⟨a, _⟩
  show _ = (impl_Angle_double a).bind fun y : (Int × (Int × Unit)) => some (impl_Angle_double_s.out y)
  simp only [impl_Angle_double, kb_ite, kb_some, kb_none, kb_bind, kb_alt]
  kernel_rfl
theorem impl_Angle_double_is : FnIs Go.Proofs.Tryz.prog 155 (modeOf []) (phi [impl_Angle_double_s]) := spec_is (c := impl_Angle_double_c) seatOK impl_Angle_double_t Go.Proofs.Tryz.func155 rfl (code := impl_Angle_double_code) rfl rfl impl_Angle_double_rs impl_Angle_double_e
noncomputable def impl_periodOf_l0_s : LSum := ⟨0, ⟨[(1, .val (.ptr (.pair (.int .i64) (.pair (.int .i64) (.unit)))) (.own .fr)), (1, .val (.ptr (.pair (.int .i64) (.pair (.int .i64) (.unit)))) (.own .fr)), (0, .val (.int .i64) .fr)], 11⟩, (.ret, ⟨[(2, .val (.int .i64) .fr)], 13⟩), [(.exit 0, ⟨[], 16⟩)], impl_periodOf_l0⟩
noncomputable def impl_periodOf_s : Spec := ⟨[.v (.pair (.int .i64) (.pair (.int .i64) (.unit))) .fr], Int, fun v => impl_periodOf v.1, fun r => ([.v (.int .i64) .fr r], [])⟩
noncomputable def impl_periodOf_ls : List LSum := [impl_periodOf_l0_s]
noncomputable def impl_periodOf_tab : List Row := [⟨155, [], [impl_Angle_double_s]⟩]
theorem impl_periodOf_t : ∀ r, r ∈ impl_periodOf_tab → RowIs Go.Proofs.Tryz.prog r := tab_cons (impl_Angle_double_is) (tab_nil)
theorem impl_periodOf_l0_r : RoundIs (mkCtx Go.K.Link.seat impl_periodOf_c impl_periodOf_tab) (sums impl_periodOf_ls) 0 (bodyAt (loopsOf 0 impl_periodOf_code) 0) impl_periodOf_l0_s := by
  rintro ⟨a, ⟨x, ⟨n, _⟩⟩⟩
  show _ = (impl_periodOf_l0 (a, (x, (n, ())))).bind fun r : (Ctl (((Int × (Int × Unit))) × ((Int × (Int × Unit))) × Int × Unit) ((Int × Unit) ⊕ (Unit))) => some (ctlVal impl_periodOf_l0_s r)
  simp only [impl_periodOf_l0, kb_ite, kb_some, kb_none, kb_bind, kb_alt]
  kernel_rfl
theorem impl_periodOf_rs : RoundsOK (mkCtx Go.K.Link.seat impl_periodOf_c impl_periodOf_tab) (sums impl_periodOf_ls) (loopsOf 0 impl_periodOf_code) impl_periodOf_ls := ⟨⟨rfl, rfl, impl_periodOf_l0_r⟩, trivial⟩
theorem impl_periodOf_e : ∀ v, (evFn (mkCtx Go.K.Link.seat impl_periodOf_c impl_periodOf_tab) (sums impl_periodOf_ls) 93 Go.Proofs.Tryz.f93 (encL impl_periodOf_s.a v)).run = (impl_periodOf_s.gen v).bind fun y => some (impl_periodOf_s.out y) := by
  rintro ⟨a, _⟩
  show _ = (impl_periodOf a).bind fun y : Int => some (impl_periodOf_s.out y)
  simp only [impl_periodOf, kb_ite, kb_some, kb_none, kb_bind, kb_alt]
  kernel_rfl
theorem impl_periodOf_is : FnIs Go.Proofs.Tryz.prog 93 (modeOf []) (phi [impl_periodOf_s]) := spec_is (c := impl_periodOf_c) seatOK impl_periodOf_t Go.Proofs.Tryz.func93 rfl (code := impl_periodOf_code) rfl rfl impl_periodOf_rs impl_periodOf_e
noncomputable def impl_isPeriod_code : Code := (Go.Proofs.Tryz.f94.body).getD .skip
def impl_isPeriod_c : Cfg := ⟨94, [], [], [], [], []⟩
noncomputable def impl_isPeriod_s : Spec := ⟨[.v (.int .i64) .fr], Bool, fun v => impl_isPeriod v.1, fun r => ([.v (.bool) .fr r], [])⟩
noncomputable def impl_isPeriod_ls : List LSum := []
noncomputable def impl_isPeriod_tab : List Row := [⟨137, [], [impl_within_s]⟩]
theorem impl_isPeriod_t : ∀ r, r ∈ impl_isPeriod_tab → RowIs Go.Proofs.Tryz.prog r := tab_cons (impl_within_is) (tab_nil)
theorem impl_isPeriod_rs : RoundsOK (mkCtx Go.K.Link.seat impl_isPeriod_c impl_isPeriod_tab) (sums impl_isPeriod_ls) (loopsOf 0 impl_isPeriod_code) impl_isPeriod_ls := trivial
theorem impl_isPeriod_e : ∀ v, (evFn (mkCtx Go.K.Link.seat impl_isPeriod_c impl_isPeriod_tab) (sums impl_isPeriod_ls) 94 Go.Proofs.Tryz.f94 (encL impl_isPeriod_s.a v)).run = (impl_isPeriod_s.gen v).bind fun y => some (impl_isPeriod_s.out y) := by
  rintro ⟨n, _⟩
  show _ = (impl_isPeriod n).bind fun y : Bool => some (impl_isPeriod_s.out y)
  simp only [impl_isPeriod, kb_ite, kb_some, kb_none, kb_bind, kb_alt]
  kernel_rfl
theorem impl_isPeriod_is : FnIs Go.Proofs.Tryz.prog 94 (modeOf []) (phi [impl_isPeriod_s]) := spec_is (c := impl_isPeriod_c) seatOK impl_isPeriod_t Go.Proofs.Tryz.func94 rfl (code := impl_isPeriod_code) rfl rfl impl_isPeriod_rs impl_isPeriod_e
noncomputable def impl_pairsOf_code : Code := (Go.Proofs.Tryz.f131.body).getD .skip
def impl_pairsOf_c : Cfg := ⟨131, [], [], [], [], []⟩
noncomputable def impl_anglesOfPeriod_code : Code := (Go.Proofs.Tryz.f138.body).getD .skip
def impl_anglesOfPeriod_c : Cfg := ⟨138, [], [[0, 3, 4, 10, 11, 24], [3, 24], [2, 3, 24, 26]], [], [], []⟩
noncomputable def impl_anglesOfPeriod_l0_s : LSum := ⟨0, ⟨[(0, .val (.int .i64) .fr), (2, .val (.sl 27 (.pair (.int .i64) (.pair (.int .i64) (.unit)))) (.own .fr)), (0, .val (.int .i64) .fr), (5, .val (.int .i64) .fr), (0, .val (.int .i64) .fr)], 15⟩, (.exit 0, ⟨[(3, .val (.sl 27 (.pair (.int .i64) (.pair (.int .i64) (.unit)))) (.own .fr))], 23⟩), [], impl_anglesOfPeriod_l0⟩
noncomputable def impl_anglesOfPeriod_s : Spec := ⟨[.v (.int .i64) .fr], (List (Int × (Int × Unit))), fun v => impl_anglesOfPeriod v.1, fun r => ([.v (.sl 27 (.pair (.int .i64) (.pair (.int .i64) (.unit)))) (.own .fr) r], [])⟩
noncomputable def impl_anglesOfPeriod_ls : List LSum := [impl_anglesOfPeriod_l0_s]
noncomputable def impl_anglesOfPeriod_tab : List Row := [⟨164, [], [impl_angle_s]⟩, ⟨93, [], [impl_periodOf_s]⟩]
theorem impl_anglesOfPeriod_t : ∀ r, r ∈ impl_anglesOfPeriod_tab → RowIs Go.Proofs.Tryz.prog r := tab_cons (impl_angle_is) (tab_cons (impl_periodOf_is) (tab_nil))
theorem impl_anglesOfPeriod_l0_r : RoundIs (mkCtx Go.K.Link.seat impl_anglesOfPeriod_c impl_anglesOfPeriod_tab) (sums impl_anglesOfPeriod_ls) 0 (bodyAt (loopsOf 0 impl_anglesOfPeriod_code) 0) impl_anglesOfPeriod_l0_s := by
  rintro ⟨n, ⟨out, ⟨den, ⟨t10, ⟨t11, _⟩⟩⟩⟩⟩
  show _ = (impl_anglesOfPeriod_l0 (n, (out, (den, (t10, (t11, ())))))).bind fun r : (Ctl (Int × (List (Int × (Int × Unit))) × Int × Int × Int × Unit) (((List (Int × (Int × Unit))) × Unit))) => some (ctlVal impl_anglesOfPeriod_l0_s r)
  simp only [impl_anglesOfPeriod_l0, kb_ite, kb_some, kb_none, kb_bind, kb_alt]
  kernel_rfl
theorem impl_anglesOfPeriod_rs : RoundsOK (mkCtx Go.K.Link.seat impl_anglesOfPeriod_c impl_anglesOfPeriod_tab) (sums impl_anglesOfPeriod_ls) (loopsOf 0 impl_anglesOfPeriod_code) impl_anglesOfPeriod_ls := ⟨⟨rfl, rfl, impl_anglesOfPeriod_l0_r⟩, trivial⟩
theorem impl_anglesOfPeriod_e : ∀ v, (evFn (mkCtx Go.K.Link.seat impl_anglesOfPeriod_c impl_anglesOfPeriod_tab) (sums impl_anglesOfPeriod_ls) 138 Go.Proofs.Tryz.f138 (encL impl_anglesOfPeriod_s.a v)).run = (impl_anglesOfPeriod_s.gen v).bind fun y => some (impl_anglesOfPeriod_s.out y) := by
  rintro ⟨n, _⟩
  show _ = (impl_anglesOfPeriod n).bind fun y : (List (Int × (Int × Unit))) => some (impl_anglesOfPeriod_s.out y)
  simp only [impl_anglesOfPeriod, kb_ite, kb_some, kb_none, kb_bind, kb_alt]
  kernel_rfl
theorem impl_anglesOfPeriod_is : FnIs Go.Proofs.Tryz.prog 138 (modeOf []) (phi [impl_anglesOfPeriod_s]) := spec_is (c := impl_anglesOfPeriod_c) seatOK impl_anglesOfPeriod_t Go.Proofs.Tryz.func138 rfl (code := impl_anglesOfPeriod_code) rfl rfl impl_anglesOfPeriod_rs impl_anglesOfPeriod_e
noncomputable def slices_IndexFunc__impl_Angle_impl_Angle_v2_code : Code := (Go.Proofs.Tryz.f191.body).getD .skip
def slices_IndexFunc__impl_Angle_impl_Angle_v2_c : Cfg := ⟨191, [], [[0, 1, 7, 8], [], [4]], [], [], []⟩
noncomputable def impl_pairsUpTo_f1_code : Code := (Go.Proofs.Tryz.f192.body).getD .skip
def impl_pairsUpTo_f1_c : Cfg := ⟨192, [], [], [], [], []⟩
noncomputable def impl_areAll_impl_RayPair_code : Code := (Go.Proofs.Tryz.f193.body).getD .skip
def impl_areAll_impl_RayPair_c : Cfg := ⟨193, [], [], [], [], []⟩
noncomputable def slices_ContainsFunc__impl_RayPair_impl_RayPair_code : Code := (Go.Proofs.Tryz.f206.body).getD .skip
def slices_ContainsFunc__impl_RayPair_impl_RayPair_c : Cfg := ⟨206, [], [], [], [], []⟩
noncomputable def slices_IndexFunc__impl_RayPair_impl_RayPair_code : Code := (Go.Proofs.Tryz.f133.body).getD .skip
def slices_IndexFunc__impl_RayPair_impl_RayPair_c : Cfg := ⟨133, [], [[0, 1, 7, 8], [], [4]], [], [], []⟩
noncomputable def impl_areAll_impl_RayPair_f1_code : Code := (Go.Proofs.Tryz.f207.body).getD .skip
def impl_areAll_impl_RayPair_f1_c : Cfg := ⟨207, [], [], [], [], []⟩
noncomputable def impl_pairsUpTo_f1_f1_code : Code := (Go.Proofs.Tryz.f194.body).getD .skip
def impl_pairsUpTo_f1_f1_c : Cfg := ⟨194, [], [], [], [], []⟩
noncomputable def impl_RayPair_leaf_code : Code := (Go.Proofs.Tryz.f142.body).getD .skip
def impl_RayPair_leaf_c : Cfg := ⟨142, [], [], [], [], []⟩
noncomputable def impl_RayPair_leaf_s : Spec := ⟨[.v (.pair (.pair (.int .i64) (.pair (.int .i64) (.unit))) (.pair (.pair (.int .i64) (.pair (.int .i64) (.unit))) (.unit))) .fr], ((Int × (Int × Unit)) × ((Int × (Int × Unit)) × Unit)), fun v => impl_RayPair_leaf v.1, fun r => ([.v (.pair (.pair (.int .i64) (.pair (.int .i64) (.unit))) (.pair (.pair (.int .i64) (.pair (.int .i64) (.unit))) (.unit))) .fr r], [])⟩
noncomputable def impl_RayPair_leaf_ls : List LSum := []
noncomputable def impl_RayPair_leaf_tab : List Row := []
theorem impl_RayPair_leaf_t : ∀ r, r ∈ impl_RayPair_leaf_tab → RowIs Go.Proofs.Tryz.prog r := tab_nil
theorem impl_RayPair_leaf_rs : RoundsOK (mkCtx Go.K.Link.seat impl_RayPair_leaf_c impl_RayPair_leaf_tab) (sums impl_RayPair_leaf_ls) (loopsOf 0 impl_RayPair_leaf_code) impl_RayPair_leaf_ls := trivial
theorem impl_RayPair_leaf_e : ∀ v, (evFn (mkCtx Go.K.Link.seat impl_RayPair_leaf_c impl_RayPair_leaf_tab) (sums impl_RayPair_leaf_ls) 142 Go.Proofs.Tryz.f142 (encL impl_RayPair_leaf_s.a v)).run = (impl_RayPair_leaf_s.gen v).bind fun y => some (impl_RayPair_leaf_s.out y) := by
  rintro ⟨p, _⟩
  show _ = (impl_RayPair_leaf p).bind fun y : ((Int × (Int × Unit)) × ((Int × (Int × Unit)) × Unit)) => some (impl_RayPair_leaf_s.out y)
  simp only [impl_RayPair_leaf, kb_ite, kb_some, kb_none, kb_bind, kb_alt]
  kernel_rfl
theorem impl_RayPair_leaf_is : FnIs Go.Proofs.Tryz.prog 142 (modeOf []) (phi [impl_RayPair_leaf_s]) := spec_is (c := impl_RayPair_leaf_c) seatOK impl_RayPair_leaf_t Go.Proofs.Tryz.func142 rfl (code := impl_RayPair_leaf_code) rfl rfl impl_RayPair_leaf_rs impl_RayPair_leaf_e
noncomputable def impl_Leaf_cross_code : Code := (Go.Proofs.Tryz.f143.body).getD .skip
def impl_Leaf_cross_c : Cfg := ⟨143, [], [], [], [], []⟩
noncomputable def impl_order_code : Code := (Go.Proofs.Tryz.f181.body).getD .skip
def impl_order_c : Cfg := ⟨181, [], [], [], [], []⟩
noncomputable def impl_Angle_minus_code : Code := (Go.Proofs.Tryz.f166.body).getD .skip
def impl_Angle_minus_c : Cfg := ⟨166, [], [], [], [], []⟩
noncomputable def impl_Angle_minus_s : Spec := ⟨[.v (.pair (.int .i64) (.pair (.int .i64) (.unit))) .fr, .v (.pair (.int .i64) (.pair (.int .i64) (.unit))) .fr], (Int × (Int × Unit)), fun v => impl_Angle_minus v.1 v.2.1, fun r => ([.v (.pair (.int .i64) (.pair (.int .i64) (.unit))) .fr r], [])⟩
noncomputable def impl_Angle_minus_ls : List LSum := []
noncomputable def impl_Angle_minus_tab : List Row := [⟨164, [], [impl_angle_s]⟩]
theorem impl_Angle_minus_t : ∀ r, r ∈ impl_Angle_minus_tab → RowIs Go.Proofs.Tryz.prog r := tab_cons (impl_angle_is) (tab_nil)
theorem impl_Angle_minus_rs : RoundsOK (mkCtx Go.K.Link.seat impl_Angle_minus_c impl_Angle_minus_tab) (sums impl_Angle_minus_ls) (loopsOf 0 impl_Angle_minus_code) impl_Angle_minus_ls := trivial
theorem impl_Angle_minus_e : ∀ v, (evFn (mkCtx Go.K.Link.seat impl_Angle_minus_c impl_Angle_minus_tab) (sums impl_Angle_minus_ls) 166 Go.Proofs.Tryz.f166 (encL impl_Angle_minus_s.a v)).run = (impl_Angle_minus_s.gen v).bind fun y => some (impl_Angle_minus_s.out y) := by
  rintro ⟨a, ⟨b, _⟩⟩
  show _ = (impl_Angle_minus a b).bind fun y : (Int × (Int × Unit)) => some (impl_Angle_minus_s.out y)
  simp only [impl_Angle_minus, kb_ite, kb_some, kb_none, kb_bind, kb_alt]
  kernel_rfl
theorem impl_Angle_minus_is : FnIs Go.Proofs.Tryz.prog 166 (modeOf []) (phi [impl_Angle_minus_s]) := spec_is (c := impl_Angle_minus_c) seatOK impl_Angle_minus_t Go.Proofs.Tryz.func166 rfl (code := impl_Angle_minus_code) rfl rfl impl_Angle_minus_rs impl_Angle_minus_e
noncomputable def impl_Angle_compare_code : Code := (Go.Proofs.Tryz.f114.body).getD .skip
def impl_Angle_compare_c : Cfg := ⟨114, [], [], [], [], []⟩
noncomputable def cmp_Compare_int64_code : Code := (Go.Proofs.Tryz.f165.body).getD .skip
def cmp_Compare_int64_c : Cfg := ⟨165, [], [], [], [], []⟩
noncomputable def cmp_isNaN_int64_code : Code := (Go.Proofs.Tryz.f189.body).getD .skip
def cmp_isNaN_int64_c : Cfg := ⟨189, [], [], [], [], []⟩
noncomputable def cmp_isNaN_int64_s : Spec := ⟨[.v (.int .i64) .fr], Bool, fun v => cmp_isNaN_int64 v.1, fun r => ([.v (.bool) .fr r], [])⟩
noncomputable def cmp_isNaN_int64_ls : List LSum := []
noncomputable def cmp_isNaN_int64_tab : List Row := []
theorem cmp_isNaN_int64_t : ∀ r, r ∈ cmp_isNaN_int64_tab → RowIs Go.Proofs.Tryz.prog r := tab_nil
theorem cmp_isNaN_int64_rs : RoundsOK (mkCtx Go.K.Link.seat cmp_isNaN_int64_c cmp_isNaN_int64_tab) (sums cmp_isNaN_int64_ls) (loopsOf 0 cmp_isNaN_int64_code) cmp_isNaN_int64_ls := trivial
theorem cmp_isNaN_int64_e : ∀ v, (evFn (mkCtx Go.K.Link.seat cmp_isNaN_int64_c cmp_isNaN_int64_tab) (sums cmp_isNaN_int64_ls) 189 Go.Proofs.Tryz.f189 (encL cmp_isNaN_int64_s.a v)).run = (cmp_isNaN_int64_s.gen v).bind fun y => some (cmp_isNaN_int64_s.out y) := by
  rintro ⟨x, _⟩
  show _ = (cmp_isNaN_int64 x).bind fun y : Bool => some (cmp_isNaN_int64_s.out y)
  simp only [cmp_isNaN_int64, kb_ite, kb_some, kb_none, kb_bind, kb_alt]
  kernel_rfl
theorem cmp_isNaN_int64_is : FnIs Go.Proofs.Tryz.prog 189 (modeOf []) (phi [cmp_isNaN_int64_s]) := spec_is (c := cmp_isNaN_int64_c) seatOK cmp_isNaN_int64_t Go.Proofs.Tryz.func189 rfl (code := cmp_isNaN_int64_code) rfl rfl cmp_isNaN_int64_rs cmp_isNaN_int64_e
noncomputable def cmp_Compare_int64_s : Spec := ⟨[.v (.int .i64) .fr, .v (.int .i64) .fr], Int, fun v => cmp_Compare_int64 v.1 v.2.1, fun r => ([.v (.int .i64) .fr r], [])⟩
noncomputable def cmp_Compare_int64_ls : List LSum := []
noncomputable def cmp_Compare_int64_tab : List Row := [⟨189, [], [cmp_isNaN_int64_s]⟩]
theorem cmp_Compare_int64_t : ∀ r, r ∈ cmp_Compare_int64_tab → RowIs Go.Proofs.Tryz.prog r := tab_cons (cmp_isNaN_int64_is) (tab_nil)
theorem cmp_Compare_int64_rs : RoundsOK (mkCtx Go.K.Link.seat cmp_Compare_int64_c cmp_Compare_int64_tab) (sums cmp_Compare_int64_ls) (loopsOf 0 cmp_Compare_int64_code) cmp_Compare_int64_ls := trivial
theorem cmp_Compare_int64_e : ∀ v, (evFn (mkCtx Go.K.Link.seat cmp_Compare_int64_c cmp_Compare_int64_tab) (sums cmp_Compare_int64_ls) 165 Go.Proofs.Tryz.f165 (encL cmp_Compare_int64_s.a v)).run = (cmp_Compare_int64_s.gen v).bind fun y => some (cmp_Compare_int64_s.out y) := by
  rintro ⟨x, ⟨y, _⟩⟩
  show _ = (cmp_Compare_int64 x y).bind fun y : Int => some (cmp_Compare_int64_s.out y)
  simp only [cmp_Compare_int64, kb_ite, kb_some, kb_none, kb_bind, kb_alt]
  kernel_rfl
theorem cmp_Compare_int64_is : FnIs Go.Proofs.Tryz.prog 165 (modeOf []) (phi [cmp_Compare_int64_s]) := spec_is (c := cmp_Compare_int64_c) seatOK cmp_Compare_int64_t Go.Proofs.Tryz.func165 rfl (code := cmp_Compare_int64_code) rfl rfl cmp_Compare_int64_rs cmp_Compare_int64_e
noncomputable def impl_Angle_compare_s : Spec := ⟨[.v (.pair (.int .i64) (.pair (.int .i64) (.unit))) .fr, .v (.pair (.int .i64) (.pair (.int .i64) (.unit))) .fr], Int, fun v => impl_Angle_compare v.1 v.2.1, fun r => ([.v (.int .i64) .fr r], [])⟩
noncomputable def impl_Angle_compare_ls : List LSum := []
noncomputable def impl_Angle_compare_tab : List Row := [⟨165, [], [cmp_Compare_int64_s]⟩]
theorem impl_Angle_compare_t : ∀ r, r ∈ impl_Angle_compare_tab → RowIs Go.Proofs.Tryz.prog r := tab_cons (cmp_Compare_int64_is) (tab_nil)
theorem impl_Angle_compare_rs : RoundsOK (mkCtx Go.K.Link.seat impl_Angle_compare_c impl_Angle_compare_tab) (sums impl_Angle_compare_ls) (loopsOf 0 impl_Angle_compare_code) impl_Angle_compare_ls := trivial
theorem impl_Angle_compare_e : ∀ v, (evFn (mkCtx Go.K.Link.seat impl_Angle_compare_c impl_Angle_compare_tab) (sums impl_Angle_compare_ls) 114 Go.Proofs.Tryz.f114 (encL impl_Angle_compare_s.a v)).run = (impl_Angle_compare_s.gen v).bind fun y => some (impl_Angle_compare_s.out y) := by
  rintro ⟨a, ⟨b, _⟩⟩
  show _ = (impl_Angle_compare a b).bind fun y : Int => some (impl_Angle_compare_s.out y)
  simp only [impl_Angle_compare, kb_ite, kb_some, kb_none, kb_bind, kb_alt]
  kernel_rfl
theorem impl_Angle_compare_is : FnIs Go.Proofs.Tryz.prog 114 (modeOf []) (phi [impl_Angle_compare_s]) := spec_is (c := impl_Angle_compare_c) seatOK impl_Angle_compare_t Go.Proofs.Tryz.func114 rfl (code := impl_Angle_compare_code) rfl rfl impl_Angle_compare_rs impl_Angle_compare_e
noncomputable def impl_order_s : Spec := ⟨[.v (.pair (.int .i64) (.pair (.int .i64) (.unit))) .fr, .v (.pair (.int .i64) (.pair (.int .i64) (.unit))) .fr, .v (.pair (.int .i64) (.pair (.int .i64) (.unit))) .fr], Int, fun v => impl_order v.1 v.2.1 v.2.2.1, fun r => ([.v (.int .i64) .fr r], [])⟩
noncomputable def impl_order_ls : List LSum := []
noncomputable def impl_order_tab : List Row := [⟨166, [], [impl_Angle_minus_s]⟩, ⟨114, [], [impl_Angle_compare_s]⟩]
theorem impl_order_t : ∀ r, r ∈ impl_order_tab → RowIs Go.Proofs.Tryz.prog r := tab_cons (impl_Angle_minus_is) (tab_cons (impl_Angle_compare_is) (tab_nil))
theorem impl_order_rs : RoundsOK (mkCtx Go.K.Link.seat impl_order_c impl_order_tab) (sums impl_order_ls) (loopsOf 0 impl_order_code) impl_order_ls := trivial
theorem impl_order_e : ∀ v, (evFn (mkCtx Go.K.Link.seat impl_order_c impl_order_tab) (sums impl_order_ls) 181 Go.Proofs.Tryz.f181 (encL impl_order_s.a v)).run = (impl_order_s.gen v).bind fun y => some (impl_order_s.out y) := by
  rintro ⟨a, ⟨b, ⟨c, _⟩⟩⟩
  show _ = (impl_order a b c).bind fun y : Int => some (impl_order_s.out y)
  simp only [impl_order, kb_ite, kb_some, kb_none, kb_bind, kb_alt]
  kernel_rfl
theorem impl_order_is : FnIs Go.Proofs.Tryz.prog 181 (modeOf []) (phi [impl_order_s]) := spec_is (c := impl_order_c) seatOK impl_order_t Go.Proofs.Tryz.func181 rfl (code := impl_order_code) rfl rfl impl_order_rs impl_order_e
noncomputable def impl_Leaf_cross_s : Spec := ⟨[.v (.pair (.pair (.int .i64) (.pair (.int .i64) (.unit))) (.pair (.pair (.int .i64) (.pair (.int .i64) (.unit))) (.unit))) .fr, .v (.pair (.pair (.int .i64) (.pair (.int .i64) (.unit))) (.pair (.pair (.int .i64) (.pair (.int .i64) (.unit))) (.unit))) .fr], Bool, fun v => impl_Leaf_cross v.1 v.2.1, fun r => ([.v (.bool) .fr r], [])⟩
noncomputable def impl_Leaf_cross_ls : List LSum := []
noncomputable def impl_Leaf_cross_tab : List Row := [⟨181, [], [impl_order_s]⟩]
theorem impl_Leaf_cross_t : ∀ r, r ∈ impl_Leaf_cross_tab → RowIs Go.Proofs.Tryz.prog r := tab_cons (impl_order_is) (tab_nil)
theorem impl_Leaf_cross_rs : RoundsOK (mkCtx Go.K.Link.seat impl_Leaf_cross_c impl_Leaf_cross_tab) (sums impl_Leaf_cross_ls) (loopsOf 0 impl_Leaf_cross_code) impl_Leaf_cross_ls := trivial
theorem impl_Leaf_cross_e : ∀ v, (evFn (mkCtx Go.K.Link.seat impl_Leaf_cross_c impl_Leaf_cross_tab) (sums impl_Leaf_cross_ls) 143 Go.Proofs.Tryz.f143 (encL impl_Leaf_cross_s.a v)).run = (impl_Leaf_cross_s.gen v).bind fun y => some (impl_Leaf_cross_s.out y) := by
  rintro ⟨l, ⟨m, _⟩⟩
  show _ = (impl_Leaf_cross l m).bind fun y : Bool => some (impl_Leaf_cross_s.out y)
  simp only [impl_Leaf_cross, kb_ite, kb_some, kb_none, kb_bind, kb_alt]
  kernel_rfl
theorem impl_Leaf_cross_is : FnIs Go.Proofs.Tryz.prog 143 (modeOf []) (phi [impl_Leaf_cross_s]) := spec_is (c := impl_Leaf_cross_c) seatOK impl_Leaf_cross_t Go.Proofs.Tryz.func143 rfl (code := impl_Leaf_cross_code) rfl rfl impl_Leaf_cross_rs impl_Leaf_cross_e
noncomputable def impl_pairsUpTo_f1_f1_s : Spec := ⟨[.v (.pair (.pair (.int .i64) (.pair (.int .i64) (.unit))) (.pair (.pair (.int .i64) (.pair (.int .i64) (.unit))) (.unit))) .fr, .v (.ptr (.pair (.pair (.int .i64) (.pair (.int .i64) (.unit))) (.pair (.pair (.int .i64) (.pair (.int .i64) (.unit))) (.unit)))) .fr], Bool, fun v => impl_pairsUpTo_f1_f1 v.1 v.2.1, fun r => ([.v (.bool) .fr r], [])⟩
noncomputable def impl_pairsUpTo_f1_f1_ls : List LSum := []
noncomputable def impl_pairsUpTo_f1_f1_tab : List Row := [⟨142, [], [impl_RayPair_leaf_s]⟩, ⟨143, [], [impl_Leaf_cross_s]⟩]
theorem impl_pairsUpTo_f1_f1_t : ∀ r, r ∈ impl_pairsUpTo_f1_f1_tab → RowIs Go.Proofs.Tryz.prog r := tab_cons (impl_RayPair_leaf_is) (tab_cons (impl_Leaf_cross_is) (tab_nil))
theorem impl_pairsUpTo_f1_f1_rs : RoundsOK (mkCtx Go.K.Link.seat impl_pairsUpTo_f1_f1_c impl_pairsUpTo_f1_f1_tab) (sums impl_pairsUpTo_f1_f1_ls) (loopsOf 0 impl_pairsUpTo_f1_f1_code) impl_pairsUpTo_f1_f1_ls := trivial
theorem impl_pairsUpTo_f1_f1_e : ∀ v, (evFn (mkCtx Go.K.Link.seat impl_pairsUpTo_f1_f1_c impl_pairsUpTo_f1_f1_tab) (sums impl_pairsUpTo_f1_f1_ls) 194 Go.Proofs.Tryz.f194 (encL impl_pairsUpTo_f1_f1_s.a v)).run = (impl_pairsUpTo_f1_f1_s.gen v).bind fun y => some (impl_pairsUpTo_f1_f1_s.out y) := by
  rintro ⟨p, ⟨t1, _⟩⟩
  show _ = (impl_pairsUpTo_f1_f1 p t1).bind fun y : Bool => some (impl_pairsUpTo_f1_f1_s.out y)
  simp only [impl_pairsUpTo_f1_f1, kb_ite, kb_some, kb_none, kb_bind, kb_alt]
  kernel_rfl
theorem impl_pairsUpTo_f1_f1_is : FnIs Go.Proofs.Tryz.prog 194 (modeOf []) (phi [impl_pairsUpTo_f1_f1_s]) := spec_is (c := impl_pairsUpTo_f1_f1_c) seatOK impl_pairsUpTo_f1_f1_t Go.Proofs.Tryz.func194 rfl (code := impl_pairsUpTo_f1_f1_code) rfl rfl impl_pairsUpTo_f1_f1_rs impl_pairsUpTo_f1_f1_e
noncomputable def impl_areAll_impl_RayPair_f1_s : Spec := ⟨[.v (.pair (.pair (.int .i64) (.pair (.int .i64) (.unit))) (.pair (.pair (.int .i64) (.pair (.int .i64) (.unit))) (.unit))) .fr, .pfn 194 [] [.v (.ptr (.pair (.pair (.int .i64) (.pair (.int .i64) (.unit))) (.pair (.pair (.int .i64) (.pair (.int .i64) (.unit))) (.unit)))) .fr]], Bool, fun v => impl_areAll_impl_RayPair_f1 v.1 v.2.1.2.1, fun r => ([.v (.bool) .fr r], [])⟩
noncomputable def impl_areAll_impl_RayPair_f1_ls : List LSum := []
noncomputable def impl_areAll_impl_RayPair_f1_tab : List Row := [⟨194, [], [impl_pairsUpTo_f1_f1_s]⟩]
theorem impl_areAll_impl_RayPair_f1_t : ∀ r, r ∈ impl_areAll_impl_RayPair_f1_tab → RowIs Go.Proofs.Tryz.prog r := tab_cons (impl_pairsUpTo_f1_f1_is) (tab_nil)
theorem impl_areAll_impl_RayPair_f1_rs : RoundsOK (mkCtx Go.K.Link.seat impl_areAll_impl_RayPair_f1_c impl_areAll_impl_RayPair_f1_tab) (sums impl_areAll_impl_RayPair_f1_ls) (loopsOf 0 impl_areAll_impl_RayPair_f1_code) impl_areAll_impl_RayPair_f1_ls := trivial
theorem impl_areAll_impl_RayPair_f1_e : ∀ v, (evFn (mkCtx Go.K.Link.seat impl_areAll_impl_RayPair_f1_c impl_areAll_impl_RayPair_f1_tab) (sums impl_areAll_impl_RayPair_f1_ls) 207 Go.Proofs.Tryz.f207 (encL impl_areAll_impl_RayPair_f1_s.a v)).run = (impl_areAll_impl_RayPair_f1_s.gen v).bind fun y => some (impl_areAll_impl_RayPair_f1_s.out y) := by
  rintro ⟨x, ⟨⟨_, ⟨t1_0, _⟩⟩, _⟩⟩
  show _ = (impl_areAll_impl_RayPair_f1 x t1_0).bind fun y : Bool => some (impl_areAll_impl_RayPair_f1_s.out y)
  simp only [impl_areAll_impl_RayPair_f1, kb_ite, kb_some, kb_none, kb_bind, kb_alt]
  kernel_rfl
theorem impl_areAll_impl_RayPair_f1_is : FnIs Go.Proofs.Tryz.prog 207 (modeOf []) (phi [impl_areAll_impl_RayPair_f1_s]) := spec_is (c := impl_areAll_impl_RayPair_f1_c) seatOK impl_areAll_impl_RayPair_f1_t Go.Proofs.Tryz.func207 rfl (code := impl_areAll_impl_RayPair_f1_code) rfl rfl impl_areAll_impl_RayPair_f1_rs impl_areAll_impl_RayPair_f1_e
noncomputable def slices_IndexFunc__impl_RayPair_impl_RayPair_l0_s : LSum := ⟨0, ⟨[(0, .val (.sl 47 (.pair (.pair (.int .i64) (.pair (.int .i64) (.unit))) (.pair (.pair (.int .i64) (.pair (.int .i64) (.unit))) (.unit)))) .fr), (0, .fnl 207 [] [.arg (.pfn 194 [] [.v (.ptr (.pair (.pair (.int .i64) (.pair (.int .i64) (.unit))) (.pair (.pair (.int .i64) (.pair (.int .i64) (.unit))) (.unit)))) .fr])]), (5, .val (.int .i64) .fr), (0, .val (.int .i64) .fr)], 10⟩, (.ret, ⟨[(4, .val (.int .i64) .fr)], 14⟩), [(.exit 0, ⟨[], 19⟩)], slices_IndexFunc__impl_RayPair_impl_RayPair_l0⟩
noncomputable def slices_IndexFunc__impl_RayPair_impl_RayPair_s : Spec := ⟨[.v (.sl 47 (.pair (.pair (.int .i64) (.pair (.int .i64) (.unit))) (.pair (.pair (.int .i64) (.pair (.int .i64) (.unit))) (.unit)))) .fr, .fn 207 [] [.pfn 194 [] [.v (.ptr (.pair (.pair (.int .i64) (.pair (.int .i64) (.unit))) (.pair (.pair (.int .i64) (.pair (.int .i64) (.unit))) (.unit)))) .fr]]], Int, fun v => slices_IndexFunc__impl_RayPair_impl_RayPair v.1 v.2.1.2.1.2.1, fun r => ([.v (.int .i64) .fr r], [])⟩
noncomputable def slices_IndexFunc__impl_RayPair_impl_RayPair_ls : List LSum := [slices_IndexFunc__impl_RayPair_impl_RayPair_l0_s]
noncomputable def slices_IndexFunc__impl_RayPair_impl_RayPair_tab : List Row := [⟨207, [], [impl_areAll_impl_RayPair_f1_s]⟩]
theorem slices_IndexFunc__impl_RayPair_impl_RayPair_t : ∀ r, r ∈ slices_IndexFunc__impl_RayPair_impl_RayPair_tab → RowIs Go.Proofs.Tryz.prog r := tab_cons (impl_areAll_impl_RayPair_f1_is) (tab_nil)
theorem slices_IndexFunc__impl_RayPair_impl_RayPair_l0_r : RoundIs (mkCtx Go.K.Link.seat slices_IndexFunc__impl_RayPair_impl_RayPair_c slices_IndexFunc__impl_RayPair_impl_RayPair_tab) (sums slices_IndexFunc__impl_RayPair_impl_RayPair_ls) 0 (bodyAt (loopsOf 0 slices_IndexFunc__impl_RayPair_impl_RayPair_code) 0) slices_IndexFunc__impl_RayPair_impl_RayPair_l0_s := by
  rintro ⟨s, ⟨_, ⟨⟨_, ⟨f, _⟩⟩, _⟩, ⟨t7, ⟨t8, _⟩⟩⟩⟩
  show _ = (slices_IndexFunc__impl_RayPair_impl_RayPair_l0 (s, ((), (((), (f, ())), ()), (t7, (t8, ()))))).bind fun r : (Ctl ((List ((Int × (Int × Unit)) × ((Int × (Int × Unit)) × Unit))) × Unit × ((Unit × (((Int × (Int × Unit)) × ((Int × (Int × Unit)) × Unit)) × Unit)) × Unit) × Int × Int × Unit) ((Int × Unit) ⊕ (Unit))) => some (ctlVal slices_IndexFunc__impl_RayPair_impl_RayPair_l0_s r)
  simp only [slices_IndexFunc__impl_RayPair_impl_RayPair_l0, kb_ite, kb_some, kb_none, kb_bind, kb_alt]
  kernel_rfl
theorem slices_IndexFunc__impl_RayPair_impl_RayPair_rs : RoundsOK (mkCtx Go.K.Link.seat slices_IndexFunc__impl_RayPair_impl_RayPair_c slices_IndexFunc__impl_RayPair_impl_RayPair_tab) (sums slices_IndexFunc__impl_RayPair_impl_RayPair_ls) (loopsOf 0 slices_IndexFunc__impl_RayPair_impl_RayPair_code) slices_IndexFunc__impl_RayPair_impl_RayPair_ls := ⟨⟨rfl, rfl, slices_IndexFunc__impl_RayPair_impl_RayPair_l0_r⟩, trivial⟩
theorem slices_IndexFunc__impl_RayPair_impl_RayPair_e : ∀ v, (evFn (mkCtx Go.K.Link.seat slices_IndexFunc__impl_RayPair_impl_RayPair_c slices_IndexFunc__impl_RayPair_impl_RayPair_tab) (sums slices_IndexFunc__impl_RayPair_impl_RayPair_ls) 133 Go.Proofs.Tryz.f133 (encL slices_IndexFunc__impl_RayPair_impl_RayPair_s.a v)).run = (slices_IndexFunc__impl_RayPair_impl_RayPair_s.gen v).bind fun y => some (slices_IndexFunc__impl_RayPair_impl_RayPair_s.out y) := by
  rintro ⟨s, ⟨⟨_, ⟨⟨_, ⟨f_0_1, _⟩⟩, _⟩⟩, _⟩⟩
  show _ = (slices_IndexFunc__impl_RayPair_impl_RayPair s f_0_1).bind fun y : Int => some (slices_IndexFunc__impl_RayPair_impl_RayPair_s.out y)
  simp only [slices_IndexFunc__impl_RayPair_impl_RayPair, kb_ite, kb_some, kb_none, kb_bind, kb_alt]
  kernel_rfl
theorem slices_IndexFunc__impl_RayPair_impl_RayPair_is : FnIs Go.Proofs.Tryz.prog 133 (modeOf []) (phi [slices_IndexFunc__impl_RayPair_impl_RayPair_s]) := spec_is (c := slices_IndexFunc__impl_RayPair_impl_RayPair_c) seatOK slices_IndexFunc__impl_RayPair_impl_RayPair_t Go.Proofs.Tryz.func133 rfl (code := slices_IndexFunc__impl_RayPair_impl_RayPair_code) rfl rfl slices_IndexFunc__impl_RayPair_impl_RayPair_rs slices_IndexFunc__impl_RayPair_impl_RayPair_e
noncomputable def slices_ContainsFunc__impl_RayPair_impl_RayPair_s : Spec := ⟨[.v (.sl 47 (.pair (.pair (.int .i64) (.pair (.int .i64) (.unit))) (.pair (.pair (.int .i64) (.pair (.int .i64) (.unit))) (.unit)))) .fr, .fn 207 [] [.pfn 194 [] [.v (.ptr (.pair (.pair (.int .i64) (.pair (.int .i64) (.unit))) (.pair (.pair (.int .i64) (.pair (.int .i64) (.unit))) (.unit)))) .fr]]], Bool, fun v => slices_ContainsFunc__impl_RayPair_impl_RayPair v.1 v.2.1.2.1.2.1, fun r => ([.v (.bool) .fr r], [])⟩
noncomputable def slices_ContainsFunc__impl_RayPair_impl_RayPair_ls : List LSum := []
noncomputable def slices_ContainsFunc__impl_RayPair_impl_RayPair_tab : List Row := [⟨133, [], [slices_IndexFunc__impl_RayPair_impl_RayPair_s]⟩]
theorem slices_ContainsFunc__impl_RayPair_impl_RayPair_t : ∀ r, r ∈ slices_ContainsFunc__impl_RayPair_impl_RayPair_tab → RowIs Go.Proofs.Tryz.prog r := tab_cons (slices_IndexFunc__impl_RayPair_impl_RayPair_is) (tab_nil)
theorem slices_ContainsFunc__impl_RayPair_impl_RayPair_rs : RoundsOK (mkCtx Go.K.Link.seat slices_ContainsFunc__impl_RayPair_impl_RayPair_c slices_ContainsFunc__impl_RayPair_impl_RayPair_tab) (sums slices_ContainsFunc__impl_RayPair_impl_RayPair_ls) (loopsOf 0 slices_ContainsFunc__impl_RayPair_impl_RayPair_code) slices_ContainsFunc__impl_RayPair_impl_RayPair_ls := trivial
theorem slices_ContainsFunc__impl_RayPair_impl_RayPair_e : ∀ v, (evFn (mkCtx Go.K.Link.seat slices_ContainsFunc__impl_RayPair_impl_RayPair_c slices_ContainsFunc__impl_RayPair_impl_RayPair_tab) (sums slices_ContainsFunc__impl_RayPair_impl_RayPair_ls) 206 Go.Proofs.Tryz.f206 (encL slices_ContainsFunc__impl_RayPair_impl_RayPair_s.a v)).run = (slices_ContainsFunc__impl_RayPair_impl_RayPair_s.gen v).bind fun y => some (slices_ContainsFunc__impl_RayPair_impl_RayPair_s.out y) := by
  rintro ⟨s, ⟨⟨_, ⟨⟨_, ⟨f_0_1, _⟩⟩, _⟩⟩, _⟩⟩
  show _ = (slices_ContainsFunc__impl_RayPair_impl_RayPair s f_0_1).bind fun y : Bool => some (slices_ContainsFunc__impl_RayPair_impl_RayPair_s.out y)
  simp only [slices_ContainsFunc__impl_RayPair_impl_RayPair, kb_ite, kb_some, kb_none, kb_bind, kb_alt]
  kernel_rfl
theorem slices_ContainsFunc__impl_RayPair_impl_RayPair_is : FnIs Go.Proofs.Tryz.prog 206 (modeOf []) (phi [slices_ContainsFunc__impl_RayPair_impl_RayPair_s]) := spec_is (c := slices_ContainsFunc__impl_RayPair_impl_RayPair_c) seatOK slices_ContainsFunc__impl_RayPair_impl_RayPair_t Go.Proofs.Tryz.func206 rfl (code := slices_ContainsFunc__impl_RayPair_impl_RayPair_code) rfl rfl slices_ContainsFunc__impl_RayPair_impl_RayPair_rs slices_ContainsFunc__impl_RayPair_impl_RayPair_e
noncomputable def impl_areAll_impl_RayPair_s : Spec := ⟨[.v (.sl 47 (.pair (.pair (.int .i64) (.pair (.int .i64) (.unit))) (.pair (.pair (.int .i64) (.pair (.int .i64) (.unit))) (.unit)))) .fr, .fn 194 [] [.v (.ptr (.pair (.pair (.int .i64) (.pair (.int .i64) (.unit))) (.pair (.pair (.int .i64) (.pair (.int .i64) (.unit))) (.unit)))) .fr]], Bool, fun v => impl_areAll_impl_RayPair v.1 v.2.1.2.1, fun r => ([.v (.bool) .fr r], [])⟩
noncomputable def impl_areAll_impl_RayPair_ls : List LSum := []
noncomputable def impl_areAll_impl_RayPair_tab : List Row := [⟨206, [], [slices_ContainsFunc__impl_RayPair_impl_RayPair_s]⟩]
theorem impl_areAll_impl_RayPair_t : ∀ r, r ∈ impl_areAll_impl_RayPair_tab → RowIs Go.Proofs.Tryz.prog r := tab_cons (slices_ContainsFunc__impl_RayPair_impl_RayPair_is) (tab_nil)
theorem impl_areAll_impl_RayPair_rs : RoundsOK (mkCtx Go.K.Link.seat impl_areAll_impl_RayPair_c impl_areAll_impl_RayPair_tab) (sums impl_areAll_impl_RayPair_ls) (loopsOf 0 impl_areAll_impl_RayPair_code) impl_areAll_impl_RayPair_ls := trivial
theorem impl_areAll_impl_RayPair_e : ∀ v, (evFn (mkCtx Go.K.Link.seat impl_areAll_impl_RayPair_c impl_areAll_impl_RayPair_tab) (sums impl_areAll_impl_RayPair_ls) 193 Go.Proofs.Tryz.f193 (encL impl_areAll_impl_RayPair_s.a v)).run = (impl_areAll_impl_RayPair_s.gen v).bind fun y => some (impl_areAll_impl_RayPair_s.out y) := by
  rintro ⟨list, ⟨⟨_, ⟨is'_0, _⟩⟩, _⟩⟩
  show _ = (impl_areAll_impl_RayPair list is'_0).bind fun y : Bool => some (impl_areAll_impl_RayPair_s.out y)
  simp only [impl_areAll_impl_RayPair, kb_ite, kb_some, kb_none, kb_bind, kb_alt]
  kernel_rfl
theorem impl_areAll_impl_RayPair_is : FnIs Go.Proofs.Tryz.prog 193 (modeOf []) (phi [impl_areAll_impl_RayPair_s]) := spec_is (c := impl_areAll_impl_RayPair_c) seatOK impl_areAll_impl_RayPair_t Go.Proofs.Tryz.func193 rfl (code := impl_areAll_impl_RayPair_code) rfl rfl impl_areAll_impl_RayPair_rs impl_areAll_impl_RayPair_e
noncomputable def impl_pairsUpTo_f1_s : Spec := ⟨[.v (.pair (.int .i64) (.pair (.int .i64) (.unit))) .fr, .v (.ptr (.sl 27 (.pair (.int .i64) (.pair (.int .i64) (.unit))))) .fr, .v (.ptr (.sl 47 (.pair (.pair (.int .i64) (.pair (.int .i64) (.unit))) (.pair (.pair (.int .i64) (.pair (.int .i64) (.unit))) (.unit))))) .fr], Bool, fun v => impl_pairsUpTo_f1 v.1 v.2.1 v.2.2.1, fun r => ([.v (.bool) .fr r], [])⟩
noncomputable def impl_pairsUpTo_f1_ls : List LSum := []
noncomputable def impl_pairsUpTo_f1_tab : List Row := [⟨193, [], [impl_areAll_impl_RayPair_s]⟩]
theorem impl_pairsUpTo_f1_t : ∀ r, r ∈ impl_pairsUpTo_f1_tab → RowIs Go.Proofs.Tryz.prog r := tab_cons (impl_areAll_impl_RayPair_is) (tab_nil)
theorem impl_pairsUpTo_f1_rs : RoundsOK (mkCtx Go.K.Link.seat impl_pairsUpTo_f1_c impl_pairsUpTo_f1_tab) (sums impl_pairsUpTo_f1_ls) (loopsOf 0 impl_pairsUpTo_f1_code) impl_pairsUpTo_f1_ls := trivial
theorem impl_pairsUpTo_f1_e : ∀ v, (evFn (mkCtx Go.K.Link.seat impl_pairsUpTo_f1_c impl_pairsUpTo_f1_tab) (sums impl_pairsUpTo_f1_ls) 192 Go.Proofs.Tryz.f192 (encL impl_pairsUpTo_f1_s.a v)).run = (impl_pairsUpTo_f1_s.gen v).bind fun y => some (impl_pairsUpTo_f1_s.out y) := by
  rintro ⟨a, ⟨t1, ⟨t2, _⟩⟩⟩
  show _ = (impl_pairsUpTo_f1 a t1 t2).bind fun y : Bool => some (impl_pairsUpTo_f1_s.out y)
  simp only [impl_pairsUpTo_f1, kb_ite, kb_some, kb_none, kb_bind, kb_alt]
  kernel_rfl
theorem impl_pairsUpTo_f1_is : FnIs Go.Proofs.Tryz.prog 192 (modeOf []) (phi [impl_pairsUpTo_f1_s]) := spec_is (c := impl_pairsUpTo_f1_c) seatOK impl_pairsUpTo_f1_t Go.Proofs.Tryz.func192 rfl (code := impl_pairsUpTo_f1_code) rfl rfl impl_pairsUpTo_f1_rs impl_pairsUpTo_f1_e
noncomputable def slices_IndexFunc__impl_Angle_impl_Angle_v2_l0_s : LSum := ⟨0, ⟨[(0, .val (.sl 27 (.pair (.int .i64) (.pair (.int .i64) (.unit)))) .fr), (0, .fnl 192 [] [.arg (.v (.ptr (.sl 27 (.pair (.int .i64) (.pair (.int .i64) (.unit))))) .fr), .arg (.v (.ptr (.sl 47 (.pair (.pair (.int .i64) (.pair (.int .i64) (.unit))) (.pair (.pair (.int .i64) (.pair (.int .i64) (.unit))) (.unit))))) .fr)]), (5, .val (.int .i64) .fr), (0, .val (.int .i64) .fr)], 10⟩, (.ret, ⟨[(4, .val (.int .i64) .fr)], 14⟩), [(.exit 0, ⟨[], 19⟩)], slices_IndexFunc__impl_Angle_impl_Angle_v2_l0⟩
noncomputable def slices_IndexFunc__impl_Angle_impl_Angle_v2_s : Spec := ⟨[.v (.sl 27 (.pair (.int .i64) (.pair (.int .i64) (.unit)))) .fr, .fn 192 [] [.v (.ptr (.sl 27 (.pair (.int .i64) (.pair (.int .i64) (.unit))))) .fr, .v (.ptr (.sl 47 (.pair (.pair (.int .i64) (.pair (.int .i64) (.unit))) (.pair (.pair (.int .i64) (.pair (.int .i64) (.unit))) (.unit))))) .fr]], Int, fun v => slices_IndexFunc__impl_Angle_impl_Angle_v2 v.1 v.2.1.2.1 v.2.1.2.2.1, fun r => ([.v (.int .i64) .fr r], [])⟩
noncomputable def slices_IndexFunc__impl_Angle_impl_Angle_v2_ls : List LSum := [slices_IndexFunc__impl_Angle_impl_Angle_v2_l0_s]
noncomputable def slices_IndexFunc__impl_Angle_impl_Angle_v2_tab : List Row := [⟨192, [], [impl_pairsUpTo_f1_s]⟩]
theorem slices_IndexFunc__impl_Angle_impl_Angle_v2_t : ∀ r, r ∈ slices_IndexFunc__impl_Angle_impl_Angle_v2_tab → RowIs Go.Proofs.Tryz.prog r := tab_cons (impl_pairsUpTo_f1_is) (tab_nil)
theorem slices_IndexFunc__impl_Angle_impl_Angle_v2_l0_r : RoundIs (mkCtx Go.K.Link.seat slices_IndexFunc__impl_Angle_impl_Angle_v2_c slices_IndexFunc__impl_Angle_impl_Angle_v2_tab) (sums slices_IndexFunc__impl_Angle_impl_Angle_v2_ls) 0 (bodyAt (loopsOf 0 slices_IndexFunc__impl_Angle_impl_Angle_v2_code) 0) slices_IndexFunc__impl_Angle_impl_Angle_v2_l0_s := by
  rintro ⟨s, ⟨_, ⟨f_0, ⟨f_1, _⟩⟩, ⟨t7, ⟨t8, _⟩⟩⟩⟩
  show _ = (slices_IndexFunc__impl_Angle_impl_Angle_v2_l0 (s, ((), (f_0, (f_1, ())), (t7, (t8, ()))))).bind fun r : (Ctl ((List (Int × (Int × Unit))) × Unit × (List (Int × (Int × Unit)) × (List ((Int × (Int × Unit)) × ((Int × (Int × Unit)) × Unit)) × Unit)) × Int × Int × Unit) ((Int × Unit) ⊕ (Unit))) => some (ctlVal slices_IndexFunc__impl_Angle_impl_Angle_v2_l0_s r)
  simp only [slices_IndexFunc__impl_Angle_impl_Angle_v2_l0, kb_ite, kb_some, kb_none, kb_bind, kb_alt]
  kernel_rfl
theorem slices_IndexFunc__impl_Angle_impl_Angle_v2_rs : RoundsOK (mkCtx Go.K.Link.seat slices_IndexFunc__impl_Angle_impl_Angle_v2_c slices_IndexFunc__impl_Angle_impl_Angle_v2_tab) (sums slices_IndexFunc__impl_Angle_impl_Angle_v2_ls) (loopsOf 0 slices_IndexFunc__impl_Angle_impl_Angle_v2_code) slices_IndexFunc__impl_Angle_impl_Angle_v2_ls := ⟨⟨rfl, rfl, slices_IndexFunc__impl_Angle_impl_Angle_v2_l0_r⟩, trivial⟩
theorem slices_IndexFunc__impl_Angle_impl_Angle_v2_e : ∀ v, (evFn (mkCtx Go.K.Link.seat slices_IndexFunc__impl_Angle_impl_Angle_v2_c slices_IndexFunc__impl_Angle_impl_Angle_v2_tab) (sums slices_IndexFunc__impl_Angle_impl_Angle_v2_ls) 191 Go.Proofs.Tryz.f191 (encL slices_IndexFunc__impl_Angle_impl_Angle_v2_s.a v)).run = (slices_IndexFunc__impl_Angle_impl_Angle_v2_s.gen v).bind fun y => some (slices_IndexFunc__impl_Angle_impl_Angle_v2_s.out y) := by
  rintro ⟨s, ⟨⟨_, ⟨f_0, ⟨f_1, _⟩⟩⟩, _⟩⟩
  show _ = (slices_IndexFunc__impl_Angle_impl_Angle_v2 s f_0 f_1).bind fun y : Int => some (slices_IndexFunc__impl_Angle_impl_Angle_v2_s.out y)
  simp only [slices_IndexFunc__impl_Angle_impl_Angle_v2, kb_ite, kb_some, kb_none, kb_bind, kb_alt]
  kernel_rfl
theorem slices_IndexFunc__impl_Angle_impl_Angle_v2_is : FnIs Go.Proofs.Tryz.prog 191 (modeOf []) (phi [slices_IndexFunc__impl_Angle_impl_Angle_v2_s]) := spec_is (c := slices_IndexFunc__impl_Angle_impl_Angle_v2_c) seatOK slices_IndexFunc__impl_Angle_impl_Angle_v2_t Go.Proofs.Tryz.func191 rfl (code := slices_IndexFunc__impl_Angle_impl_Angle_v2_code) rfl rfl slices_IndexFunc__impl_Angle_impl_Angle_v2_rs slices_IndexFunc__impl_Angle_impl_Angle_v2_e
theorem impl_pairsUpTo_L : PrTy Go.Proofs.Tryz.prog ⟨2, 3, 4, 61, 27, 37, 47, 100, 138, 191, 192, 195⟩ := ⟨⟨seatOK.mixed, ⟨Go.Proofs.Tryz.underlying61, by kernel_rfl, Go.Proofs.Tryz.isAgg61, Go.Proofs.Tryz.sizeOf61, Go.Proofs.Tryz.sizeOf27, by decide, by decide⟩, Go.Proofs.Tryz.underlying3, Go.Proofs.Tryz.underlying4, Go.Proofs.Tryz.isAgg3, Go.Proofs.Tryz.isAgg4, Go.Proofs.Tryz.sizeOf3, Go.Proofs.Tryz.sizeOf4, Go.Proofs.Tryz.zeroValue27, rfl, by simp [Value.cells, Value.oneCell']⟩, ⟨Go.Proofs.Tryz.underlying37, by kernel_rfl, Go.Proofs.Tryz.isAgg37, Go.Proofs.Tryz.sizeOf37, Go.Proofs.Tryz.sizeOf47, by decide, by decide⟩, Go.Proofs.Tryz.underlying2, Go.Proofs.Tryz.isAgg2, Go.Proofs.Tryz.sizeOf2, Go.Proofs.Tryz.isAgg27, Go.Proofs.Tryz.zeroValue61, Go.Proofs.Tryz.zeroValue37, Go.Proofs.Tryz.isAgg47, Go.Proofs.Tryz.sizeOf47, Go.Proofs.Tryz.zeroValue47, ⟨_, _, Go.Proofs.Tryz.underlying47, rfl, rfl, rfl, rfl⟩⟩
noncomputable def impl_pairsUpTo_s : Spec := ⟨[.v (.int .i64) .fr], List ((Int × (Int × Unit)) × ((Int × (Int × Unit)) × Unit)), fun v => impl_pairsUpTo v.1, fun r => ([.v (.sl 47 (.pair (.pair (.int .i64) (.pair (.int .i64) (.unit))) (.pair (.pair (.int .i64) (.pair (.int .i64) (.unit))) (.unit)))) (.own .fr) r], [])⟩
theorem impl_pairsUpTo_is : FnIs Go.Proofs.Tryz.prog 170 (modeOf []) (phi [impl_pairsUpTo_s]) := pairs_is (n := ⟨2, 3, 4, 61, 27, 37, 47, 100, 138, 191, 192, 195⟩) impl_pairsUpTo_L Go.Proofs.Tryz.func170 rfl rfl rfl rfl Go.Proofs.Tryz.func195 rfl rfl rfl rfl ⟨_, Go.Proofs.Tryz.func138, rfl, rfl⟩ ⟨_, Go.Proofs.Tryz.func191, rfl, rfl⟩ (A := fun p => impl_anglesOfPeriod p) (I := fun xs ys ps => slices_IndexFunc__impl_Angle_impl_Angle_v2 xs ys ps) impl_anglesOfPeriod_is (fun p xs h => by
  have e : (phi [impl_anglesOfPeriod_s] [.v (.int .i64) .fr p]).run = (impl_anglesOfPeriod p).bind fun r => some ([.v (.sl 27 (.pair (.int .i64) (.pair (.int .i64) (.unit)))) (.own .fr) r], []) := by kernel_rfl
  rw [e]
  show (impl_anglesOfPeriod p).bind _ = _
  rw [show impl_anglesOfPeriod p = some xs from h]
  rfl) slices_IndexFunc__impl_Angle_impl_Angle_v2_is (fun xs ys ps r h => by
  have e : (phi [slices_IndexFunc__impl_Angle_impl_Angle_v2_s] [.v (.sl 27 (.pair (.int .i64) (.pair (.int .i64) (.unit)))) .fr xs, .fn 192 [] [.v (.ptr (.sl 27 (.pair (.int .i64) (.pair (.int .i64) (.unit))))) .fr ys, .v (.ptr (.sl 47 (.pair (.pair (.int .i64) (.pair (.int .i64) (.unit))) (.pair (.pair (.int .i64) (.pair (.int .i64) (.unit))) (.unit))))) .fr ps]]).run = (slices_IndexFunc__impl_Angle_impl_Angle_v2 xs ys ps).bind fun r => some ([.v (.int .i64) .fr r], []) := by kernel_rfl
  rw [e]
  show (slices_IndexFunc__impl_Angle_impl_Angle_v2 xs ys ps).bind _ = _
  rw [show slices_IndexFunc__impl_Angle_impl_Angle_v2 xs ys ps = some r from h]
  rfl)
noncomputable def slices_DeleteFunc__impl_RayPair_impl_RayPair_code : Code := (Go.Proofs.Tryz.f130.body).getD .skip
def slices_DeleteFunc__impl_RayPair_impl_RayPair_c : Cfg := ⟨130, [.own], [[0, 1, 5, 6, 13], [0, 5, 13], [0, 4, 13, 39, 41]], [], [], []⟩
noncomputable def slices_IndexFunc__impl_RayPair_impl_RayPair_v2_code : Code := (Go.Proofs.Tryz.f133.body).getD .skip
def slices_IndexFunc__impl_RayPair_impl_RayPair_v2_c : Cfg := ⟨133, [], [[0, 1, 7, 8], [], [4]], [], [], []⟩
noncomputable def impl_pairsOf_f1_code : Code := (Go.Proofs.Tryz.f177.body).getD .skip
def impl_pairsOf_f1_c : Cfg := ⟨177, [], [], [], [], []⟩
noncomputable def impl_pairsOf_f1_s : Spec := ⟨[.v (.pair (.pair (.int .i64) (.pair (.int .i64) (.unit))) (.pair (.pair (.int .i64) (.pair (.int .i64) (.unit))) (.unit))) .fr, .v (.ptr (.int .i64)) .fr], Bool, fun v => impl_pairsOf_f1 v.1 v.2.1, fun r => ([.v (.bool) .fr r], [])⟩
noncomputable def impl_pairsOf_f1_ls : List LSum := []
noncomputable def impl_pairsOf_f1_tab : List Row := [⟨93, [], [impl_periodOf_s]⟩]
theorem impl_pairsOf_f1_t : ∀ r, r ∈ impl_pairsOf_f1_tab → RowIs Go.Proofs.Tryz.prog r := tab_cons (impl_periodOf_is) (tab_nil)
theorem impl_pairsOf_f1_rs : RoundsOK (mkCtx Go.K.Link.seat impl_pairsOf_f1_c impl_pairsOf_f1_tab) (sums impl_pairsOf_f1_ls) (loopsOf 0 impl_pairsOf_f1_code) impl_pairsOf_f1_ls := trivial
theorem impl_pairsOf_f1_e : ∀ v, (evFn (mkCtx Go.K.Link.seat impl_pairsOf_f1_c impl_pairsOf_f1_tab) (sums impl_pairsOf_f1_ls) 177 Go.Proofs.Tryz.f177 (encL impl_pairsOf_f1_s.a v)).run = (impl_pairsOf_f1_s.gen v).bind fun y => some (impl_pairsOf_f1_s.out y) := by
  rintro ⟨p, ⟨t1, _⟩⟩
  show _ = (impl_pairsOf_f1 p t1).bind fun y : Bool => some (impl_pairsOf_f1_s.out y)
  simp only [impl_pairsOf_f1, kb_ite, kb_some, kb_none, kb_bind, kb_alt]
  kernel_rfl
theorem impl_pairsOf_f1_is : FnIs Go.Proofs.Tryz.prog 177 (modeOf []) (phi [impl_pairsOf_f1_s]) := spec_is (c := impl_pairsOf_f1_c) seatOK impl_pairsOf_f1_t Go.Proofs.Tryz.func177 rfl (code := impl_pairsOf_f1_code) rfl rfl impl_pairsOf_f1_rs impl_pairsOf_f1_e
noncomputable def slices_IndexFunc__impl_RayPair_impl_RayPair_v2_l0_s : LSum := ⟨0, ⟨[(0, .val (.sl 47 (.pair (.pair (.int .i64) (.pair (.int .i64) (.unit))) (.pair (.pair (.int .i64) (.pair (.int .i64) (.unit))) (.unit)))) .fr), (0, .fnl 177 [] [.arg (.v (.ptr (.int .i64)) .fr)]), (5, .val (.int .i64) .fr), (0, .val (.int .i64) .fr)], 10⟩, (.ret, ⟨[(4, .val (.int .i64) .fr)], 14⟩), [(.exit 0, ⟨[], 19⟩)], slices_IndexFunc__impl_RayPair_impl_RayPair_v2_l0⟩
noncomputable def slices_IndexFunc__impl_RayPair_impl_RayPair_v2_s : Spec := ⟨[.v (.sl 47 (.pair (.pair (.int .i64) (.pair (.int .i64) (.unit))) (.pair (.pair (.int .i64) (.pair (.int .i64) (.unit))) (.unit)))) .fr, .fn 177 [] [.v (.ptr (.int .i64)) .fr]], Int, fun v => slices_IndexFunc__impl_RayPair_impl_RayPair_v2 v.1 v.2.1.2.1, fun r => ([.v (.int .i64) .fr r], [])⟩
noncomputable def slices_IndexFunc__impl_RayPair_impl_RayPair_v2_ls : List LSum := [slices_IndexFunc__impl_RayPair_impl_RayPair_v2_l0_s]
noncomputable def slices_IndexFunc__impl_RayPair_impl_RayPair_v2_tab : List Row := [⟨177, [], [impl_pairsOf_f1_s]⟩]
theorem slices_IndexFunc__impl_RayPair_impl_RayPair_v2_t : ∀ r, r ∈ slices_IndexFunc__impl_RayPair_impl_RayPair_v2_tab → RowIs Go.Proofs.Tryz.prog r := tab_cons (impl_pairsOf_f1_is) (tab_nil)
theorem slices_IndexFunc__impl_RayPair_impl_RayPair_v2_l0_r : RoundIs (mkCtx Go.K.Link.seat slices_IndexFunc__impl_RayPair_impl_RayPair_v2_c slices_IndexFunc__impl_RayPair_impl_RayPair_v2_tab) (sums slices_IndexFunc__impl_RayPair_impl_RayPair_v2_ls) 0 (bodyAt (loopsOf 0 slices_IndexFunc__impl_RayPair_impl_RayPair_v2_code) 0) slices_IndexFunc__impl_RayPair_impl_RayPair_v2_l0_s := by
  rintro ⟨s, ⟨_, ⟨f, _⟩, ⟨t7, ⟨t8, _⟩⟩⟩⟩
  show _ = (slices_IndexFunc__impl_RayPair_impl_RayPair_v2_l0 (s, ((), (f, ()), (t7, (t8, ()))))).bind fun r : (Ctl ((List ((Int × (Int × Unit)) × ((Int × (Int × Unit)) × Unit))) × Unit × (Int × Unit) × Int × Int × Unit) ((Int × Unit) ⊕ (Unit))) => some (ctlVal slices_IndexFunc__impl_RayPair_impl_RayPair_v2_l0_s r)
  simp only [slices_IndexFunc__impl_RayPair_impl_RayPair_v2_l0, kb_ite, kb_some, kb_none, kb_bind, kb_alt]
  kernel_rfl
theorem slices_IndexFunc__impl_RayPair_impl_RayPair_v2_rs : RoundsOK (mkCtx Go.K.Link.seat slices_IndexFunc__impl_RayPair_impl_RayPair_v2_c slices_IndexFunc__impl_RayPair_impl_RayPair_v2_tab) (sums slices_IndexFunc__impl_RayPair_impl_RayPair_v2_ls) (loopsOf 0 slices_IndexFunc__impl_RayPair_impl_RayPair_v2_code) slices_IndexFunc__impl_RayPair_impl_RayPair_v2_ls := ⟨⟨rfl, rfl, slices_IndexFunc__impl_RayPair_impl_RayPair_v2_l0_r⟩, trivial⟩
theorem slices_IndexFunc__impl_RayPair_impl_RayPair_v2_e : ∀ v, (evFn (mkCtx Go.K.Link.seat slices_IndexFunc__impl_RayPair_impl_RayPair_v2_c slices_IndexFunc__impl_RayPair_impl_RayPair_v2_tab) (sums slices_IndexFunc__impl_RayPair_impl_RayPair_v2_ls) 133 Go.Proofs.Tryz.f133 (encL slices_IndexFunc__impl_RayPair_impl_RayPair_v2_s.a v)).run = (slices_IndexFunc__impl_RayPair_impl_RayPair_v2_s.gen v).bind fun y => some (slices_IndexFunc__impl_RayPair_impl_RayPair_v2_s.out y) := by
  rintro ⟨s, ⟨⟨_, ⟨f_0, _⟩⟩, _⟩⟩
  show _ = (slices_IndexFunc__impl_RayPair_impl_RayPair_v2 s f_0).bind fun y : Int => some (slices_IndexFunc__impl_RayPair_impl_RayPair_v2_s.out y)
  simp only [slices_IndexFunc__impl_RayPair_impl_RayPair_v2, kb_ite, kb_some, kb_none, kb_bind, kb_alt]
  kernel_rfl
theorem slices_IndexFunc__impl_RayPair_impl_RayPair_v2_is : FnIs Go.Proofs.Tryz.prog 133 (modeOf []) (phi [slices_IndexFunc__impl_RayPair_impl_RayPair_v2_s]) := spec_is (c := slices_IndexFunc__impl_RayPair_impl_RayPair_v2_c) seatOK slices_IndexFunc__impl_RayPair_impl_RayPair_v2_t Go.Proofs.Tryz.func133 rfl (code := slices_IndexFunc__impl_RayPair_impl_RayPair_v2_code) rfl rfl slices_IndexFunc__impl_RayPair_impl_RayPair_v2_rs slices_IndexFunc__impl_RayPair_impl_RayPair_v2_e
noncomputable def slices_DeleteFunc__impl_RayPair_impl_RayPair_l0_s : LSum := ⟨0, ⟨[(0, .val (.sl 47 (.pair (.pair (.int .i64) (.pair (.int .i64) (.unit))) (.pair (.pair (.int .i64) (.pair (.int .i64) (.unit))) (.unit)))) (.own .fr)), (0, .fnl 177 [] [.arg (.v (.ptr (.int .i64)) .fr)]), (3, .val (.int .i64) .fr), (0, .val (.int .i64) .fr)], 35⟩, (.exit 0, ⟨[(0, .val (.sl 47 (.pair (.pair (.int .i64) (.pair (.int .i64) (.unit))) (.pair (.pair (.int .i64) (.pair (.int .i64) (.unit))) (.unit)))) (.own .fr)), (4, .val (.int .i64) .fr)], 36⟩), [], slices_DeleteFunc__impl_RayPair_impl_RayPair_l0⟩
noncomputable def slices_DeleteFunc__impl_RayPair_impl_RayPair_s : Spec := ⟨[.v (.sl 47 (.pair (.pair (.int .i64) (.pair (.int .i64) (.unit))) (.pair (.pair (.int .i64) (.pair (.int .i64) (.unit))) (.unit)))) (.own .fr), .fn 177 [] [.v (.ptr (.int .i64)) .fr]], (List ((Int × (Int × Unit)) × ((Int × (Int × Unit)) × Unit))), fun v => slices_DeleteFunc__impl_RayPair_impl_RayPair v.1 v.2.1.2.1, fun r => ([.v (.sl 47 (.pair (.pair (.int .i64) (.pair (.int .i64) (.unit))) (.pair (.pair (.int .i64) (.pair (.int .i64) (.unit))) (.unit)))) (.own .fr) r], [])⟩
noncomputable def slices_DeleteFunc__impl_RayPair_impl_RayPair_ls : List LSum := [slices_DeleteFunc__impl_RayPair_impl_RayPair_l0_s]
noncomputable def slices_DeleteFunc__impl_RayPair_impl_RayPair_tab : List Row := [⟨133, [], [slices_IndexFunc__impl_RayPair_impl_RayPair_v2_s]⟩, ⟨177, [], [impl_pairsOf_f1_s]⟩]
theorem slices_DeleteFunc__impl_RayPair_impl_RayPair_t : ∀ r, r ∈ slices_DeleteFunc__impl_RayPair_impl_RayPair_tab → RowIs Go.Proofs.Tryz.prog r := tab_cons (slices_IndexFunc__impl_RayPair_impl_RayPair_v2_is) (tab_cons (impl_pairsOf_f1_is) (tab_nil))
theorem slices_DeleteFunc__impl_RayPair_impl_RayPair_l0_r : RoundIs (mkCtx Go.K.Link.seat slices_DeleteFunc__impl_RayPair_impl_RayPair_c slices_DeleteFunc__impl_RayPair_impl_RayPair_tab) (sums slices_DeleteFunc__impl_RayPair_impl_RayPair_ls) 0 (bodyAt (loopsOf 0 slices_DeleteFunc__impl_RayPair_impl_RayPair_code) 0) slices_DeleteFunc__impl_RayPair_impl_RayPair_l0_s := by
  rintro ⟨s, ⟨_, ⟨del, _⟩, ⟨i, ⟨j, _⟩⟩⟩⟩
  show _ = (slices_DeleteFunc__impl_RayPair_impl_RayPair_l0 (s, ((), (del, ()), (i, (j, ()))))).bind fun r : (Ctl ((List ((Int × (Int × Unit)) × ((Int × (Int × Unit)) × Unit))) × Unit × (Int × Unit) × Int × Int × Unit) (((List ((Int × (Int × Unit)) × ((Int × (Int × Unit)) × Unit))) × Int × Unit))) => some (ctlVal slices_DeleteFunc__impl_RayPair_impl_RayPair_l0_s r)
  simp only [slices_DeleteFunc__impl_RayPair_impl_RayPair_l0, kb_ite, kb_some, kb_none, kb_bind, kb_alt]
  kernel_rfl
theorem slices_DeleteFunc__impl_RayPair_impl_RayPair_rs : RoundsOK (mkCtx Go.K.Link.seat slices_DeleteFunc__impl_RayPair_impl_RayPair_c slices_DeleteFunc__impl_RayPair_impl_RayPair_tab) (sums slices_DeleteFunc__impl_RayPair_impl_RayPair_ls) (loopsOf 0 slices_DeleteFunc__impl_RayPair_impl_RayPair_code) slices_DeleteFunc__impl_RayPair_impl_RayPair_ls := ⟨⟨rfl, rfl, slices_DeleteFunc__impl_RayPair_impl_RayPair_l0_r⟩, trivial⟩
theorem slices_DeleteFunc__impl_RayPair_impl_RayPair_e : ∀ v, (evFn (mkCtx Go.K.Link.seat slices_DeleteFunc__impl_RayPair_impl_RayPair_c slices_DeleteFunc__impl_RayPair_impl_RayPair_tab) (sums slices_DeleteFunc__impl_RayPair_impl_RayPair_ls) 130 Go.Proofs.Tryz.f130 (encL slices_DeleteFunc__impl_RayPair_impl_RayPair_s.a v)).run = (slices_DeleteFunc__impl_RayPair_impl_RayPair_s.gen v).bind fun y => some (slices_DeleteFunc__impl_RayPair_impl_RayPair_s.out y) := by
  rintro ⟨s, ⟨⟨_, ⟨del_0, _⟩⟩, _⟩⟩
  show _ = (slices_DeleteFunc__impl_RayPair_impl_RayPair s del_0).bind fun y : (List ((Int × (Int × Unit)) × ((Int × (Int × Unit)) × Unit))) => some (slices_DeleteFunc__impl_RayPair_impl_RayPair_s.out y)
  simp only [slices_DeleteFunc__impl_RayPair_impl_RayPair, kb_ite, kb_some, kb_none, kb_bind, kb_alt]
  kernel_rfl
theorem slices_DeleteFunc__impl_RayPair_impl_RayPair_is : FnIs Go.Proofs.Tryz.prog 130 (modeOf [.own]) (phi [slices_DeleteFunc__impl_RayPair_impl_RayPair_s]) := spec_is (c := slices_DeleteFunc__impl_RayPair_impl_RayPair_c) seatOK slices_DeleteFunc__impl_RayPair_impl_RayPair_t Go.Proofs.Tryz.func130 rfl (code := slices_DeleteFunc__impl_RayPair_impl_RayPair_code) rfl rfl slices_DeleteFunc__impl_RayPair_impl_RayPair_rs slices_DeleteFunc__impl_RayPair_impl_RayPair_e
noncomputable def impl_pairsOf_f2_code : Code := (Go.Proofs.Tryz.f178.body).getD .skip
def impl_pairsOf_f2_c : Cfg := ⟨178, [], [], [], [], []⟩
noncomputable def impl_pairsOf_f2_s : Spec := ⟨[.v (.pair (.pair (.int .i64) (.pair (.int .i64) (.unit))) (.pair (.pair (.int .i64) (.pair (.int .i64) (.unit))) (.unit))) .fr, .v (.pair (.pair (.int .i64) (.pair (.int .i64) (.unit))) (.pair (.pair (.int .i64) (.pair (.int .i64) (.unit))) (.unit))) .fr], Int, fun v => impl_pairsOf_f2 v.1 v.2.1, fun r => ([.v (.int .i64) .fr r], [])⟩
noncomputable def impl_pairsOf_f2_ls : List LSum := []
noncomputable def impl_pairsOf_f2_tab : List Row := [⟨114, [], [impl_Angle_compare_s]⟩]
theorem impl_pairsOf_f2_t : ∀ r, r ∈ impl_pairsOf_f2_tab → RowIs Go.Proofs.Tryz.prog r := tab_cons (impl_Angle_compare_is) (tab_nil)
theorem impl_pairsOf_f2_rs : RoundsOK (mkCtx Go.K.Link.seat impl_pairsOf_f2_c impl_pairsOf_f2_tab) (sums impl_pairsOf_f2_ls) (loopsOf 0 impl_pairsOf_f2_code) impl_pairsOf_f2_ls := trivial
theorem impl_pairsOf_f2_e : ∀ v, (evFn (mkCtx Go.K.Link.seat impl_pairsOf_f2_c impl_pairsOf_f2_tab) (sums impl_pairsOf_f2_ls) 178 Go.Proofs.Tryz.f178 (encL impl_pairsOf_f2_s.a v)).run = (impl_pairsOf_f2_s.gen v).bind fun y => some (impl_pairsOf_f2_s.out y) := by
  rintro ⟨p, ⟨q, _⟩⟩
  show _ = (impl_pairsOf_f2 p q).bind fun y : Int => some (impl_pairsOf_f2_s.out y)
  simp only [impl_pairsOf_f2, kb_ite, kb_some, kb_none, kb_bind, kb_alt]
  kernel_rfl
theorem impl_pairsOf_f2_is : FnIs Go.Proofs.Tryz.prog 178 (modeOf []) (phi [impl_pairsOf_f2_s]) := spec_is (c := impl_pairsOf_f2_c) seatOK impl_pairsOf_f2_t Go.Proofs.Tryz.func178 rfl (code := impl_pairsOf_f2_code) rfl rfl impl_pairsOf_f2_rs impl_pairsOf_f2_e
noncomputable def slices_SortFunc__impl_RayPair_impl_RayPair_s : Spec := ⟨[.v (.sl 47 (.pair (.pair (.int .i64) (.pair (.int .i64) (.unit))) (.pair (.pair (.int .i64) (.pair (.int .i64) (.unit))) (.unit)))) (.own .fr), .fn 178 [] []], List ((Int × (Int × Unit)) × ((Int × (Int × Unit)) × Unit)), fun v => slices_SortFunc__impl_RayPair_impl_RayPair v.1, fun r => ([], [.v (.sl 47 (.pair (.pair (.int .i64) (.pair (.int .i64) (.unit))) (.pair (.pair (.int .i64) (.pair (.int .i64) (.unit))) (.unit)))) (.own .fr) r])⟩
theorem slices_SortFunc__impl_RayPair_impl_RayPair_is : FnIs Go.Proofs.Tryz.prog 173 (modeOf [.mut]) (phi [slices_SortFunc__impl_RayPair_impl_RayPair_s]) := sortFunc_is (cs := []) (cf := fun c x y => impl_pairsOf_f2 x y ) Go.Proofs.Tryz.sortL173 ⟨_, Go.Proofs.Tryz.func173, rfl, rfl⟩ (T := 47) (e := (.pair (.pair (.int .i64) (.pair (.int .i64) (.unit))) (.pair (.pair (.int .i64) (.pair (.int .i64) (.unit))) (.unit)))) rfl rfl Go.Proofs.Tryz.isAgg47 Go.Proofs.Tryz.sizeOf47 impl_pairsOf_f2_is (fun c x y r h => by
  have e : (phi [impl_pairsOf_f2_s] (.v (.pair (.pair (.int .i64) (.pair (.int .i64) (.unit))) (.pair (.pair (.int .i64) (.pair (.int .i64) (.unit))) (.unit))) .fr x :: .v (.pair (.pair (.int .i64) (.pair (.int .i64) (.unit))) (.pair (.pair (.int .i64) (.pair (.int .i64) (.unit))) (.unit))) .fr y :: encL [] c)).run = (impl_pairsOf_f2 x y ).bind fun r => some ([.v (.int .i64) .fr r], []) := by kernel_rfl
  rw [e]
  show (impl_pairsOf_f2 x y ).bind _ = _
  rw [show impl_pairsOf_f2 x y  = some r from h]
  rfl)
noncomputable def impl_pairsOf_s : Spec := ⟨[.v (.int .i64) .fr], (List ((Int × (Int × Unit)) × ((Int × (Int × Unit)) × Unit))), fun v => impl_pairsOf v.1, fun r => ([.v (.sl 47 (.pair (.pair (.int .i64) (.pair (.int .i64) (.unit))) (.pair (.pair (.int .i64) (.pair (.int .i64) (.unit))) (.unit)))) (.own .fr) r], [])⟩
noncomputable def impl_pairsOf_ls : List LSum := []
noncomputable def impl_pairsOf_tab : List Row := [⟨130, [.own], [slices_DeleteFunc__impl_RayPair_impl_RayPair_s]⟩, ⟨170, [], [impl_pairsUpTo_s]⟩, ⟨173, [.mut], [slices_SortFunc__impl_RayPair_impl_RayPair_s]⟩]
theorem impl_pairsOf_t : ∀ r, r ∈ impl_pairsOf_tab → RowIs Go.Proofs.Tryz.prog r := tab_cons (slices_DeleteFunc__impl_RayPair_impl_RayPair_is) (tab_cons (impl_pairsUpTo_is) (tab_cons (slices_SortFunc__impl_RayPair_impl_RayPair_is) (tab_nil)))
theorem impl_pairsOf_rs : RoundsOK (mkCtx Go.K.Link.seat impl_pairsOf_c impl_pairsOf_tab) (sums impl_pairsOf_ls) (loopsOf 0 impl_pairsOf_code) impl_pairsOf_ls := trivial
theorem impl_pairsOf_e : ∀ v, (evFn (mkCtx Go.K.Link.seat impl_pairsOf_c impl_pairsOf_tab) (sums impl_pairsOf_ls) 131 Go.Proofs.Tryz.f131 (encL impl_pairsOf_s.a v)).run = (impl_pairsOf_s.gen v).bind fun y => some (impl_pairsOf_s.out y) := by
  rintro ⟨n, _⟩
  show _ = (impl_pairsOf n).bind fun y : (List ((Int × (Int × Unit)) × ((Int × (Int × Unit)) × Unit))) => some (impl_pairsOf_s.out y)
  simp only [impl_pairsOf, kb_ite, kb_some, kb_none, kb_bind, kb_alt]
  kernel_rfl
theorem impl_pairsOf_is : FnIs Go.Proofs.Tryz.prog 131 (modeOf []) (phi [impl_pairsOf_s]) := spec_is (c := impl_pairsOf_c) seatOK impl_pairsOf_t Go.Proofs.Tryz.func131 rfl (code := impl_pairsOf_code) rfl rfl impl_pairsOf_rs impl_pairsOf_e
noncomputable def slices_IndexFunc__impl_RayPair_impl_RayPair_v3_code : Code := (Go.Proofs.Tryz.f133.body).getD .skip
def slices_IndexFunc__impl_RayPair_impl_RayPair_v3_c : Cfg := ⟨133, [], [[0, 1, 7, 8], [], [4]], [], [], []⟩
noncomputable def impl_PairOf_f1_code : Code := (Go.Proofs.Tryz.f134.body).getD .skip
def impl_PairOf_f1_c : Cfg := ⟨134, [], [], [], [], []⟩
noncomputable def impl_PairOf_f1_s : Spec := ⟨[.v (.pair (.pair (.int .i64) (.pair (.int .i64) (.unit))) (.pair (.pair (.int .i64) (.pair (.int .i64) (.unit))) (.unit))) .fr, .v (.ptr (.pair (.int .i64) (.pair (.int .i64) (.unit)))) .fr], Bool, fun v => impl_PairOf_f1 v.1 v.2.1, fun r => ([.v (.bool) .fr r], [])⟩
noncomputable def impl_PairOf_f1_ls : List LSum := []
noncomputable def impl_PairOf_f1_tab : List Row := []
theorem impl_PairOf_f1_t : ∀ r, r ∈ impl_PairOf_f1_tab → RowIs Go.Proofs.Tryz.prog r := tab_nil
theorem impl_PairOf_f1_rs : RoundsOK (mkCtx Go.K.Link.seat impl_PairOf_f1_c impl_PairOf_f1_tab) (sums impl_PairOf_f1_ls) (loopsOf 0 impl_PairOf_f1_code) impl_PairOf_f1_ls := trivial
theorem impl_PairOf_f1_e : ∀ v, (evFn (mkCtx Go.K.Link.seat impl_PairOf_f1_c impl_PairOf_f1_tab) (sums impl_PairOf_f1_ls) 134 Go.Proofs.Tryz.f134 (encL impl_PairOf_f1_s.a v)).run = (impl_PairOf_f1_s.gen v).bind fun y => some (impl_PairOf_f1_s.out y) := by
  rintro ⟨p, ⟨t1, _⟩⟩
  show _ = (impl_PairOf_f1 p t1).bind fun y : Bool => some (impl_PairOf_f1_s.out y)
  simp only [impl_PairOf_f1, kb_ite, kb_some, kb_none, kb_bind, kb_alt]
  kernel_rfl
theorem impl_PairOf_f1_is : FnIs Go.Proofs.Tryz.prog 134 (modeOf []) (phi [impl_PairOf_f1_s]) := spec_is (c := impl_PairOf_f1_c) seatOK impl_PairOf_f1_t Go.Proofs.Tryz.func134 rfl (code := impl_PairOf_f1_code) rfl rfl impl_PairOf_f1_rs impl_PairOf_f1_e
noncomputable def slices_IndexFunc__impl_RayPair_impl_RayPair_v3_l0_s : LSum := ⟨0, ⟨[(0, .val (.sl 47 (.pair (.pair (.int .i64) (.pair (.int .i64) (.unit))) (.pair (.pair (.int .i64) (.pair (.int .i64) (.unit))) (.unit)))) .fr), (0, .fnl 134 [] [.arg (.v (.ptr (.pair (.int .i64) (.pair (.int .i64) (.unit)))) .fr)]), (5, .val (.int .i64) .fr), (0, .val (.int .i64) .fr)], 10⟩, (.ret, ⟨[(4, .val (.int .i64) .fr)], 14⟩), [(.exit 0, ⟨[], 19⟩)], slices_IndexFunc__impl_RayPair_impl_RayPair_v3_l0⟩
noncomputable def slices_IndexFunc__impl_RayPair_impl_RayPair_v3_s : Spec := ⟨[.v (.sl 47 (.pair (.pair (.int .i64) (.pair (.int .i64) (.unit))) (.pair (.pair (.int .i64) (.pair (.int .i64) (.unit))) (.unit)))) .fr, .fn 134 [] [.v (.ptr (.pair (.int .i64) (.pair (.int .i64) (.unit)))) .fr]], Int, fun v => slices_IndexFunc__impl_RayPair_impl_RayPair_v3 v.1 v.2.1.2.1, fun r => ([.v (.int .i64) .fr r], [])⟩
noncomputable def slices_IndexFunc__impl_RayPair_impl_RayPair_v3_ls : List LSum := [slices_IndexFunc__impl_RayPair_impl_RayPair_v3_l0_s]
noncomputable def slices_IndexFunc__impl_RayPair_impl_RayPair_v3_tab : List Row := [⟨134, [], [impl_PairOf_f1_s]⟩]
theorem slices_IndexFunc__impl_RayPair_impl_RayPair_v3_t : ∀ r, r ∈ slices_IndexFunc__impl_RayPair_impl_RayPair_v3_tab → RowIs Go.Proofs.Tryz.prog r := tab_cons (impl_PairOf_f1_is) (tab_nil)
theorem slices_IndexFunc__impl_RayPair_impl_RayPair_v3_l0_r : RoundIs (mkCtx Go.K.Link.seat slices_IndexFunc__impl_RayPair_impl_RayPair_v3_c slices_IndexFunc__impl_RayPair_impl_RayPair_v3_tab) (sums slices_IndexFunc__impl_RayPair_impl_RayPair_v3_ls) 0 (bodyAt (loopsOf 0 slices_IndexFunc__impl_RayPair_impl_RayPair_v3_code) 0) slices_IndexFunc__impl_RayPair_impl_RayPair_v3_l0_s := by
  rintro ⟨s, ⟨_, ⟨f, _⟩, ⟨t7, ⟨t8, _⟩⟩⟩⟩
  show _ = (slices_IndexFunc__impl_RayPair_impl_RayPair_v3_l0 (s, ((), (f, ()), (t7, (t8, ()))))).bind fun r : (Ctl ((List ((Int × (Int × Unit)) × ((Int × (Int × Unit)) × Unit))) × Unit × ((Int × (Int × Unit)) × Unit) × Int × Int × Unit) ((Int × Unit) ⊕ (Unit))) => some (ctlVal slices_IndexFunc__impl_RayPair_impl_RayPair_v3_l0_s r)
  simp only [slices_IndexFunc__impl_RayPair_impl_RayPair_v3_l0, kb_ite, kb_some, kb_none, kb_bind, kb_alt]
  kernel_rfl
theorem slices_IndexFunc__impl_RayPair_impl_RayPair_v3_rs : RoundsOK (mkCtx Go.K.Link.seat slices_IndexFunc__impl_RayPair_impl_RayPair_v3_c slices_IndexFunc__impl_RayPair_impl_RayPair_v3_tab) (sums slices_IndexFunc__impl_RayPair_impl_RayPair_v3_ls) (loopsOf 0 slices_IndexFunc__impl_RayPair_impl_RayPair_v3_code) slices_IndexFunc__impl_RayPair_impl_RayPair_v3_ls := ⟨⟨rfl, rfl, slices_IndexFunc__impl_RayPair_impl_RayPair_v3_l0_r⟩, trivial⟩
theorem slices_IndexFunc__impl_RayPair_impl_RayPair_v3_e : ∀ v, (evFn (mkCtx Go.K.Link.seat slices_IndexFunc__impl_RayPair_impl_RayPair_v3_c slices_IndexFunc__impl_RayPair_impl_RayPair_v3_tab) (sums slices_IndexFunc__impl_RayPair_impl_RayPair_v3_ls) 133 Go.Proofs.Tryz.f133 (encL slices_IndexFunc__impl_RayPair_impl_RayPair_v3_s.a v)).run = (slices_IndexFunc__impl_RayPair_impl_RayPair_v3_s.gen v).bind fun y => some (slices_IndexFunc__impl_RayPair_impl_RayPair_v3_s.out y) := by
  rintro ⟨s, ⟨⟨_, ⟨f_0, _⟩⟩, _⟩⟩
  show _ = (slices_IndexFunc__impl_RayPair_impl_RayPair_v3 s f_0).bind fun y : Int => some (slices_IndexFunc__impl_RayPair_impl_RayPair_v3_s.out y)
  simp only [slices_IndexFunc__impl_RayPair_impl_RayPair_v3, kb_ite, kb_some, kb_none, kb_bind, kb_alt]
  kernel_rfl
theorem slices_IndexFunc__impl_RayPair_impl_RayPair_v3_is : FnIs Go.Proofs.Tryz.prog 133 (modeOf []) (phi [slices_IndexFunc__impl_RayPair_impl_RayPair_v3_s]) := spec_is (c := slices_IndexFunc__impl_RayPair_impl_RayPair_v3_c) seatOK slices_IndexFunc__impl_RayPair_impl_RayPair_v3_t Go.Proofs.Tryz.func133 rfl (code := slices_IndexFunc__impl_RayPair_impl_RayPair_v3_code) rfl rfl slices_IndexFunc__impl_RayPair_impl_RayPair_v3_rs slices_IndexFunc__impl_RayPair_impl_RayPair_v3_e
noncomputable def impl_PairOf_s : Spec := ⟨[.v (.pair (.int .i64) (.pair (.int .i64) (.unit))) .fr], ((Int × (Int × Unit)) × ((Int × (Int × Unit)) × Unit)) × Int, fun v => impl_PairOf v.1, fun r => ([.v (.pair (.pair (.int .i64) (.pair (.int .i64) (.unit))) (.pair (.pair (.int .i64) (.pair (.int .i64) (.unit))) (.unit))) .fr r.1, .v (.int .i64) .fr r.2], [])⟩
noncomputable def impl_PairOf_ls : List LSum := []
noncomputable def impl_PairOf_tab : List Row := [⟨131, [], [impl_pairsOf_s]⟩, ⟨133, [], [slices_IndexFunc__impl_RayPair_impl_RayPair_v3_s]⟩, ⟨92, [], [impl_anglesCode_s]⟩, ⟨93, [], [impl_periodOf_s]⟩, ⟨94, [], [impl_isPeriod_s]⟩]
theorem impl_PairOf_t : ∀ r, r ∈ impl_PairOf_tab → RowIs Go.Proofs.Tryz.prog r := tab_cons (impl_pairsOf_is) (tab_cons (slices_IndexFunc__impl_RayPair_impl_RayPair_v3_is) (tab_cons (impl_anglesCode_is) (tab_cons (impl_periodOf_is) (tab_cons (impl_isPeriod_is) (tab_nil)))))
theorem impl_PairOf_rs : RoundsOK (mkCtx Go.K.Link.seat impl_PairOf_c impl_PairOf_tab) (sums impl_PairOf_ls) (loopsOf 0 impl_PairOf_code) impl_PairOf_ls := trivial
theorem impl_PairOf_e : ∀ v, (evFn (mkCtx Go.K.Link.seat impl_PairOf_c impl_PairOf_tab) (sums impl_PairOf_ls) 58 Go.Proofs.Tryz.f58 (encL impl_PairOf_s.a v)).run = (impl_PairOf_s.gen v).bind fun y => some (impl_PairOf_s.out y) := by
  rintro ⟨x, _⟩
  show _ = (impl_PairOf x).bind fun y : ((Int × (Int × Unit)) × ((Int × (Int × Unit)) × Unit)) × Int => some (impl_PairOf_s.out y)
  simp only [impl_PairOf, kb_ite, kb_some, kb_none, kb_bind, kb_alt]
  kernel_rfl
theorem impl_PairOf_is : FnIs Go.Proofs.Tryz.prog 58 (modeOf []) (phi [impl_PairOf_s]) := spec_is (c := impl_PairOf_c) seatOK impl_PairOf_t Go.Proofs.Tryz.func58 rfl (code := impl_PairOf_code) rfl rfl impl_PairOf_rs impl_PairOf_e
noncomputable def impl_RayPair_width_code : Code := (Go.Proofs.Tryz.f118.body).getD .skip
def impl_RayPair_width_c : Cfg := ⟨118, [], [], [], [], []⟩
noncomputable def impl_RayPair_width_s : Spec := ⟨[.v (.pair (.pair (.int .i64) (.pair (.int .i64) (.unit))) (.pair (.pair (.int .i64) (.pair (.int .i64) (.unit))) (.unit))) .fr], (Int × (Int × Unit)), fun v => impl_RayPair_width v.1, fun r => ([.v (.pair (.int .i64) (.pair (.int .i64) (.unit))) .fr r], [])⟩
noncomputable def impl_RayPair_width_ls : List LSum := []
noncomputable def impl_RayPair_width_tab : List Row := [⟨166, [], [impl_Angle_minus_s]⟩]
theorem impl_RayPair_width_t : ∀ r, r ∈ impl_RayPair_width_tab → RowIs Go.Proofs.Tryz.prog r := tab_cons (impl_Angle_minus_is) (tab_nil)
theorem impl_RayPair_width_rs : RoundsOK (mkCtx Go.K.Link.seat impl_RayPair_width_c impl_RayPair_width_tab) (sums impl_RayPair_width_ls) (loopsOf 0 impl_RayPair_width_code) impl_RayPair_width_ls := trivial
theorem impl_RayPair_width_e : ∀ v, (evFn (mkCtx Go.K.Link.seat impl_RayPair_width_c impl_RayPair_width_tab) (sums impl_RayPair_width_ls) 118 Go.Proofs.Tryz.f118 (encL impl_RayPair_width_s.a v)).run = (impl_RayPair_width_s.gen v).bind fun y => some (impl_RayPair_width_s.out y) := by
  rintro ⟨p, _⟩
  show _ = (impl_RayPair_width p).bind fun y : (Int × (Int × Unit)) => some (impl_RayPair_width_s.out y)
  simp only [impl_RayPair_width, kb_ite, kb_some, kb_none, kb_bind, kb_alt]
  kernel_rfl
theorem impl_RayPair_width_is : FnIs Go.Proofs.Tryz.prog 118 (modeOf []) (phi [impl_RayPair_width_s]) := spec_is (c := impl_RayPair_width_c) seatOK impl_RayPair_width_t Go.Proofs.Tryz.func118 rfl (code := impl_RayPair_width_code) rfl rfl impl_RayPair_width_rs impl_RayPair_width_e
noncomputable def impl_limited_code : Code := (Go.Proofs.Tryz.f117.body).getD .skip
def impl_limited_c : Cfg := ⟨117, [], [], [], [], []⟩
noncomputable def impl_limited_s : Spec := ⟨[.v (.pair (.int .i64) (.pair (.int .i64) (.unit))) .fr], (Int × (Int × Unit)) × Int, fun v => impl_limited v.1, fun r => ([.v (.pair (.int .i64) (.pair (.int .i64) (.unit))) .fr r.1, .v (.int .i64) .fr r.2], [])⟩
noncomputable def impl_limited_ls : List LSum := []
noncomputable def impl_limited_tab : List Row := []
theorem impl_limited_t : ∀ r, r ∈ impl_limited_tab → RowIs Go.Proofs.Tryz.prog r := tab_nil
theorem impl_limited_rs : RoundsOK (mkCtx Go.K.Link.seat impl_limited_c impl_limited_tab) (sums impl_limited_ls) (loopsOf 0 impl_limited_code) impl_limited_ls := trivial
theorem impl_limited_e : ∀ v, (evFn (mkCtx Go.K.Link.seat impl_limited_c impl_limited_tab) (sums impl_limited_ls) 117 Go.Proofs.Tryz.f117 (encL impl_limited_s.a v)).run = (impl_limited_s.gen v).bind fun y => some (impl_limited_s.out y) := by
  rintro ⟨a, _⟩
  show _ = (impl_limited a).bind fun y : (Int × (Int × Unit)) × Int => some (impl_limited_s.out y)
  simp only [impl_limited, kb_ite, kb_some, kb_none, kb_bind, kb_alt]
  kernel_rfl
theorem impl_limited_is : FnIs Go.Proofs.Tryz.prog 117 (modeOf []) (phi [impl_limited_s]) := spec_is (c := impl_limited_c) seatOK impl_limited_t Go.Proofs.Tryz.func117 rfl (code := impl_limited_code) rfl rfl impl_limited_rs impl_limited_e
noncomputable def impl_WidthOf_s : Spec := ⟨[.v (.pair (.int .i64) (.pair (.int .i64) (.unit))) .fr], (Int × (Int × Unit)) × Int, fun v => impl_WidthOf v.1, fun r => ([.v (.pair (.int .i64) (.pair (.int .i64) (.unit))) .fr r.1, .v (.int .i64) .fr r.2], [])⟩
noncomputable def impl_WidthOf_ls : List LSum := []
noncomputable def impl_WidthOf_tab : List Row := [⟨117, [], [impl_limited_s]⟩, ⟨118, [], [impl_RayPair_width_s]⟩, ⟨58, [], [impl_PairOf_s]⟩]
theorem impl_WidthOf_t : ∀ r, r ∈ impl_WidthOf_tab → RowIs Go.Proofs.Tryz.prog r := tab_cons (impl_limited_is) (tab_cons (impl_RayPair_width_is) (tab_cons (impl_PairOf_is) (tab_nil)))
theorem impl_WidthOf_rs : RoundsOK (mkCtx Go.K.Link.seat impl_WidthOf_c impl_WidthOf_tab) (sums impl_WidthOf_ls) (loopsOf 0 impl_WidthOf_code) impl_WidthOf_ls := trivial
theorem impl_WidthOf_e : ∀ v, (evFn (mkCtx Go.K.Link.seat impl_WidthOf_c impl_WidthOf_tab) (sums impl_WidthOf_ls) 42 Go.Proofs.Tryz.f42 (encL impl_WidthOf_s.a v)).run = (impl_WidthOf_s.gen v).bind fun y => some (impl_WidthOf_s.out y) := by
  rintro ⟨x, _⟩
  show _ = (impl_WidthOf x).bind fun y : (Int × (Int × Unit)) × Int => some (impl_WidthOf_s.out y)
  simp only [impl_WidthOf, kb_ite, kb_some, kb_none, kb_bind, kb_alt]
  kernel_rfl
theorem impl_WidthOf_is : FnIs Go.Proofs.Tryz.prog 42 (modeOf []) (phi [impl_WidthOf_s]) := spec_is (c := impl_WidthOf_c) seatOK impl_WidthOf_t Go.Proofs.Tryz.func42 rfl (code := impl_WidthOf_code) rfl rfl impl_WidthOf_rs impl_WidthOf_e
noncomputable def spec_WidthOf_code : Code := (Go.Proofs.Tryz.f43.body).getD .skip
def spec_WidthOf_c : Cfg := ⟨43, [], [], [], [], []⟩
noncomputable def spec_PairOf_code : Code := (Go.Proofs.Tryz.f71.body).getD .skip
def spec_PairOf_c : Cfg := ⟨71, [], [], [], [], []⟩
noncomputable def spec_l04Code_code : Code := (Go.Proofs.Tryz.f85.body).getD .skip
def spec_l04Code_c : Cfg := ⟨85, [], [], [], [], []⟩
noncomputable def spec_l01Is_code : Code := (Go.Proofs.Tryz.f104.body).getD .skip
def spec_l01Is_c : Cfg := ⟨104, [], [], [], [], []⟩
noncomputable def spec_l01In_code : Code := (Go.Proofs.Tryz.f105.body).getD .skip
def spec_l01In_c : Cfg := ⟨105, [], [], [], [], []⟩
noncomputable def spec_l01In_s : Spec := ⟨[.v (.int .i64) .fr, .v (.int .i64) .fr, .v (.int .i64) .fr], Bool, fun v => spec_l01In v.1 v.2.1 v.2.2.1, fun r => ([.v (.bool) .fr r], [])⟩
noncomputable def spec_l01In_ls : List LSum := []
noncomputable def spec_l01In_tab : List Row := []
theorem spec_l01In_t : ∀ r, r ∈ spec_l01In_tab → RowIs Go.Proofs.Tryz.prog r := tab_nil
theorem spec_l01In_rs : RoundsOK (mkCtx Go.K.Link.seat spec_l01In_c spec_l01In_tab) (sums spec_l01In_ls) (loopsOf 0 spec_l01In_code) spec_l01In_ls := trivial
theorem spec_l01In_e : ∀ v, (evFn (mkCtx Go.K.Link.seat spec_l01In_c spec_l01In_tab) (sums spec_l01In_ls) 105 Go.Proofs.Tryz.f105 (encL spec_l01In_s.a v)).run = (spec_l01In_s.gen v).bind fun y => some (spec_l01In_s.out y) := by
  rintro ⟨n, ⟨low, ⟨high, _⟩⟩⟩
  show _ = (spec_l01In n low high).bind fun y : Bool => some (spec_l01In_s.out y)
  simp only [spec_l01In, kb_ite, kb_some, kb_none, kb_bind, kb_alt]
  kernel_rfl
theorem spec_l01In_is : FnIs Go.Proofs.Tryz.prog 105 (modeOf []) (phi [spec_l01In_s]) := spec_is (c := spec_l01In_c) seatOK spec_l01In_t Go.Proofs.Tryz.func105 rfl (code := spec_l01In_code) rfl rfl spec_l01In_rs spec_l01In_e
noncomputable def spec_l01Is_s : Spec := ⟨[.v (.pair (.int .i64) (.pair (.int .i64) (.unit))) .fr], Bool, fun v => spec_l01Is v.1, fun r => ([.v (.bool) .fr r], [])⟩
noncomputable def spec_l01Is_ls : List LSum := []
noncomputable def spec_l01Is_tab : List Row := [⟨158, [], [spec_l01Divisor_s]⟩, ⟨105, [], [spec_l01In_s]⟩]
theorem spec_l01Is_t : ∀ r, r ∈ spec_l01Is_tab → RowIs Go.Proofs.Tryz.prog r := tab_cons (spec_l01Divisor_is) (tab_cons (spec_l01In_is) (tab_nil))
theorem spec_l01Is_rs : RoundsOK (mkCtx Go.K.Link.seat spec_l01Is_c spec_l01Is_tab) (sums spec_l01Is_ls) (loopsOf 0 spec_l01Is_code) spec_l01Is_ls := trivial
theorem spec_l01Is_e : ∀ v, (evFn (mkCtx Go.K.Link.seat spec_l01Is_c spec_l01Is_tab) (sums spec_l01Is_ls) 104 Go.Proofs.Tryz.f104 (encL spec_l01Is_s.a v)).run = (spec_l01Is_s.gen v).bind fun y => some (spec_l01Is_s.out y) := by
  rintro ⟨a, _⟩
  show _ = (spec_l01Is a).bind fun y : Bool => some (spec_l01Is_s.out y)
  simp only [spec_l01Is, kb_ite, kb_some, kb_none, kb_bind, kb_alt]
  kernel_rfl
theorem spec_l01Is_is : FnIs Go.Proofs.Tryz.prog 104 (modeOf []) (phi [spec_l01Is_s]) := spec_is (c := spec_l01Is_c) seatOK spec_l01Is_t Go.Proofs.Tryz.func104 rfl (code := spec_l01Is_code) rfl rfl spec_l01Is_rs spec_l01Is_e
noncomputable def spec_l04Period_code : Code := (Go.Proofs.Tryz.f119.body).getD .skip
def spec_l04Period_c : Cfg := ⟨119, [], [], [], [], []⟩
noncomputable def spec_l01Orbit_code : Code := (Go.Proofs.Tryz.f151.body).getD .skip
def spec_l01Orbit_c : Cfg := ⟨151, [], [[1, 5, 6, 7, 18, 34, 42], [1, 5, 7, 18, 34, 42], [2, 3, 4, 7, 18, 34, 42], [], [], [], [5, 7, 8, 18, 34, 42], [], [2, 3, 4, 7, 18, 34, 42]], [], [], []⟩
noncomputable def spec_l01Orbit_l0_s : LSum := ⟨0, ⟨[(1, .val (.ptr (.pair (.int .i64) (.pair (.int .i64) (.unit)))) (.own .fr)), (3, .val (.int .i64) .fr), (0, .val (.int .i64) .fr)], 37⟩, (.exit 0, ⟨[(1, .val (.ptr (.pair (.int .i64) (.pair (.int .i64) (.unit)))) (.own .fr)), (3, .val (.int .i64) .fr)], 38⟩), [], spec_l01Orbit_l0⟩
noncomputable def spec_l01Double_code : Code := (Go.Proofs.Tryz.f169.body).getD .skip
def spec_l01Double_c : Cfg := ⟨169, [], [], [], [], []⟩
noncomputable def spec_l01Double_s : Spec := ⟨[.v (.pair (.int .i64) (.pair (.int .i64) (.unit))) .fr], (Int × (Int × Unit)), fun v => spec_l01Double v.1, fun r => ([.v (.pair (.int .i64) (.pair (.int .i64) (.unit))) .fr r], [])⟩
noncomputable def spec_l01Double_ls : List LSum := []
noncomputable def spec_l01Double_tab : List Row := [⟨120, [], [spec_l01Of_s]⟩]
theorem spec_l01Double_t : ∀ r, r ∈ spec_l01Double_tab → RowIs Go.Proofs.Tryz.prog r := tab_cons (spec_l01Of_is) (tab_nil)
theorem spec_l01Double_rs : RoundsOK (mkCtx Go.K.Link.seat spec_l01Double_c spec_l01Double_tab) (sums spec_l01Double_ls) (loopsOf 0 spec_l01Double_code) spec_l01Double_ls := trivial
theorem spec_l01Double_e : ∀ v, (evFn (mkCtx Go.K.Link.seat spec_l01Double_c spec_l01Double_tab) (sums spec_l01Double_ls) 169 Go.Proofs.Tryz.f169 (encL spec_l01Double_s.a v)).run = (spec_l01Double_s.gen v).bind fun y => some (spec_l01Double_s.out y) := by
  rintro ⟨a, _⟩
  show _ = (spec_l01Double a).bind fun y : (Int × (Int × Unit)) => some (spec_l01Double_s.out y)
  simp only [spec_l01Double, kb_ite, kb_some, kb_none, kb_bind, kb_alt]
  kernel_rfl
theorem spec_l01Double_is : FnIs Go.Proofs.Tryz.prog 169 (modeOf []) (phi [spec_l01Double_s]) := spec_is (c := spec_l01Double_c) seatOK spec_l01Double_t Go.Proofs.Tryz.func169 rfl (code := spec_l01Double_code) rfl rfl spec_l01Double_rs spec_l01Double_e
noncomputable def spec_l01Orbit_l1_s : LSum := ⟨2, ⟨[(5, .val (.int .i64) .fr), (1, .val (.sl 27 (.pair (.int .i64) (.pair (.int .i64) (.unit)))) (.own .fr)), (0, .val (.ptr (.pair (.int .i64) (.pair (.int .i64) (.unit)))) (.own .fr))], 35⟩, (.ret, ⟨[(2, .sref 7 []), (0, .val (.int .i64) .fr), (0, .val (.bool) .fr), (2, .val (.sl 27 (.pair (.int .i64) (.pair (.int .i64) (.unit)))) (.own .fr)), (26, .sref 7 [])], 9⟩), [(.ret, ⟨[(2, .val (.sl 27 (.pair (.int .i64) (.pair (.int .i64) (.unit)))) (.own .fr)), (0, .val (.int .i64) .fr), (0, .val (.bool) .fr), (2, .val (.sl 27 (.pair (.int .i64) (.pair (.int .i64) (.unit)))) (.own .fr))], 36⟩)], spec_l01Orbit_l1⟩
noncomputable def spec_l01Orbit_s : Spec := ⟨[.v (.pair (.int .i64) (.pair (.int .i64) (.unit))) .fr], (List (Int × (Int × Unit))) × Int × Bool, fun v => spec_l01Orbit v.1, fun r => ([.v (.sl 27 (.pair (.int .i64) (.pair (.int .i64) (.unit)))) (.own .fr) r.1, .v (.int .i64) .fr r.2.1, .v (.bool) .fr r.2.2], [])⟩
noncomputable def spec_l01Orbit_ls : List LSum := [spec_l01Orbit_l0_s, spec_l01Orbit_l1_s]
noncomputable def spec_l01Orbit_tab : List Row := [⟨169, [], [spec_l01Double_s]⟩]
theorem spec_l01Orbit_t : ∀ r, r ∈ spec_l01Orbit_tab → RowIs Go.Proofs.Tryz.prog r := tab_cons (spec_l01Double_is) (tab_nil)
theorem spec_l01Orbit_l0_r : RoundIs (mkCtx Go.K.Link.seat spec_l01Orbit_c spec_l01Orbit_tab) (sums spec_l01Orbit_ls) 0 (bodyAt (loopsOf 0 spec_l01Orbit_code) 0) spec_l01Orbit_l0_s := by
  rintro ⟨a, ⟨pre, ⟨den, _⟩⟩⟩
  show _ = (spec_l01Orbit_l0 (a, (pre, (den, ())))).bind fun r : (Ctl (((Int × (Int × Unit))) × Int × Int × Unit) ((((Int × (Int × Unit))) × Int × Unit))) => some (ctlVal spec_l01Orbit_l0_s r)
  simp only [spec_l01Orbit_l0, kb_ite, kb_some, kb_none, kb_bind, kb_alt]
  kernel_rfl
theorem spec_l01Orbit_l1_r : RoundIs (mkCtx Go.K.Link.seat spec_l01Orbit_c spec_l01Orbit_tab) (sums spec_l01Orbit_ls) 2 (bodyAt (loopsOf 0 spec_l01Orbit_code) 1) spec_l01Orbit_l1_s := by
  rintro ⟨pre, ⟨out, ⟨x, _⟩⟩⟩
  show _ = (spec_l01Orbit_l1 (pre, (out, (x, ())))).bind fun r : (Ctl (Int × (List (Int × (Int × Unit))) × ((Int × (Int × Unit))) × Unit) ((Int × Bool × (List (Int × (Int × Unit))) × Unit) ⊕ ((List (Int × (Int × Unit))) × Int × Bool × (List (Int × (Int × Unit))) × Unit))) => some (ctlVal spec_l01Orbit_l1_s r)
  simp only [spec_l01Orbit_l1, kb_ite, kb_some, kb_none, kb_bind, kb_alt]
  kernel_rfl
theorem spec_l01Orbit_rs : RoundsOK (mkCtx Go.K.Link.seat spec_l01Orbit_c spec_l01Orbit_tab) (sums spec_l01Orbit_ls) (loopsOf 0 spec_l01Orbit_code) spec_l01Orbit_ls := ⟨⟨rfl, rfl, spec_l01Orbit_l0_r⟩, ⟨⟨rfl, rfl, spec_l01Orbit_l1_r⟩, trivial⟩⟩
theorem spec_l01Orbit_e : ∀ v, (evFn (mkCtx Go.K.Link.seat spec_l01Orbit_c spec_l01Orbit_tab) (sums spec_l01Orbit_ls) 151 Go.Proofs.Tryz.f151 (encL spec_l01Orbit_s.a v)).run = (spec_l01Orbit_s.gen v).bind fun y => some (spec_l01Orbit_s.out y) := by
  rintro ⟨a, _⟩
  show _ = (spec_l01Orbit a).bind fun y : (List (Int × (Int × Unit))) × Int × Bool => some (spec_l01Orbit_s.out y)
  simp only [spec_l01Orbit, kb_ite, kb_some, kb_none, kb_bind, kb_alt]
  kernel_rfl
theorem spec_l01Orbit_is : FnIs Go.Proofs.Tryz.prog 151 (modeOf []) (phi [spec_l01Orbit_s]) := spec_is (c := spec_l01Orbit_c) seatOK spec_l01Orbit_t Go.Proofs.Tryz.func151 rfl (code := spec_l01Orbit_code) rfl rfl spec_l01Orbit_rs spec_l01Orbit_e
noncomputable def spec_l04Period_s : Spec := ⟨[.v (.pair (.int .i64) (.pair (.int .i64) (.unit))) .fr], Int, fun v => spec_l04Period v.1, fun r => ([.v (.int .i64) .fr r], [])⟩
noncomputable def spec_l04Period_ls : List LSum := []
noncomputable def spec_l04Period_tab : List Row := [⟨151, [], [spec_l01Orbit_s]⟩]
theorem spec_l04Period_t : ∀ r, r ∈ spec_l04Period_tab → RowIs Go.Proofs.Tryz.prog r := tab_cons (spec_l01Orbit_is) (tab_nil)
theorem spec_l04Period_rs : RoundsOK (mkCtx Go.K.Link.seat spec_l04Period_c spec_l04Period_tab) (sums spec_l04Period_ls) (loopsOf 0 spec_l04Period_code) spec_l04Period_ls := trivial
theorem spec_l04Period_e : ∀ v, (evFn (mkCtx Go.K.Link.seat spec_l04Period_c spec_l04Period_tab) (sums spec_l04Period_ls) 119 Go.Proofs.Tryz.f119 (encL spec_l04Period_s.a v)).run = (spec_l04Period_s.gen v).bind fun y => some (spec_l04Period_s.out y) := by
  rintro ⟨x, _⟩
  show _ = (spec_l04Period x).bind fun y : Int => some (spec_l04Period_s.out y)
  simp only [spec_l04Period, kb_ite, kb_some, kb_none, kb_bind, kb_alt]
  kernel_rfl
theorem spec_l04Period_is : FnIs Go.Proofs.Tryz.prog 119 (modeOf []) (phi [spec_l04Period_s]) := spec_is (c := spec_l04Period_c) seatOK spec_l04Period_t Go.Proofs.Tryz.func119 rfl (code := spec_l04Period_code) rfl rfl spec_l04Period_rs spec_l04Period_e
noncomputable def spec_l04Code_s : Spec := ⟨[.v (.pair (.int .i64) (.pair (.int .i64) (.unit))) .fr], Int, fun v => spec_l04Code v.1, fun r => ([.v (.int .i64) .fr r], [])⟩
noncomputable def spec_l04Code_ls : List LSum := []
noncomputable def spec_l04Code_tab : List Row := [⟨104, [], [spec_l01Is_s]⟩, ⟨105, [], [spec_l01In_s]⟩, ⟨119, [], [spec_l04Period_s]⟩]
theorem spec_l04Code_t : ∀ r, r ∈ spec_l04Code_tab → RowIs Go.Proofs.Tryz.prog r := tab_cons (spec_l01Is_is) (tab_cons (spec_l01In_is) (tab_cons (spec_l04Period_is) (tab_nil)))
theorem spec_l04Code_rs : RoundsOK (mkCtx Go.K.Link.seat spec_l04Code_c spec_l04Code_tab) (sums spec_l04Code_ls) (loopsOf 0 spec_l04Code_code) spec_l04Code_ls := trivial
theorem spec_l04Code_e : ∀ v, (evFn (mkCtx Go.K.Link.seat spec_l04Code_c spec_l04Code_tab) (sums spec_l04Code_ls) 85 Go.Proofs.Tryz.f85 (encL spec_l04Code_s.a v)).run = (spec_l04Code_s.gen v).bind fun y => some (spec_l04Code_s.out y) := by
  rintro ⟨x, _⟩
  show _ = (spec_l04Code x).bind fun y : Int => some (spec_l04Code_s.out y)
  simp only [spec_l04Code, kb_ite, kb_some, kb_none, kb_bind, kb_alt]
  kernel_rfl
theorem spec_l04Code_is : FnIs Go.Proofs.Tryz.prog 85 (modeOf []) (phi [spec_l04Code_s]) := spec_is (c := spec_l04Code_c) seatOK spec_l04Code_t Go.Proofs.Tryz.func85 rfl (code := spec_l04Code_code) rfl rfl spec_l04Code_rs spec_l04Code_e
noncomputable def spec_l04Pair_code : Code := (Go.Proofs.Tryz.f87.body).getD .skip
def spec_l04Pair_c : Cfg := ⟨87, [], [[1, 2, 3, 4, 7], [2], [2]], [], [], []⟩
noncomputable def spec_l04Pairs_code : Code := (Go.Proofs.Tryz.f126.body).getD .skip
def spec_l04Pairs_c : Cfg := ⟨126, [], [[0, 3, 4, 5, 13], [3, 5, 13], [2, 3, 5, 13, 14]], [], [0], []⟩
noncomputable def spec_l04Join_code : Code := (Go.Proofs.Tryz.f176.body).getD .skip
def spec_l04Join_c : Cfg := ⟨176, [.own], [[0, 5, 6, 7, 11, 14, 58], [0, 58], [0, 4, 58, 65], [], [], [], [0, 5, 6, 7, 8, 11, 14, 58], [0, 5, 6, 7, 11, 14, 58], [0, 4, 58, 65]], [], [], []⟩
noncomputable def spec_l04Angles_code : Code := (Go.Proofs.Tryz.f139.body).getD .skip
def spec_l04Angles_c : Cfg := ⟨139, [], [[0, 3, 4, 5, 7, 27], [3, 7, 27], [2, 3, 7, 27, 28]], [], [], []⟩
noncomputable def spec_l04Angles_l0_s : LSum := ⟨0, ⟨[(0, .val (.int .i64) .fr), (2, .val (.sl 27 (.pair (.int .i64) (.pair (.int .i64) (.unit)))) (.own .fr)), (0, .val (.int .i64) .fr), (0, .val (.int .i64) .fr)], 23⟩, (.exit 0, ⟨[(3, .val (.sl 27 (.pair (.int .i64) (.pair (.int .i64) (.unit)))) (.own .fr))], 25⟩), [], spec_l04Angles_l0⟩
noncomputable def spec_l04Angles_s : Spec := ⟨[.v (.int .i64) .fr], (List (Int × (Int × Unit))), fun v => spec_l04Angles v.1, fun r => ([.v (.sl 27 (.pair (.int .i64) (.pair (.int .i64) (.unit)))) (.own .fr) r], [])⟩
noncomputable def spec_l04Angles_ls : List LSum := [spec_l04Angles_l0_s]
noncomputable def spec_l04Angles_tab : List Row := [⟨119, [], [spec_l04Period_s]⟩, ⟨120, [], [spec_l01Of_s]⟩]
theorem spec_l04Angles_t : ∀ r, r ∈ spec_l04Angles_tab → RowIs Go.Proofs.Tryz.prog r := tab_cons (spec_l04Period_is) (tab_cons (spec_l01Of_is) (tab_nil))
theorem spec_l04Angles_l0_r : RoundIs (mkCtx Go.K.Link.seat spec_l04Angles_c spec_l04Angles_tab) (sums spec_l04Angles_ls) 0 (bodyAt (loopsOf 0 spec_l04Angles_code) 0) spec_l04Angles_l0_s := by
  rintro ⟨n, ⟨out, ⟨den, ⟨k, _⟩⟩⟩⟩
  show _ = (spec_l04Angles_l0 (n, (out, (den, (k, ()))))).bind fun r : (Ctl (Int × (List (Int × (Int × Unit))) × Int × Int × Unit) (((List (Int × (Int × Unit))) × Unit))) => some (ctlVal spec_l04Angles_l0_s r)
  simp only [spec_l04Angles_l0, kb_ite, kb_some, kb_none, kb_bind, kb_alt]
  kernel_rfl
theorem spec_l04Angles_rs : RoundsOK (mkCtx Go.K.Link.seat spec_l04Angles_c spec_l04Angles_tab) (sums spec_l04Angles_ls) (loopsOf 0 spec_l04Angles_code) spec_l04Angles_ls := ⟨⟨rfl, rfl, spec_l04Angles_l0_r⟩, trivial⟩
theorem spec_l04Angles_e : ∀ v, (evFn (mkCtx Go.K.Link.seat spec_l04Angles_c spec_l04Angles_tab) (sums spec_l04Angles_ls) 139 Go.Proofs.Tryz.f139 (encL spec_l04Angles_s.a v)).run = (spec_l04Angles_s.gen v).bind fun y => some (spec_l04Angles_s.out y) := by
  rintro ⟨n, _⟩
  show _ = (spec_l04Angles n).bind fun y : (List (Int × (Int × Unit))) => some (spec_l04Angles_s.out y)
  simp only [spec_l04Angles, kb_ite, kb_some, kb_none, kb_bind, kb_alt]
  kernel_rfl
theorem spec_l04Angles_is : FnIs Go.Proofs.Tryz.prog 139 (modeOf []) (phi [spec_l04Angles_s]) := spec_is (c := spec_l04Angles_c) seatOK spec_l04Angles_t Go.Proofs.Tryz.func139 rfl (code := spec_l04Angles_code) rfl rfl spec_l04Angles_rs spec_l04Angles_e
noncomputable def spec_l04Free_code : Code := (Go.Proofs.Tryz.f199.body).getD .skip
def spec_l04Free_c : Cfg := ⟨199, [], [[1, 2, 5], [], [4]], [], [], []⟩
noncomputable def spec_l04Cross_code : Code := (Go.Proofs.Tryz.f144.body).getD .skip
def spec_l04Cross_c : Cfg := ⟨144, [], [], [], [], []⟩
noncomputable def spec_l04Inside_code : Code := (Go.Proofs.Tryz.f175.body).getD .skip
def spec_l04Inside_c : Cfg := ⟨175, [], [], [], [], []⟩
noncomputable def spec_l01Within_code : Code := (Go.Proofs.Tryz.f198.body).getD .skip
def spec_l01Within_c : Cfg := ⟨198, [], [], [], [], []⟩
noncomputable def spec_l01Less_code : Code := (Go.Proofs.Tryz.f113.body).getD .skip
def spec_l01Less_c : Cfg := ⟨113, [], [], [], [], []⟩
noncomputable def spec_l01Less_s : Spec := ⟨[.v (.pair (.int .i64) (.pair (.int .i64) (.unit))) .fr, .v (.pair (.int .i64) (.pair (.int .i64) (.unit))) .fr], Bool, fun v => spec_l01Less v.1 v.2.1, fun r => ([.v (.bool) .fr r], [])⟩
noncomputable def spec_l01Less_ls : List LSum := []
noncomputable def spec_l01Less_tab : List Row := []
theorem spec_l01Less_t : ∀ r, r ∈ spec_l01Less_tab → RowIs Go.Proofs.Tryz.prog r := tab_nil
theorem spec_l01Less_rs : RoundsOK (mkCtx Go.K.Link.seat spec_l01Less_c spec_l01Less_tab) (sums spec_l01Less_ls) (loopsOf 0 spec_l01Less_code) spec_l01Less_ls := trivial
theorem spec_l01Less_e : ∀ v, (evFn (mkCtx Go.K.Link.seat spec_l01Less_c spec_l01Less_tab) (sums spec_l01Less_ls) 113 Go.Proofs.Tryz.f113 (encL spec_l01Less_s.a v)).run = (spec_l01Less_s.gen v).bind fun y => some (spec_l01Less_s.out y) := by
  rintro ⟨a, ⟨b, _⟩⟩
  show _ = (spec_l01Less a b).bind fun y : Bool => some (spec_l01Less_s.out y)
  simp only [spec_l01Less, kb_ite, kb_some, kb_none, kb_bind, kb_alt]
  kernel_rfl
theorem spec_l01Less_is : FnIs Go.Proofs.Tryz.prog 113 (modeOf []) (phi [spec_l01Less_s]) := spec_is (c := spec_l01Less_c) seatOK spec_l01Less_t Go.Proofs.Tryz.func113 rfl (code := spec_l01Less_code) rfl rfl spec_l01Less_rs spec_l01Less_e
noncomputable def spec_l01Within_s : Spec := ⟨[.v (.pair (.int .i64) (.pair (.int .i64) (.unit))) .fr, .v (.pair (.int .i64) (.pair (.int .i64) (.unit))) .fr, .v (.pair (.int .i64) (.pair (.int .i64) (.unit))) .fr], Bool, fun v => spec_l01Within v.1 v.2.1 v.2.2.1, fun r => ([.v (.bool) .fr r], [])⟩
noncomputable def spec_l01Within_ls : List LSum := []
noncomputable def spec_l01Within_tab : List Row := [⟨113, [], [spec_l01Less_s]⟩]
theorem spec_l01Within_t : ∀ r, r ∈ spec_l01Within_tab → RowIs Go.Proofs.Tryz.prog r := tab_cons (spec_l01Less_is) (tab_nil)
theorem spec_l01Within_rs : RoundsOK (mkCtx Go.K.Link.seat spec_l01Within_c spec_l01Within_tab) (sums spec_l01Within_ls) (loopsOf 0 spec_l01Within_code) spec_l01Within_ls := trivial
theorem spec_l01Within_e : ∀ v, (evFn (mkCtx Go.K.Link.seat spec_l01Within_c spec_l01Within_tab) (sums spec_l01Within_ls) 198 Go.Proofs.Tryz.f198 (encL spec_l01Within_s.a v)).run = (spec_l01Within_s.gen v).bind fun y => some (spec_l01Within_s.out y) := by
  rintro ⟨x, ⟨a, ⟨b, _⟩⟩⟩
  show _ = (spec_l01Within x a b).bind fun y : Bool => some (spec_l01Within_s.out y)
  simp only [spec_l01Within, kb_ite, kb_some, kb_none, kb_bind, kb_alt]
  kernel_rfl
theorem spec_l01Within_is : FnIs Go.Proofs.Tryz.prog 198 (modeOf []) (phi [spec_l01Within_s]) := spec_is (c := spec_l01Within_c) seatOK spec_l01Within_t Go.Proofs.Tryz.func198 rfl (code := spec_l01Within_code) rfl rfl spec_l01Within_rs spec_l01Within_e
noncomputable def spec_l04Inside_s : Spec := ⟨[.v (.pair (.int .i64) (.pair (.int .i64) (.unit))) .fr, .v (.pair (.pair (.int .i64) (.pair (.int .i64) (.unit))) (.pair (.pair (.int .i64) (.pair (.int .i64) (.unit))) (.unit))) .fr], Bool, fun v => spec_l04Inside v.1 v.2.1, fun r => ([.v (.bool) .fr r], [])⟩
noncomputable def spec_l04Inside_ls : List LSum := []
noncomputable def spec_l04Inside_tab : List Row := [⟨198, [], [spec_l01Within_s]⟩]
theorem spec_l04Inside_t : ∀ r, r ∈ spec_l04Inside_tab → RowIs Go.Proofs.Tryz.prog r := tab_cons (spec_l01Within_is) (tab_nil)
theorem spec_l04Inside_rs : RoundsOK (mkCtx Go.K.Link.seat spec_l04Inside_c spec_l04Inside_tab) (sums spec_l04Inside_ls) (loopsOf 0 spec_l04Inside_code) spec_l04Inside_ls := trivial
theorem spec_l04Inside_e : ∀ v, (evFn (mkCtx Go.K.Link.seat spec_l04Inside_c spec_l04Inside_tab) (sums spec_l04Inside_ls) 175 Go.Proofs.Tryz.f175 (encL spec_l04Inside_s.a v)).run = (spec_l04Inside_s.gen v).bind fun y => some (spec_l04Inside_s.out y) := by
  rintro ⟨x, ⟨p, _⟩⟩
  show _ = (spec_l04Inside x p).bind fun y : Bool => some (spec_l04Inside_s.out y)
  simp only [spec_l04Inside, kb_ite, kb_some, kb_none, kb_bind, kb_alt]
  kernel_rfl
theorem spec_l04Inside_is : FnIs Go.Proofs.Tryz.prog 175 (modeOf []) (phi [spec_l04Inside_s]) := spec_is (c := spec_l04Inside_c) seatOK spec_l04Inside_t Go.Proofs.Tryz.func175 rfl (code := spec_l04Inside_code) rfl rfl spec_l04Inside_rs spec_l04Inside_e
noncomputable def spec_l04Cross_s : Spec := ⟨[.v (.pair (.pair (.int .i64) (.pair (.int .i64) (.unit))) (.pair (.pair (.int .i64) (.pair (.int .i64) (.unit))) (.unit))) .fr, .v (.pair (.pair (.int .i64) (.pair (.int .i64) (.unit))) (.pair (.pair (.int .i64) (.pair (.int .i64) (.unit))) (.unit))) .fr], Bool, fun v => spec_l04Cross v.1 v.2.1, fun r => ([.v (.bool) .fr r], [])⟩
noncomputable def spec_l04Cross_ls : List LSum := []
noncomputable def spec_l04Cross_tab : List Row := [⟨175, [], [spec_l04Inside_s]⟩]
theorem spec_l04Cross_t : ∀ r, r ∈ spec_l04Cross_tab → RowIs Go.Proofs.Tryz.prog r := tab_cons (spec_l04Inside_is) (tab_nil)
theorem spec_l04Cross_rs : RoundsOK (mkCtx Go.K.Link.seat spec_l04Cross_c spec_l04Cross_tab) (sums spec_l04Cross_ls) (loopsOf 0 spec_l04Cross_code) spec_l04Cross_ls := trivial
theorem spec_l04Cross_e : ∀ v, (evFn (mkCtx Go.K.Link.seat spec_l04Cross_c spec_l04Cross_tab) (sums spec_l04Cross_ls) 144 Go.Proofs.Tryz.f144 (encL spec_l04Cross_s.a v)).run = (spec_l04Cross_s.gen v).bind fun y => some (spec_l04Cross_s.out y) := by
  rintro ⟨a, ⟨b, _⟩⟩
  show _ = (spec_l04Cross a b).bind fun y : Bool => some (spec_l04Cross_s.out y)
  simp only [spec_l04Cross, kb_ite, kb_some, kb_none, kb_bind, kb_alt]
  kernel_rfl
theorem spec_l04Cross_is : FnIs Go.Proofs.Tryz.prog 144 (modeOf []) (phi [spec_l04Cross_s]) := spec_is (c := spec_l04Cross_c) seatOK spec_l04Cross_t Go.Proofs.Tryz.func144 rfl (code := spec_l04Cross_code) rfl rfl spec_l04Cross_rs spec_l04Cross_e
noncomputable def spec_l04Free_l0_s : LSum := ⟨0, ⟨[(1, .val (.sl 47 (.pair (.pair (.int .i64) (.pair (.int .i64) (.unit))) (.pair (.pair (.int .i64) (.pair (.int .i64) (.unit))) (.unit)))) .fr), (0, .val (.ptr (.pair (.pair (.int .i64) (.pair (.int .i64) (.unit))) (.pair (.pair (.int .i64) (.pair (.int .i64) (.unit))) (.unit)))) (.own .fr)), (2, .val (.int .i64) .fr)], 12⟩, (.ret, ⟨[(4, .val (.bool) .fr)], 13⟩), [(.exit 0, ⟨[], 18⟩)], spec_l04Free_l0⟩
noncomputable def spec_l04Free_s : Spec := ⟨[.v (.pair (.pair (.int .i64) (.pair (.int .i64) (.unit))) (.pair (.pair (.int .i64) (.pair (.int .i64) (.unit))) (.unit))) .fr, .v (.sl 47 (.pair (.pair (.int .i64) (.pair (.int .i64) (.unit))) (.pair (.pair (.int .i64) (.pair (.int .i64) (.unit))) (.unit)))) .fr], Bool, fun v => spec_l04Free v.1 v.2.1, fun r => ([.v (.bool) .fr r], [])⟩
noncomputable def spec_l04Free_ls : List LSum := [spec_l04Free_l0_s]
noncomputable def spec_l04Free_tab : List Row := [⟨144, [], [spec_l04Cross_s]⟩]
theorem spec_l04Free_t : ∀ r, r ∈ spec_l04Free_tab → RowIs Go.Proofs.Tryz.prog r := tab_cons (spec_l04Cross_is) (tab_nil)
theorem spec_l04Free_l0_r : RoundIs (mkCtx Go.K.Link.seat spec_l04Free_c spec_l04Free_tab) (sums spec_l04Free_ls) 0 (bodyAt (loopsOf 0 spec_l04Free_code) 0) spec_l04Free_l0_s := by
  rintro ⟨list, ⟨p, ⟨i, _⟩⟩⟩
  show _ = (spec_l04Free_l0 (list, (p, (i, ())))).bind fun r : (Ctl ((List ((Int × (Int × Unit)) × ((Int × (Int × Unit)) × Unit))) × (((Int × (Int × Unit)) × ((Int × (Int × Unit)) × Unit))) × Int × Unit) ((Bool × Unit) ⊕ (Unit))) => some (ctlVal spec_l04Free_l0_s r)
  simp only [spec_l04Free_l0, kb_ite, kb_some, kb_none, kb_bind, kb_alt]
  kernel_rfl
theorem spec_l04Free_rs : RoundsOK (mkCtx Go.K.Link.seat spec_l04Free_c spec_l04Free_tab) (sums spec_l04Free_ls) (loopsOf 0 spec_l04Free_code) spec_l04Free_ls := ⟨⟨rfl, rfl, spec_l04Free_l0_r⟩, trivial⟩
theorem spec_l04Free_e : ∀ v, (evFn (mkCtx Go.K.Link.seat spec_l04Free_c spec_l04Free_tab) (sums spec_l04Free_ls) 199 Go.Proofs.Tryz.f199 (encL spec_l04Free_s.a v)).run = (spec_l04Free_s.gen v).bind fun y => some (spec_l04Free_s.out y) := by
  rintro ⟨p, ⟨list, _⟩⟩
  show _ = (spec_l04Free p list).bind fun y : Bool => some (spec_l04Free_s.out y)
  simp only [spec_l04Free, kb_ite, kb_some, kb_none, kb_bind, kb_alt]
  kernel_rfl
theorem spec_l04Free_is : FnIs Go.Proofs.Tryz.prog 199 (modeOf []) (phi [spec_l04Free_s]) := spec_is (c := spec_l04Free_c) seatOK spec_l04Free_t Go.Proofs.Tryz.func199 rfl (code := spec_l04Free_code) rfl rfl spec_l04Free_rs spec_l04Free_e
noncomputable def spec_l04Join_l1_s : LSum := ⟨2, ⟨[(0, .val (.sl 47 (.pair (.pair (.int .i64) (.pair (.int .i64) (.unit))) (.pair (.pair (.int .i64) (.pair (.int .i64) (.unit))) (.unit)))) (.own .fr)), (4, .val (.sl 27 (.pair (.int .i64) (.pair (.int .i64) (.unit)))) (.own .fr)), (0, .val (.sl 4 (.bool)) (.own .fr)), (0, .val (.int .i64) .fr), (0, .val (.int .i64) .fr)], 57⟩, (.exit 2, ⟨[(0, .val (.sl 47 (.pair (.pair (.int .i64) (.pair (.int .i64) (.unit))) (.pair (.pair (.int .i64) (.pair (.int .i64) (.unit))) (.unit)))) (.own .fr)), (4, .val (.sl 27 (.pair (.int .i64) (.pair (.int .i64) (.unit)))) (.own .fr)), (0, .val (.sl 4 (.bool)) (.own .fr)), (0, .val (.int .i64) .fr)], 58⟩), [], spec_l04Join_l1⟩
noncomputable def spec_l04Join_l0_s : LSum := ⟨0, ⟨[(0, .val (.sl 47 (.pair (.pair (.int .i64) (.pair (.int .i64) (.unit))) (.pair (.pair (.int .i64) (.pair (.int .i64) (.unit))) (.unit)))) (.own .fr)), (4, .val (.sl 27 (.pair (.int .i64) (.pair (.int .i64) (.unit)))) (.own .fr)), (0, .val (.sl 4 (.bool)) (.own .fr)), (0, .val (.int .i64) .fr)], 58⟩, (.exit 0, ⟨[(0, .val (.sl 47 (.pair (.pair (.int .i64) (.pair (.int .i64) (.unit))) (.pair (.pair (.int .i64) (.pair (.int .i64) (.unit))) (.unit)))) (.own .fr))], 65⟩), [], spec_l04Join_l0⟩
noncomputable def spec_l04Join_s : Spec := ⟨[.v (.sl 47 (.pair (.pair (.int .i64) (.pair (.int .i64) (.unit))) (.pair (.pair (.int .i64) (.pair (.int .i64) (.unit))) (.unit)))) (.own .fr), .v (.int .i64) .fr], (List ((Int × (Int × Unit)) × ((Int × (Int × Unit)) × Unit))), fun v => spec_l04Join v.1 v.2.1, fun r => ([.v (.sl 47 (.pair (.pair (.int .i64) (.pair (.int .i64) (.unit))) (.pair (.pair (.int .i64) (.pair (.int .i64) (.unit))) (.unit)))) (.own .fr) r], [])⟩
noncomputable def spec_l04Join_ls : List LSum := [spec_l04Join_l0_s, spec_l04Join_l1_s]
noncomputable def spec_l04Join_tab : List Row := [⟨139, [], [spec_l04Angles_s]⟩, ⟨199, [], [spec_l04Free_s]⟩]
theorem spec_l04Join_t : ∀ r, r ∈ spec_l04Join_tab → RowIs Go.Proofs.Tryz.prog r := tab_cons (spec_l04Angles_is) (tab_cons (spec_l04Free_is) (tab_nil))
theorem spec_l04Join_l0_r : RoundIs (mkCtx Go.K.Link.seat spec_l04Join_c spec_l04Join_tab) (sums spec_l04Join_ls) 0 (bodyAt (loopsOf 0 spec_l04Join_code) 0) spec_l04Join_l0_s := by
  rintro ⟨list, ⟨angles, ⟨used, ⟨i, _⟩⟩⟩⟩
  show _ = (spec_l04Join_l0 (list, (angles, (used, (i, ()))))).bind fun r : (Ctl ((List ((Int × (Int × Unit)) × ((Int × (Int × Unit)) × Unit))) × (List (Int × (Int × Unit))) × (List Bool) × Int × Unit) (((List ((Int × (Int × Unit)) × ((Int × (Int × Unit)) × Unit))) × Unit))) => some (ctlVal spec_l04Join_l0_s r)
  simp only [spec_l04Join_l0, kb_ite, kb_some, kb_none, kb_bind, kb_alt]
  kernel_rfl
theorem spec_l04Join_l1_r : RoundIs (mkCtx Go.K.Link.seat spec_l04Join_c spec_l04Join_tab) (sums spec_l04Join_ls) 2 (bodyAt (loopsOf 0 spec_l04Join_code) 1) spec_l04Join_l1_s := by
  rintro ⟨list, ⟨angles, ⟨used, ⟨i, ⟨k, _⟩⟩⟩⟩⟩
  show _ = (spec_l04Join_l1 (list, (angles, (used, (i, (k, ())))))).bind fun r : (Ctl ((List ((Int × (Int × Unit)) × ((Int × (Int × Unit)) × Unit))) × (List (Int × (Int × Unit))) × (List Bool) × Int × Int × Unit) (((List ((Int × (Int × Unit)) × ((Int × (Int × Unit)) × Unit))) × (List (Int × (Int × Unit))) × (List Bool) × Int × Unit))) => some (ctlVal spec_l04Join_l1_s r)
  simp only [spec_l04Join_l1, kb_ite, kb_some, kb_none, kb_bind, kb_alt]
  kernel_rfl
theorem spec_l04Join_rs : RoundsOK (mkCtx Go.K.Link.seat spec_l04Join_c spec_l04Join_tab) (sums spec_l04Join_ls) (loopsOf 0 spec_l04Join_code) spec_l04Join_ls := ⟨⟨rfl, rfl, spec_l04Join_l0_r⟩, ⟨⟨rfl, rfl, spec_l04Join_l1_r⟩, trivial⟩⟩
theorem spec_l04Join_e : ∀ v, (evFn (mkCtx Go.K.Link.seat spec_l04Join_c spec_l04Join_tab) (sums spec_l04Join_ls) 176 Go.Proofs.Tryz.f176 (encL spec_l04Join_s.a v)).run = (spec_l04Join_s.gen v).bind fun y => some (spec_l04Join_s.out y) := by
  rintro ⟨list, ⟨n, _⟩⟩
  show _ = (spec_l04Join list n).bind fun y : (List ((Int × (Int × Unit)) × ((Int × (Int × Unit)) × Unit))) => some (spec_l04Join_s.out y)
  simp only [spec_l04Join, kb_ite, kb_some, kb_none, kb_bind, kb_alt]
  kernel_rfl
theorem spec_l04Join_is : FnIs Go.Proofs.Tryz.prog 176 (modeOf [.own]) (phi [spec_l04Join_s]) := spec_is (c := spec_l04Join_c) seatOK spec_l04Join_t Go.Proofs.Tryz.func176 rfl (code := spec_l04Join_code) rfl rfl spec_l04Join_rs spec_l04Join_e
noncomputable def spec_l04Pairs_l0_s : LSum := ⟨0, ⟨[(0, .val (.int .i64) .fr), (2, .val (.sl 47 (.pair (.pair (.int .i64) (.pair (.int .i64) (.unit))) (.pair (.pair (.int .i64) (.pair (.int .i64) (.unit))) (.unit)))) (.own .fr)), (0, .val (.int .i64) .fr)], 10⟩, (.exit 0, ⟨[(3, .val (.sl 47 (.pair (.pair (.int .i64) (.pair (.int .i64) (.unit))) (.pair (.pair (.int .i64) (.pair (.int .i64) (.unit))) (.unit)))) (.own .fr))], 11⟩), [], spec_l04Pairs_l0⟩
noncomputable def spec_l04Pairs_s : Spec := ⟨[.v (.int .i64) .fr], (List ((Int × (Int × Unit)) × ((Int × (Int × Unit)) × Unit))), fun v => spec_l04Pairs v.1, fun r => ([.v (.sl 47 (.pair (.pair (.int .i64) (.pair (.int .i64) (.unit))) (.pair (.pair (.int .i64) (.pair (.int .i64) (.unit))) (.unit)))) .fr r], [])⟩
noncomputable def spec_l04Pairs_ls : List LSum := [spec_l04Pairs_l0_s]
noncomputable def spec_l04Pairs_tab : List Row := [⟨176, [.own], [spec_l04Join_s]⟩]
theorem spec_l04Pairs_t : ∀ r, r ∈ spec_l04Pairs_tab → RowIs Go.Proofs.Tryz.prog r := tab_cons (spec_l04Join_is) (tab_nil)
theorem spec_l04Pairs_l0_r : RoundIs (mkCtx Go.K.Link.seat spec_l04Pairs_c spec_l04Pairs_tab) (sums spec_l04Pairs_ls) 0 (bodyAt (loopsOf 0 spec_l04Pairs_code) 0) spec_l04Pairs_l0_s := by
  rintro ⟨n, ⟨list, ⟨k, _⟩⟩⟩
  show _ = (spec_l04Pairs_l0 (n, (list, (k, ())))).bind fun r : (Ctl (Int × (List ((Int × (Int × Unit)) × ((Int × (Int × Unit)) × Unit))) × Int × Unit) (((List ((Int × (Int × Unit)) × ((Int × (Int × Unit)) × Unit))) × Unit))) => some (ctlVal spec_l04Pairs_l0_s r)
  simp only [spec_l04Pairs_l0, kb_ite, kb_some, kb_none, kb_bind, kb_alt]
  kernel_rfl
theorem spec_l04Pairs_rs : RoundsOK (mkCtx Go.K.Link.seat spec_l04Pairs_c spec_l04Pairs_tab) (sums spec_l04Pairs_ls) (loopsOf 0 spec_l04Pairs_code) spec_l04Pairs_ls := ⟨⟨rfl, rfl, spec_l04Pairs_l0_r⟩, trivial⟩
theorem spec_l04Pairs_e : ∀ v, (evFn (mkCtx Go.K.Link.seat spec_l04Pairs_c spec_l04Pairs_tab) (sums spec_l04Pairs_ls) 126 Go.Proofs.Tryz.f126 (encL spec_l04Pairs_s.a v)).run = (spec_l04Pairs_s.gen v).bind fun y => some (spec_l04Pairs_s.out y) := by
  rintro ⟨n, _⟩
  show _ = (spec_l04Pairs n).bind fun y : (List ((Int × (Int × Unit)) × ((Int × (Int × Unit)) × Unit))) => some (spec_l04Pairs_s.out y)
  simp only [spec_l04Pairs, kb_ite, kb_some, kb_none, kb_bind, kb_alt]
  kernel_rfl
theorem spec_l04Pairs_is : FnIs Go.Proofs.Tryz.prog 126 (modeOf []) (phi [spec_l04Pairs_s]) := spec_is (c := spec_l04Pairs_c) seatOK spec_l04Pairs_t Go.Proofs.Tryz.func126 rfl (code := spec_l04Pairs_code) rfl rfl spec_l04Pairs_rs spec_l04Pairs_e
noncomputable def spec_l04Pair_l0_s : LSum := ⟨0, ⟨[(1, .val (.ptr (.pair (.int .i64) (.pair (.int .i64) (.unit)))) (.own .fr)), (0, .val (.ptr (.pair (.pair (.int .i64) (.pair (.int .i64) (.unit))) (.pair (.pair (.int .i64) (.pair (.int .i64) (.unit))) (.unit)))) (.own .fr)), (0, .val (.sl 47 (.pair (.pair (.int .i64) (.pair (.int .i64) (.unit))) (.pair (.pair (.int .i64) (.pair (.int .i64) (.unit))) (.unit)))) .fr), (0, .val (.int .i64) .fr), (2, .val (.sl 47 (.pair (.pair (.int .i64) (.pair (.int .i64) (.unit))) (.pair (.pair (.int .i64) (.pair (.int .i64) (.unit))) (.unit)))) .fr)], 27⟩, (.ret, ⟨[(2, .val (.ptr (.pair (.pair (.int .i64) (.pair (.int .i64) (.unit))) (.pair (.pair (.int .i64) (.pair (.int .i64) (.unit))) (.unit)))) (.own .fr))], 32⟩), [(.exit 0, ⟨[(2, .val (.ptr (.pair (.pair (.int .i64) (.pair (.int .i64) (.unit))) (.pair (.pair (.int .i64) (.pair (.int .i64) (.unit))) (.unit)))) (.own .fr))], 32⟩)], spec_l04Pair_l0⟩
noncomputable def spec_l04Pair_s : Spec := ⟨[.v (.pair (.int .i64) (.pair (.int .i64) (.unit))) .fr], ((Int × (Int × Unit)) × ((Int × (Int × Unit)) × Unit)), fun v => spec_l04Pair v.1, fun r => ([.v (.pair (.pair (.int .i64) (.pair (.int .i64) (.unit))) (.pair (.pair (.int .i64) (.pair (.int .i64) (.unit))) (.unit))) .fr r], [])⟩
noncomputable def spec_l04Pair_ls : List LSum := [spec_l04Pair_l0_s]
noncomputable def spec_l04Pair_tab : List Row := [⟨119, [], [spec_l04Period_s]⟩, ⟨126, [], [spec_l04Pairs_s]⟩]
theorem spec_l04Pair_t : ∀ r, r ∈ spec_l04Pair_tab → RowIs Go.Proofs.Tryz.prog r := tab_cons (spec_l04Period_is) (tab_cons (spec_l04Pairs_is) (tab_nil))
theorem spec_l04Pair_l0_r : RoundIs (mkCtx Go.K.Link.seat spec_l04Pair_c spec_l04Pair_tab) (sums spec_l04Pair_ls) 0 (bodyAt (loopsOf 0 spec_l04Pair_code) 0) spec_l04Pair_l0_s := by
  rintro ⟨x, ⟨t2, ⟨list, ⟨i, ⟨t7, _⟩⟩⟩⟩⟩
  show _ = (spec_l04Pair_l0 (x, (t2, (list, (i, (t7, ())))))).bind fun r : (Ctl (((Int × (Int × Unit))) × (((Int × (Int × Unit)) × ((Int × (Int × Unit)) × Unit))) × (List ((Int × (Int × Unit)) × ((Int × (Int × Unit)) × Unit))) × Int × (List ((Int × (Int × Unit)) × ((Int × (Int × Unit)) × Unit))) × Unit) (((((Int × (Int × Unit)) × ((Int × (Int × Unit)) × Unit))) × Unit) ⊕ ((((Int × (Int × Unit)) × ((Int × (Int × Unit)) × Unit))) × Unit))) => some (ctlVal spec_l04Pair_l0_s r)
  simp only [spec_l04Pair_l0, kb_ite, kb_some, kb_none, kb_bind, kb_alt]
  kernel_rfl
theorem spec_l04Pair_rs : RoundsOK (mkCtx Go.K.Link.seat spec_l04Pair_c spec_l04Pair_tab) (sums spec_l04Pair_ls) (loopsOf 0 spec_l04Pair_code) spec_l04Pair_ls := ⟨⟨rfl, rfl, spec_l04Pair_l0_r⟩, trivial⟩
theorem spec_l04Pair_e : ∀ v, (evFn (mkCtx Go.K.Link.seat spec_l04Pair_c spec_l04Pair_tab) (sums spec_l04Pair_ls) 87 Go.Proofs.Tryz.f87 (encL spec_l04Pair_s.a v)).run = (spec_l04Pair_s.gen v).bind fun y => some (spec_l04Pair_s.out y) := by
  rintro ⟨x, _⟩
  show _ = (spec_l04Pair x).bind fun y : ((Int × (Int × Unit)) × ((Int × (Int × Unit)) × Unit)) => some (spec_l04Pair_s.out y)
  simp only [spec_l04Pair, kb_ite, kb_some, kb_none, kb_bind, kb_alt]
  kernel_rfl
theorem spec_l04Pair_is : FnIs Go.Proofs.Tryz.prog 87 (modeOf []) (phi [spec_l04Pair_s]) := spec_is (c := spec_l04Pair_c) seatOK spec_l04Pair_t Go.Proofs.Tryz.func87 rfl (code := spec_l04Pair_code) rfl rfl spec_l04Pair_rs spec_l04Pair_e
noncomputable def spec_PairOf_s : Spec := ⟨[.v (.pair (.int .i64) (.pair (.int .i64) (.unit))) .fr], ((Int × (Int × Unit)) × ((Int × (Int × Unit)) × Unit)) × Int, fun v => spec_PairOf v.1, fun r => ([.v (.pair (.pair (.int .i64) (.pair (.int .i64) (.unit))) (.pair (.pair (.int .i64) (.pair (.int .i64) (.unit))) (.unit))) .fr r.1, .v (.int .i64) .fr r.2], [])⟩
noncomputable def spec_PairOf_ls : List LSum := []
noncomputable def spec_PairOf_tab : List Row := [⟨85, [], [spec_l04Code_s]⟩, ⟨87, [], [spec_l04Pair_s]⟩]
theorem spec_PairOf_t : ∀ r, r ∈ spec_PairOf_tab → RowIs Go.Proofs.Tryz.prog r := tab_cons (spec_l04Code_is) (tab_cons (spec_l04Pair_is) (tab_nil))
theorem spec_PairOf_rs : RoundsOK (mkCtx Go.K.Link.seat spec_PairOf_c spec_PairOf_tab) (sums spec_PairOf_ls) (loopsOf 0 spec_PairOf_code) spec_PairOf_ls := trivial
theorem spec_PairOf_e : ∀ v, (evFn (mkCtx Go.K.Link.seat spec_PairOf_c spec_PairOf_tab) (sums spec_PairOf_ls) 71 Go.Proofs.Tryz.f71 (encL spec_PairOf_s.a v)).run = (spec_PairOf_s.gen v).bind fun y => some (spec_PairOf_s.out y) := by
  rintro ⟨x, _⟩
  show _ = (spec_PairOf x).bind fun y : ((Int × (Int × Unit)) × ((Int × (Int × Unit)) × Unit)) × Int => some (spec_PairOf_s.out y)
  simp only [spec_PairOf, kb_ite, kb_some, kb_none, kb_bind, kb_alt]
  kernel_rfl
theorem spec_PairOf_is : FnIs Go.Proofs.Tryz.prog 71 (modeOf []) (phi [spec_PairOf_s]) := spec_is (c := spec_PairOf_c) seatOK spec_PairOf_t Go.Proofs.Tryz.func71 rfl (code := spec_PairOf_code) rfl rfl spec_PairOf_rs spec_PairOf_e
noncomputable def spec_WidthOf_s : Spec := ⟨[.v (.pair (.int .i64) (.pair (.int .i64) (.unit))) .fr], (Int × (Int × Unit)) × Int, fun v => spec_WidthOf v.1, fun r => ([.v (.pair (.int .i64) (.pair (.int .i64) (.unit))) .fr r.1, .v (.int .i64) .fr r.2], [])⟩
noncomputable def spec_WidthOf_ls : List LSum := []
noncomputable def spec_WidthOf_tab : List Row := [⟨71, [], [spec_PairOf_s]⟩, ⟨119, [], [spec_l04Period_s]⟩, ⟨120, [], [spec_l01Of_s]⟩]
theorem spec_WidthOf_t : ∀ r, r ∈ spec_WidthOf_tab → RowIs Go.Proofs.Tryz.prog r := tab_cons (spec_PairOf_is) (tab_cons (spec_l04Period_is) (tab_cons (spec_l01Of_is) (tab_nil)))
theorem spec_WidthOf_rs : RoundsOK (mkCtx Go.K.Link.seat spec_WidthOf_c spec_WidthOf_tab) (sums spec_WidthOf_ls) (loopsOf 0 spec_WidthOf_code) spec_WidthOf_ls := trivial
theorem spec_WidthOf_e : ∀ v, (evFn (mkCtx Go.K.Link.seat spec_WidthOf_c spec_WidthOf_tab) (sums spec_WidthOf_ls) 43 Go.Proofs.Tryz.f43 (encL spec_WidthOf_s.a v)).run = (spec_WidthOf_s.gen v).bind fun y => some (spec_WidthOf_s.out y) := by
  rintro ⟨x, _⟩
  show _ = (spec_WidthOf x).bind fun y : (Int × (Int × Unit)) × Int => some (spec_WidthOf_s.out y)
  simp only [spec_WidthOf, kb_ite, kb_some, kb_none, kb_bind, kb_alt]
  kernel_rfl
theorem spec_WidthOf_is : FnIs Go.Proofs.Tryz.prog 43 (modeOf []) (phi [spec_WidthOf_s]) := spec_is (c := spec_WidthOf_c) seatOK spec_WidthOf_t Go.Proofs.Tryz.func43 rfl (code := spec_WidthOf_code) rfl rfl spec_WidthOf_rs spec_WidthOf_e
noncomputable def impl_IsSatellite_code : Code := (Go.Proofs.Tryz.f44.body).getD .skip
def impl_IsSatellite_c : Cfg := ⟨44, [], [], [], [], []⟩
noncomputable def impl_RayPair_isSatellite_code : Code := (Go.Proofs.Tryz.f121.body).getD .skip
def impl_RayPair_isSatellite_c : Cfg := ⟨121, [], [], [], [], []⟩
noncomputable def impl_Angle_orbit_code : Code := (Go.Proofs.Tryz.f167.body).getD .skip
def impl_Angle_orbit_c : Cfg := ⟨167, [], [[1, 5, 12, 20], [], [2, 3, 4, 5, 12, 20]], [], [], []⟩
noncomputable def slices_Index__impl_Angle_impl_Angle_code : Code := (Go.Proofs.Tryz.f190.body).getD .skip
def slices_Index__impl_Angle_impl_Angle_c : Cfg := ⟨190, [], [[0, 3, 7, 8], [], [4]], [], [], []⟩
noncomputable def slices_Index__impl_Angle_impl_Angle_l0_s : LSum := ⟨0, ⟨[(0, .val (.sl 27 (.pair (.int .i64) (.pair (.int .i64) (.unit)))) .fr), (2, .val (.ptr (.pair (.int .i64) (.pair (.int .i64) (.unit)))) (.own .fr)), (3, .val (.int .i64) .fr), (0, .val (.int .i64) .fr)], 10⟩, (.ret, ⟨[(4, .val (.int .i64) .fr)], 14⟩), [(.exit 0, ⟨[], 19⟩)], slices_Index__impl_Angle_impl_Angle_l0⟩
noncomputable def slices_Index__impl_Angle_impl_Angle_s : Spec := ⟨[.v (.sl 27 (.pair (.int .i64) (.pair (.int .i64) (.unit)))) .fr, .v (.pair (.int .i64) (.pair (.int .i64) (.unit))) .fr], Int, fun v => slices_Index__impl_Angle_impl_Angle v.1 v.2.1, fun r => ([.v (.int .i64) .fr r], [])⟩
noncomputable def slices_Index__impl_Angle_impl_Angle_ls : List LSum := [slices_Index__impl_Angle_impl_Angle_l0_s]
noncomputable def slices_Index__impl_Angle_impl_Angle_tab : List Row := []
theorem slices_Index__impl_Angle_impl_Angle_t : ∀ r, r ∈ slices_Index__impl_Angle_impl_Angle_tab → RowIs Go.Proofs.Tryz.prog r := tab_nil
theorem slices_Index__impl_Angle_impl_Angle_l0_r : RoundIs (mkCtx Go.K.Link.seat slices_Index__impl_Angle_impl_Angle_c slices_Index__impl_Angle_impl_Angle_tab) (sums slices_Index__impl_Angle_impl_Angle_ls) 0 (bodyAt (loopsOf 0 slices_Index__impl_Angle_impl_Angle_code) 0) slices_Index__impl_Angle_impl_Angle_l0_s := by
  rintro ⟨s, ⟨v, ⟨t7, ⟨t8, _⟩⟩⟩⟩
  show _ = (slices_Index__impl_Angle_impl_Angle_l0 (s, (v, (t7, (t8, ()))))).bind fun r : (Ctl ((List (Int × (Int × Unit))) × ((Int × (Int × Unit))) × Int × Int × Unit) ((Int × Unit) ⊕ (Unit))) => some (ctlVal slices_Index__impl_Angle_impl_Angle_l0_s r)
  simp only [slices_Index__impl_Angle_impl_Angle_l0, kb_ite, kb_some, kb_none, kb_bind, kb_alt]
  kernel_rfl
theorem slices_Index__impl_Angle_impl_Angle_rs : RoundsOK (mkCtx Go.K.Link.seat slices_Index__impl_Angle_impl_Angle_c slices_Index__impl_Angle_impl_Angle_tab) (sums slices_Index__impl_Angle_impl_Angle_ls) (loopsOf 0 slices_Index__impl_Angle_impl_Angle_code) slices_Index__impl_Angle_impl_Angle_ls := ⟨⟨rfl, rfl, slices_Index__impl_Angle_impl_Angle_l0_r⟩, trivial⟩
theorem slices_Index__impl_Angle_impl_Angle_e : ∀ v, (evFn (mkCtx Go.K.Link.seat slices_Index__impl_Angle_impl_Angle_c slices_Index__impl_Angle_impl_Angle_tab) (sums slices_Index__impl_Angle_impl_Angle_ls) 190 Go.Proofs.Tryz.f190 (encL slices_Index__impl_Angle_impl_Angle_s.a v)).run = (slices_Index__impl_Angle_impl_Angle_s.gen v).bind fun y => some (slices_Index__impl_Angle_impl_Angle_s.out y) := by
  rintro ⟨s, ⟨v, _⟩⟩
  show _ = (slices_Index__impl_Angle_impl_Angle s v).bind fun y : Int => some (slices_Index__impl_Angle_impl_Angle_s.out y)
  simp only [slices_Index__impl_Angle_impl_Angle, kb_ite, kb_some, kb_none, kb_bind, kb_alt]
  kernel_rfl
theorem slices_Index__impl_Angle_impl_Angle_is : FnIs Go.Proofs.Tryz.prog 190 (modeOf []) (phi [slices_Index__impl_Angle_impl_Angle_s]) := spec_is (c := slices_Index__impl_Angle_impl_Angle_c) seatOK slices_Index__impl_Angle_impl_Angle_t Go.Proofs.Tryz.func190 rfl (code := slices_Index__impl_Angle_impl_Angle_code) rfl rfl slices_Index__impl_Angle_impl_Angle_rs slices_Index__impl_Angle_impl_Angle_e
noncomputable def impl_Angle_orbit_l0_s : LSum := ⟨0, ⟨[(1, .val (.ptr (.pair (.int .i64) (.pair (.int .i64) (.unit)))) (.own .fr)), (3, .val (.sl 27 (.pair (.int .i64) (.pair (.int .i64) (.unit)))) (.own .fr))], 17⟩, (.ret, ⟨[(2, .sref 5 []), (0, .val (.int .i64) .fr), (0, .val (.bool) .fr), (0, .val (.sl 27 (.pair (.int .i64) (.pair (.int .i64) (.unit)))) (.own .fr)), (6, .sref 5 [])], 10⟩), [(.ret, ⟨[(2, .val (.sl 27 (.pair (.int .i64) (.pair (.int .i64) (.unit)))) (.own .fr)), (0, .val (.int .i64) .fr), (0, .val (.bool) .fr), (0, .val (.sl 27 (.pair (.int .i64) (.pair (.int .i64) (.unit)))) (.own .fr))], 17⟩)], impl_Angle_orbit_l0⟩
noncomputable def impl_Angle_orbit_s : Spec := ⟨[.v (.pair (.int .i64) (.pair (.int .i64) (.unit))) .fr], (List (Int × (Int × Unit))) × Int × Bool, fun v => impl_Angle_orbit v.1, fun r => ([.v (.sl 27 (.pair (.int .i64) (.pair (.int .i64) (.unit)))) (.own .fr) r.1, .v (.int .i64) .fr r.2.1, .v (.bool) .fr r.2.2], [])⟩
noncomputable def impl_Angle_orbit_ls : List LSum := [impl_Angle_orbit_l0_s]
noncomputable def impl_Angle_orbit_tab : List Row := [⟨155, [], [impl_Angle_double_s]⟩, ⟨190, [], [slices_Index__impl_Angle_impl_Angle_s]⟩]
theorem impl_Angle_orbit_t : ∀ r, r ∈ impl_Angle_orbit_tab → RowIs Go.Proofs.Tryz.prog r := tab_cons (impl_Angle_double_is) (tab_cons (slices_Index__impl_Angle_impl_Angle_is) (tab_nil))
theorem impl_Angle_orbit_l0_r : RoundIs (mkCtx Go.K.Link.seat impl_Angle_orbit_c impl_Angle_orbit_tab) (sums impl_Angle_orbit_ls) 0 (bodyAt (loopsOf 0 impl_Angle_orbit_code) 0) impl_Angle_orbit_l0_s := by
  rintro ⟨a, ⟨list, _⟩⟩
  show _ = (impl_Angle_orbit_l0 (a, (list, ()))).bind fun r : (Ctl (((Int × (Int × Unit))) × (List (Int × (Int × Unit))) × Unit) ((Int × Bool × (List (Int × (Int × Unit))) × Unit) ⊕ ((List (Int × (Int × Unit))) × Int × Bool × (List (Int × (Int × Unit))) × Unit))) => some (ctlVal impl_Angle_orbit_l0_s r)
  simp only [impl_Angle_orbit_l0, kb_ite, kb_some, kb_none, kb_bind, kb_alt]
  kernel_rfl
theorem impl_Angle_orbit_rs : RoundsOK (mkCtx Go.K.Link.seat impl_Angle_orbit_c impl_Angle_orbit_tab) (sums impl_Angle_orbit_ls) (loopsOf 0 impl_Angle_orbit_code) impl_Angle_orbit_ls := ⟨⟨rfl, rfl, impl_Angle_orbit_l0_r⟩, trivial⟩
theorem impl_Angle_orbit_e : ∀ v, (evFn (mkCtx Go.K.Link.seat impl_Angle_orbit_c impl_Angle_orbit_tab) (sums impl_Angle_orbit_ls) 167 Go.Proofs.Tryz.f167 (encL impl_Angle_orbit_s.a v)).run = (impl_Angle_orbit_s.gen v).bind fun y => some (impl_Angle_orbit_s.out y) := by
  rintro ⟨a, _⟩
  show _ = (impl_Angle_orbit a).bind fun y : (List (Int × (Int × Unit))) × Int × Bool => some (impl_Angle_orbit_s.out y)
  simp only [impl_Angle_orbit, kb_ite, kb_some, kb_none, kb_bind, kb_alt]
  kernel_rfl
theorem impl_Angle_orbit_is : FnIs Go.Proofs.Tryz.prog 167 (modeOf []) (phi [impl_Angle_orbit_s]) := spec_is (c := impl_Angle_orbit_c) seatOK impl_Angle_orbit_t Go.Proofs.Tryz.func167 rfl (code := impl_Angle_orbit_code) rfl rfl impl_Angle_orbit_rs impl_Angle_orbit_e
noncomputable def slices_Contains__impl_Angle_impl_Angle_code : Code := (Go.Proofs.Tryz.f168.body).getD .skip
def slices_Contains__impl_Angle_impl_Angle_c : Cfg := ⟨168, [], [], [], [], []⟩
noncomputable def slices_Contains__impl_Angle_impl_Angle_s : Spec := ⟨[.v (.sl 27 (.pair (.int .i64) (.pair (.int .i64) (.unit)))) .fr, .v (.pair (.int .i64) (.pair (.int .i64) (.unit))) .fr], Bool, fun v => slices_Contains__impl_Angle_impl_Angle v.1 v.2.1, fun r => ([.v (.bool) .fr r], [])⟩
noncomputable def slices_Contains__impl_Angle_impl_Angle_ls : List LSum := []
noncomputable def slices_Contains__impl_Angle_impl_Angle_tab : List Row := [⟨190, [], [slices_Index__impl_Angle_impl_Angle_s]⟩]
theorem slices_Contains__impl_Angle_impl_Angle_t : ∀ r, r ∈ slices_Contains__impl_Angle_impl_Angle_tab → RowIs Go.Proofs.Tryz.prog r := tab_cons (slices_Index__impl_Angle_impl_Angle_is) (tab_nil)
theorem slices_Contains__impl_Angle_impl_Angle_rs : RoundsOK (mkCtx Go.K.Link.seat slices_Contains__impl_Angle_impl_Angle_c slices_Contains__impl_Angle_impl_Angle_tab) (sums slices_Contains__impl_Angle_impl_Angle_ls) (loopsOf 0 slices_Contains__impl_Angle_impl_Angle_code) slices_Contains__impl_Angle_impl_Angle_ls := trivial
theorem slices_Contains__impl_Angle_impl_Angle_e : ∀ v, (evFn (mkCtx Go.K.Link.seat slices_Contains__impl_Angle_impl_Angle_c slices_Contains__impl_Angle_impl_Angle_tab) (sums slices_Contains__impl_Angle_impl_Angle_ls) 168 Go.Proofs.Tryz.f168 (encL slices_Contains__impl_Angle_impl_Angle_s.a v)).run = (slices_Contains__impl_Angle_impl_Angle_s.gen v).bind fun y => some (slices_Contains__impl_Angle_impl_Angle_s.out y) := by
  rintro ⟨s, ⟨v, _⟩⟩
  show _ = (slices_Contains__impl_Angle_impl_Angle s v).bind fun y : Bool => some (slices_Contains__impl_Angle_impl_Angle_s.out y)
  simp only [slices_Contains__impl_Angle_impl_Angle, kb_ite, kb_some, kb_none, kb_bind, kb_alt]
  kernel_rfl
theorem slices_Contains__impl_Angle_impl_Angle_is : FnIs Go.Proofs.Tryz.prog 168 (modeOf []) (phi [slices_Contains__impl_Angle_impl_Angle_s]) := spec_is (c := slices_Contains__impl_Angle_impl_Angle_c) seatOK slices_Contains__impl_Angle_impl_Angle_t Go.Proofs.Tryz.func168 rfl (code := slices_Contains__impl_Angle_impl_Angle_code) rfl rfl slices_Contains__impl_Angle_impl_Angle_rs slices_Contains__impl_Angle_impl_Angle_e
noncomputable def impl_RayPair_isSatellite_s : Spec := ⟨[.v (.pair (.pair (.int .i64) (.pair (.int .i64) (.unit))) (.pair (.pair (.int .i64) (.pair (.int .i64) (.unit))) (.unit))) .fr], Bool, fun v => impl_RayPair_isSatellite v.1, fun r => ([.v (.bool) .fr r], [])⟩
noncomputable def impl_RayPair_isSatellite_ls : List LSum := []
noncomputable def impl_RayPair_isSatellite_tab : List Row := [⟨167, [], [impl_Angle_orbit_s]⟩, ⟨168, [], [slices_Contains__impl_Angle_impl_Angle_s]⟩]
theorem impl_RayPair_isSatellite_t : ∀ r, r ∈ impl_RayPair_isSatellite_tab → RowIs Go.Proofs.Tryz.prog r := tab_cons (impl_Angle_orbit_is) (tab_cons (slices_Contains__impl_Angle_impl_Angle_is) (tab_nil))
theorem impl_RayPair_isSatellite_rs : RoundsOK (mkCtx Go.K.Link.seat impl_RayPair_isSatellite_c impl_RayPair_isSatellite_tab) (sums impl_RayPair_isSatellite_ls) (loopsOf 0 impl_RayPair_isSatellite_code) impl_RayPair_isSatellite_ls := trivial
theorem impl_RayPair_isSatellite_e : ∀ v, (evFn (mkCtx Go.K.Link.seat impl_RayPair_isSatellite_c impl_RayPair_isSatellite_tab) (sums impl_RayPair_isSatellite_ls) 121 Go.Proofs.Tryz.f121 (encL impl_RayPair_isSatellite_s.a v)).run = (impl_RayPair_isSatellite_s.gen v).bind fun y => some (impl_RayPair_isSatellite_s.out y) := by
  rintro ⟨p, _⟩
  show _ = (impl_RayPair_isSatellite p).bind fun y : Bool => some (impl_RayPair_isSatellite_s.out y)
  simp only [impl_RayPair_isSatellite, kb_ite, kb_some, kb_none, kb_bind, kb_alt]
  kernel_rfl
theorem impl_RayPair_isSatellite_is : FnIs Go.Proofs.Tryz.prog 121 (modeOf []) (phi [impl_RayPair_isSatellite_s]) := spec_is (c := impl_RayPair_isSatellite_c) seatOK impl_RayPair_isSatellite_t Go.Proofs.Tryz.func121 rfl (code := impl_RayPair_isSatellite_code) rfl rfl impl_RayPair_isSatellite_rs impl_RayPair_isSatellite_e
noncomputable def impl_IsSatellite_s : Spec := ⟨[.v (.pair (.int .i64) (.pair (.int .i64) (.unit))) .fr], Bool × Int, fun v => impl_IsSatellite v.1, fun r => ([.v (.bool) .fr r.1, .v (.int .i64) .fr r.2], [])⟩
noncomputable def impl_IsSatellite_ls : List LSum := []
noncomputable def impl_IsSatellite_tab : List Row := [⟨58, [], [impl_PairOf_s]⟩, ⟨121, [], [impl_RayPair_isSatellite_s]⟩]
theorem impl_IsSatellite_t : ∀ r, r ∈ impl_IsSatellite_tab → RowIs Go.Proofs.Tryz.prog r := tab_cons (impl_PairOf_is) (tab_cons (impl_RayPair_isSatellite_is) (tab_nil))
theorem impl_IsSatellite_rs : RoundsOK (mkCtx Go.K.Link.seat impl_IsSatellite_c impl_IsSatellite_tab) (sums impl_IsSatellite_ls) (loopsOf 0 impl_IsSatellite_code) impl_IsSatellite_ls := trivial
theorem impl_IsSatellite_e : ∀ v, (evFn (mkCtx Go.K.Link.seat impl_IsSatellite_c impl_IsSatellite_tab) (sums impl_IsSatellite_ls) 44 Go.Proofs.Tryz.f44 (encL impl_IsSatellite_s.a v)).run = (impl_IsSatellite_s.gen v).bind fun y => some (impl_IsSatellite_s.out y) := by
  rintro ⟨x, _⟩
  show _ = (impl_IsSatellite x).bind fun y : Bool × Int => some (impl_IsSatellite_s.out y)
  simp only [impl_IsSatellite, kb_ite, kb_some, kb_none, kb_bind, kb_alt]
  kernel_rfl
theorem impl_IsSatellite_is : FnIs Go.Proofs.Tryz.prog 44 (modeOf []) (phi [impl_IsSatellite_s]) := spec_is (c := impl_IsSatellite_c) seatOK impl_IsSatellite_t Go.Proofs.Tryz.func44 rfl (code := impl_IsSatellite_code) rfl rfl impl_IsSatellite_rs impl_IsSatellite_e
noncomputable def spec_IsSatellite_code : Code := (Go.Proofs.Tryz.f45.body).getD .skip
def spec_IsSatellite_c : Cfg := ⟨45, [], [], [], [], []⟩
noncomputable def spec_l04Satellite_code : Code := (Go.Proofs.Tryz.f122.body).getD .skip
def spec_l04Satellite_c : Cfg := ⟨122, [], [[1, 3], [], [2]], [], [], []⟩
noncomputable def spec_l04Satellite_l0_s : LSum := ⟨0, ⟨[(1, .val (.ptr (.pair (.pair (.int .i64) (.pair (.int .i64) (.unit))) (.pair (.pair (.int .i64) (.pair (.int .i64) (.unit))) (.unit)))) (.own .fr)), (1, .val (.ptr (.pair (.int .i64) (.pair (.int .i64) (.unit)))) (.own .fr))], 14⟩, (.ret, ⟨[(2, .val (.bool) .fr)], 15⟩), [(.exit 0, ⟨[], 18⟩)], spec_l04Satellite_l0⟩
noncomputable def spec_l04Satellite_s : Spec := ⟨[.v (.pair (.pair (.int .i64) (.pair (.int .i64) (.unit))) (.pair (.pair (.int .i64) (.pair (.int .i64) (.unit))) (.unit))) .fr], Bool, fun v => spec_l04Satellite v.1, fun r => ([.v (.bool) .fr r], [])⟩
noncomputable def spec_l04Satellite_ls : List LSum := [spec_l04Satellite_l0_s]
noncomputable def spec_l04Satellite_tab : List Row := [⟨169, [], [spec_l01Double_s]⟩]
theorem spec_l04Satellite_t : ∀ r, r ∈ spec_l04Satellite_tab → RowIs Go.Proofs.Tryz.prog r := tab_cons (spec_l01Double_is) (tab_nil)
theorem spec_l04Satellite_l0_r : RoundIs (mkCtx Go.K.Link.seat spec_l04Satellite_c spec_l04Satellite_tab) (sums spec_l04Satellite_ls) 0 (bodyAt (loopsOf 0 spec_l04Satellite_code) 0) spec_l04Satellite_l0_s := by
  rintro ⟨p, ⟨x, _⟩⟩
  show _ = (spec_l04Satellite_l0 (p, (x, ()))).bind fun r : (Ctl ((((Int × (Int × Unit)) × ((Int × (Int × Unit)) × Unit))) × ((Int × (Int × Unit))) × Unit) ((Bool × Unit) ⊕ (Unit))) => some (ctlVal spec_l04Satellite_l0_s r)
  simp only [spec_l04Satellite_l0, kb_ite, kb_some, kb_none, kb_bind, kb_alt]
  kernel_rfl
theorem spec_l04Satellite_rs : RoundsOK (mkCtx Go.K.Link.seat spec_l04Satellite_c spec_l04Satellite_tab) (sums spec_l04Satellite_ls) (loopsOf 0 spec_l04Satellite_code) spec_l04Satellite_ls := ⟨⟨rfl, rfl, spec_l04Satellite_l0_r⟩, trivial⟩
theorem spec_l04Satellite_e : ∀ v, (evFn (mkCtx Go.K.Link.seat spec_l04Satellite_c spec_l04Satellite_tab) (sums spec_l04Satellite_ls) 122 Go.Proofs.Tryz.f122 (encL spec_l04Satellite_s.a v)).run = (spec_l04Satellite_s.gen v).bind fun y => some (spec_l04Satellite_s.out y) := by
  rintro ⟨p, _⟩
  show _ = (spec_l04Satellite p).bind fun y : Bool => some (spec_l04Satellite_s.out y)
  simp only [spec_l04Satellite, kb_ite, kb_some, kb_none, kb_bind, kb_alt]
  kernel_rfl
theorem spec_l04Satellite_is : FnIs Go.Proofs.Tryz.prog 122 (modeOf []) (phi [spec_l04Satellite_s]) := spec_is (c := spec_l04Satellite_c) seatOK spec_l04Satellite_t Go.Proofs.Tryz.func122 rfl (code := spec_l04Satellite_code) rfl rfl spec_l04Satellite_rs spec_l04Satellite_e
noncomputable def spec_IsSatellite_s : Spec := ⟨[.v (.pair (.int .i64) (.pair (.int .i64) (.unit))) .fr], Bool × Int, fun v => spec_IsSatellite v.1, fun r => ([.v (.bool) .fr r.1, .v (.int .i64) .fr r.2], [])⟩
noncomputable def spec_IsSatellite_ls : List LSum := []
noncomputable def spec_IsSatellite_tab : List Row := [⟨71, [], [spec_PairOf_s]⟩, ⟨122, [], [spec_l04Satellite_s]⟩]
theorem spec_IsSatellite_t : ∀ r, r ∈ spec_IsSatellite_tab → RowIs Go.Proofs.Tryz.prog r := tab_cons (spec_PairOf_is) (tab_cons (spec_l04Satellite_is) (tab_nil))
theorem spec_IsSatellite_rs : RoundsOK (mkCtx Go.K.Link.seat spec_IsSatellite_c spec_IsSatellite_tab) (sums spec_IsSatellite_ls) (loopsOf 0 spec_IsSatellite_code) spec_IsSatellite_ls := trivial
theorem spec_IsSatellite_e : ∀ v, (evFn (mkCtx Go.K.Link.seat spec_IsSatellite_c spec_IsSatellite_tab) (sums spec_IsSatellite_ls) 45 Go.Proofs.Tryz.f45 (encL spec_IsSatellite_s.a v)).run = (spec_IsSatellite_s.gen v).bind fun y => some (spec_IsSatellite_s.out y) := by
  rintro ⟨x, _⟩
  show _ = (spec_IsSatellite x).bind fun y : Bool × Int => some (spec_IsSatellite_s.out y)
  simp only [spec_IsSatellite, kb_ite, kb_some, kb_none, kb_bind, kb_alt]
  kernel_rfl
theorem spec_IsSatellite_is : FnIs Go.Proofs.Tryz.prog 45 (modeOf []) (phi [spec_IsSatellite_s]) := spec_is (c := spec_IsSatellite_c) seatOK spec_IsSatellite_t Go.Proofs.Tryz.func45 rfl (code := spec_IsSatellite_code) rfl rfl spec_IsSatellite_rs spec_IsSatellite_e
noncomputable def spec_DrawWakesAround_code : Code := (Go.Proofs.Tryz.f46.body).getD .skip
def spec_DrawWakesAround_c : Cfg := ⟨46, [], [], [], [], []⟩
noncomputable def spec_DrawWakesAround_s : Spec := ⟨[.v (.sl 5 (.int .u8)) .fr], (Int × (Int × Unit)) × Int, fun v => spec_DrawWakesAround v.1, fun r => ([.v (.pair (.int .i64) (.pair (.int .i64) (.unit))) .fr r.1, .v (.int .i64) .fr r.2], [])⟩
noncomputable def spec_DrawWakesAround_ls : List LSum := []
noncomputable def spec_DrawWakesAround_tab : List Row := [⟨115, [.mut], [spec_l04Draw_s]⟩, ⟨116, [], [spec_l01From_s]⟩, ⟨123, [.mut], [spec_l01Pick_s]⟩]
theorem spec_DrawWakesAround_t : ∀ r, r ∈ spec_DrawWakesAround_tab → RowIs Go.Proofs.Tryz.prog r := tab_cons (spec_l04Draw_is) (tab_cons (spec_l01From_is) (tab_cons (spec_l01Pick_is) (tab_nil)))
theorem spec_DrawWakesAround_rs : RoundsOK (mkCtx Go.K.Link.seat spec_DrawWakesAround_c spec_DrawWakesAround_tab) (sums spec_DrawWakesAround_ls) (loopsOf 0 spec_DrawWakesAround_code) spec_DrawWakesAround_ls := trivial
theorem spec_DrawWakesAround_e : ∀ v, (evFn (mkCtx Go.K.Link.seat spec_DrawWakesAround_c spec_DrawWakesAround_tab) (sums spec_DrawWakesAround_ls) 46 Go.Proofs.Tryz.f46 (encL spec_DrawWakesAround_s.a v)).run = (spec_DrawWakesAround_s.gen v).bind fun y => some (spec_DrawWakesAround_s.out y) := by
  rintro ⟨code, _⟩
  show _ = (spec_DrawWakesAround code).bind fun y : (Int × (Int × Unit)) × Int => some (spec_DrawWakesAround_s.out y)
  simp only [spec_DrawWakesAround, kb_ite, kb_some, kb_none, kb_bind, kb_alt]
  kernel_rfl
theorem spec_DrawWakesAround_is : FnIs Go.Proofs.Tryz.prog 46 (modeOf []) (phi [spec_DrawWakesAround_s]) := spec_is (c := spec_DrawWakesAround_c) seatOK spec_DrawWakesAround_t Go.Proofs.Tryz.func46 rfl (code := spec_DrawWakesAround_code) rfl rfl spec_DrawWakesAround_rs spec_DrawWakesAround_e
noncomputable def impl_WakesAround_code : Code := (Go.Proofs.Tryz.f47.body).getD .skip
def impl_WakesAround_c : Cfg := ⟨47, [], [], [], [], []⟩
noncomputable def impl_wakesAround_code : Code := (Go.Proofs.Tryz.f124.body).getD .skip
def impl_wakesAround_c : Cfg := ⟨124, [], [], [], [], []⟩
noncomputable def slices_DeleteFunc__impl_RayPair_impl_RayPair_v2_code : Code := (Go.Proofs.Tryz.f130.body).getD .skip
def slices_DeleteFunc__impl_RayPair_impl_RayPair_v2_c : Cfg := ⟨130, [.own], [[0, 1, 5, 6, 13], [0, 5, 13], [0, 4, 13, 39, 41]], [], [], []⟩
noncomputable def slices_IndexFunc__impl_RayPair_impl_RayPair_v4_code : Code := (Go.Proofs.Tryz.f133.body).getD .skip
def slices_IndexFunc__impl_RayPair_impl_RayPair_v4_c : Cfg := ⟨133, [], [[0, 1, 7, 8], [], [4]], [], [], []⟩
noncomputable def impl_wakesAround_f1_code : Code := (Go.Proofs.Tryz.f171.body).getD .skip
def impl_wakesAround_f1_c : Cfg := ⟨171, [], [], [], [], []⟩
noncomputable def impl_areAll_impl_Angle_v2_code : Code := (Go.Proofs.Tryz.f154.body).getD .skip
def impl_areAll_impl_Angle_v2_c : Cfg := ⟨154, [], [], [], [], []⟩
noncomputable def slices_ContainsFunc__impl_Angle_impl_Angle_v2_code : Code := (Go.Proofs.Tryz.f183.body).getD .skip
def slices_ContainsFunc__impl_Angle_impl_Angle_v2_c : Cfg := ⟨183, [], [], [], [], []⟩
noncomputable def slices_IndexFunc__impl_Angle_impl_Angle_v3_code : Code := (Go.Proofs.Tryz.f191.body).getD .skip
def slices_IndexFunc__impl_Angle_impl_Angle_v3_c : Cfg := ⟨191, [], [[0, 1, 7, 8], [], [4]], [], [], []⟩
noncomputable def impl_areAll_impl_Angle_f1_v2_code : Code := (Go.Proofs.Tryz.f184.body).getD .skip
def impl_areAll_impl_Angle_f1_v2_c : Cfg := ⟨184, [], [], [], [], []⟩
noncomputable def impl_RayPair_isAround_code : Code := (Go.Proofs.Tryz.f172.body).getD .skip
def impl_RayPair_isAround_c : Cfg := ⟨172, [], [], [], [], []⟩
noncomputable def impl_RayPair_isAround_s : Spec := ⟨[.v (.pair (.pair (.int .i64) (.pair (.int .i64) (.unit))) (.pair (.pair (.int .i64) (.pair (.int .i64) (.unit))) (.unit))) .fr, .v (.pair (.int .i64) (.pair (.int .i64) (.unit))) .fr], Bool, fun v => impl_RayPair_isAround v.1 v.2.1, fun r => ([.v (.bool) .fr r], [])⟩
noncomputable def impl_RayPair_isAround_ls : List LSum := []
noncomputable def impl_RayPair_isAround_tab : List Row := [⟨181, [], [impl_order_s]⟩]
theorem impl_RayPair_isAround_t : ∀ r, r ∈ impl_RayPair_isAround_tab → RowIs Go.Proofs.Tryz.prog r := tab_cons (impl_order_is) (tab_nil)
theorem impl_RayPair_isAround_rs : RoundsOK (mkCtx Go.K.Link.seat impl_RayPair_isAround_c impl_RayPair_isAround_tab) (sums impl_RayPair_isAround_ls) (loopsOf 0 impl_RayPair_isAround_code) impl_RayPair_isAround_ls := trivial
theorem impl_RayPair_isAround_e : ∀ v, (evFn (mkCtx Go.K.Link.seat impl_RayPair_isAround_c impl_RayPair_isAround_tab) (sums impl_RayPair_isAround_ls) 172 Go.Proofs.Tryz.f172 (encL impl_RayPair_isAround_s.a v)).run = (impl_RayPair_isAround_s.gen v).bind fun y => some (impl_RayPair_isAround_s.out y) := by
  rintro ⟨p, ⟨x, _⟩⟩
  show _ = (impl_RayPair_isAround p x).bind fun y : Bool => some (impl_RayPair_isAround_s.out y)
  simp only [impl_RayPair_isAround, kb_ite, kb_some, kb_none, kb_bind, kb_alt]
  kernel_rfl
theorem impl_RayPair_isAround_is : FnIs Go.Proofs.Tryz.prog 172 (modeOf []) (phi [impl_RayPair_isAround_s]) := spec_is (c := impl_RayPair_isAround_c) seatOK impl_RayPair_isAround_t Go.Proofs.Tryz.func172 rfl (code := impl_RayPair_isAround_code) rfl rfl impl_RayPair_isAround_rs impl_RayPair_isAround_e
noncomputable def impl_areAll_impl_Angle_f1_v2_s : Spec := ⟨[.v (.pair (.int .i64) (.pair (.int .i64) (.unit))) .fr, .pfn 172 [.v (.pair (.pair (.int .i64) (.pair (.int .i64) (.unit))) (.pair (.pair (.int .i64) (.pair (.int .i64) (.unit))) (.unit))) .fr] []], Bool, fun v => impl_areAll_impl_Angle_f1_v2 v.1 v.2.1.1.1, fun r => ([.v (.bool) .fr r], [])⟩
noncomputable def impl_areAll_impl_Angle_f1_v2_ls : List LSum := []
noncomputable def impl_areAll_impl_Angle_f1_v2_tab : List Row := [⟨172, [], [impl_RayPair_isAround_s]⟩]
theorem impl_areAll_impl_Angle_f1_v2_t : ∀ r, r ∈ impl_areAll_impl_Angle_f1_v2_tab → RowIs Go.Proofs.Tryz.prog r := tab_cons (impl_RayPair_isAround_is) (tab_nil)
theorem impl_areAll_impl_Angle_f1_v2_rs : RoundsOK (mkCtx Go.K.Link.seat impl_areAll_impl_Angle_f1_v2_c impl_areAll_impl_Angle_f1_v2_tab) (sums impl_areAll_impl_Angle_f1_v2_ls) (loopsOf 0 impl_areAll_impl_Angle_f1_v2_code) impl_areAll_impl_Angle_f1_v2_ls := trivial
theorem impl_areAll_impl_Angle_f1_v2_e : ∀ v, (evFn (mkCtx Go.K.Link.seat impl_areAll_impl_Angle_f1_v2_c impl_areAll_impl_Angle_f1_v2_tab) (sums impl_areAll_impl_Angle_f1_v2_ls) 184 Go.Proofs.Tryz.f184 (encL impl_areAll_impl_Angle_f1_v2_s.a v)).run = (impl_areAll_impl_Angle_f1_v2_s.gen v).bind fun y => some (impl_areAll_impl_Angle_f1_v2_s.out y) := by
  rintro ⟨x, ⟨⟨⟨t1_0, _⟩, _⟩, _⟩⟩
  show _ = (impl_areAll_impl_Angle_f1_v2 x t1_0).bind fun y : Bool => some (impl_areAll_impl_Angle_f1_v2_s.out y)
  simp only [impl_areAll_impl_Angle_f1_v2, kb_ite, kb_some, kb_none, kb_bind, kb_alt]
  kernel_rfl
theorem impl_areAll_impl_Angle_f1_v2_is : FnIs Go.Proofs.Tryz.prog 184 (modeOf []) (phi [impl_areAll_impl_Angle_f1_v2_s]) := spec_is (c := impl_areAll_impl_Angle_f1_v2_c) seatOK impl_areAll_impl_Angle_f1_v2_t Go.Proofs.Tryz.func184 rfl (code := impl_areAll_impl_Angle_f1_v2_code) rfl rfl impl_areAll_impl_Angle_f1_v2_rs impl_areAll_impl_Angle_f1_v2_e
noncomputable def slices_IndexFunc__impl_Angle_impl_Angle_v3_l0_s : LSum := ⟨0, ⟨[(0, .val (.sl 27 (.pair (.int .i64) (.pair (.int .i64) (.unit)))) .fr), (0, .fnl 184 [] [.arg (.pfn 172 [.v (.pair (.pair (.int .i64) (.pair (.int .i64) (.unit))) (.pair (.pair (.int .i64) (.pair (.int .i64) (.unit))) (.unit))) .fr] [])]), (5, .val (.int .i64) .fr), (0, .val (.int .i64) .fr)], 10⟩, (.ret, ⟨[(4, .val (.int .i64) .fr)], 14⟩), [(.exit 0, ⟨[], 19⟩)], slices_IndexFunc__impl_Angle_impl_Angle_v3_l0⟩
noncomputable def slices_IndexFunc__impl_Angle_impl_Angle_v3_s : Spec := ⟨[.v (.sl 27 (.pair (.int .i64) (.pair (.int .i64) (.unit)))) .fr, .fn 184 [] [.pfn 172 [.v (.pair (.pair (.int .i64) (.pair (.int .i64) (.unit))) (.pair (.pair (.int .i64) (.pair (.int .i64) (.unit))) (.unit))) .fr] []]], Int, fun v => slices_IndexFunc__impl_Angle_impl_Angle_v3 v.1 v.2.1.2.1.1.1, fun r => ([.v (.int .i64) .fr r], [])⟩
noncomputable def slices_IndexFunc__impl_Angle_impl_Angle_v3_ls : List LSum := [slices_IndexFunc__impl_Angle_impl_Angle_v3_l0_s]
noncomputable def slices_IndexFunc__impl_Angle_impl_Angle_v3_tab : List Row := [⟨184, [], [impl_areAll_impl_Angle_f1_v2_s]⟩]
theorem slices_IndexFunc__impl_Angle_impl_Angle_v3_t : ∀ r, r ∈ slices_IndexFunc__impl_Angle_impl_Angle_v3_tab → RowIs Go.Proofs.Tryz.prog r := tab_cons (impl_areAll_impl_Angle_f1_v2_is) (tab_nil)
theorem slices_IndexFunc__impl_Angle_impl_Angle_v3_l0_r : RoundIs (mkCtx Go.K.Link.seat slices_IndexFunc__impl_Angle_impl_Angle_v3_c slices_IndexFunc__impl_Angle_impl_Angle_v3_tab) (sums slices_IndexFunc__impl_Angle_impl_Angle_v3_ls) 0 (bodyAt (loopsOf 0 slices_IndexFunc__impl_Angle_impl_Angle_v3_code) 0) slices_IndexFunc__impl_Angle_impl_Angle_v3_l0_s := by
  rintro ⟨s, ⟨_, ⟨⟨⟨f, _⟩, _⟩, _⟩, ⟨t7, ⟨t8, _⟩⟩⟩⟩
  show _ = (slices_IndexFunc__impl_Angle_impl_Angle_v3_l0 (s, ((), (((f, ()), ()), ()), (t7, (t8, ()))))).bind fun r : (Ctl ((List (Int × (Int × Unit))) × Unit × (((((Int × (Int × Unit)) × ((Int × (Int × Unit)) × Unit)) × Unit) × Unit) × Unit) × Int × Int × Unit) ((Int × Unit) ⊕ (Unit))) => some (ctlVal slices_IndexFunc__impl_Angle_impl_Angle_v3_l0_s r)
  simp only [slices_IndexFunc__impl_Angle_impl_Angle_v3_l0, kb_ite, kb_some, kb_none, kb_bind, kb_alt]
  kernel_rfl
theorem slices_IndexFunc__impl_Angle_impl_Angle_v3_rs : RoundsOK (mkCtx Go.K.Link.seat slices_IndexFunc__impl_Angle_impl_Angle_v3_c slices_IndexFunc__impl_Angle_impl_Angle_v3_tab) (sums slices_IndexFunc__impl_Angle_impl_Angle_v3_ls) (loopsOf 0 slices_IndexFunc__impl_Angle_impl_Angle_v3_code) slices_IndexFunc__impl_Angle_impl_Angle_v3_ls := ⟨⟨rfl, rfl, slices_IndexFunc__impl_Angle_impl_Angle_v3_l0_r⟩, trivial⟩
theorem slices_IndexFunc__impl_Angle_impl_Angle_v3_e : ∀ v, (evFn (mkCtx Go.K.Link.seat slices_IndexFunc__impl_Angle_impl_Angle_v3_c slices_IndexFunc__impl_Angle_impl_Angle_v3_tab) (sums slices_IndexFunc__impl_Angle_impl_Angle_v3_ls) 191 Go.Proofs.Tryz.f191 (encL slices_IndexFunc__impl_Angle_impl_Angle_v3_s.a v)).run = (slices_IndexFunc__impl_Angle_impl_Angle_v3_s.gen v).bind fun y => some (slices_IndexFunc__impl_Angle_impl_Angle_v3_s.out y) := by
  rintro ⟨s, ⟨⟨_, ⟨⟨⟨f_0_1, _⟩, _⟩, _⟩⟩, _⟩⟩
  show _ = (slices_IndexFunc__impl_Angle_impl_Angle_v3 s f_0_1).bind fun y : Int => some (slices_IndexFunc__impl_Angle_impl_Angle_v3_s.out y)
  simp only [slices_IndexFunc__impl_Angle_impl_Angle_v3, kb_ite, kb_some, kb_none, kb_bind, kb_alt]
  kernel_rfl
theorem slices_IndexFunc__impl_Angle_impl_Angle_v3_is : FnIs Go.Proofs.Tryz.prog 191 (modeOf []) (phi [slices_IndexFunc__impl_Angle_impl_Angle_v3_s]) := spec_is (c := slices_IndexFunc__impl_Angle_impl_Angle_v3_c) seatOK slices_IndexFunc__impl_Angle_impl_Angle_v3_t Go.Proofs.Tryz.func191 rfl (code := slices_IndexFunc__impl_Angle_impl_Angle_v3_code) rfl rfl slices_IndexFunc__impl_Angle_impl_Angle_v3_rs slices_IndexFunc__impl_Angle_impl_Angle_v3_e
noncomputable def slices_ContainsFunc__impl_Angle_impl_Angle_v2_s : Spec := ⟨[.v (.sl 27 (.pair (.int .i64) (.pair (.int .i64) (.unit)))) .fr, .fn 184 [] [.pfn 172 [.v (.pair (.pair (.int .i64) (.pair (.int .i64) (.unit))) (.pair (.pair (.int .i64) (.pair (.int .i64) (.unit))) (.unit))) .fr] []]], Bool, fun v => slices_ContainsFunc__impl_Angle_impl_Angle_v2 v.1 v.2.1.2.1.1.1, fun r => ([.v (.bool) .fr r], [])⟩
noncomputable def slices_ContainsFunc__impl_Angle_impl_Angle_v2_ls : List LSum := []
noncomputable def slices_ContainsFunc__impl_Angle_impl_Angle_v2_tab : List Row := [⟨191, [], [slices_IndexFunc__impl_Angle_impl_Angle_v3_s]⟩]
theorem slices_ContainsFunc__impl_Angle_impl_Angle_v2_t : ∀ r, r ∈ slices_ContainsFunc__impl_Angle_impl_Angle_v2_tab → RowIs Go.Proofs.Tryz.prog r := tab_cons (slices_IndexFunc__impl_Angle_impl_Angle_v3_is) (tab_nil)
theorem slices_ContainsFunc__impl_Angle_impl_Angle_v2_rs : RoundsOK (mkCtx Go.K.Link.seat slices_ContainsFunc__impl_Angle_impl_Angle_v2_c slices_ContainsFunc__impl_Angle_impl_Angle_v2_tab) (sums slices_ContainsFunc__impl_Angle_impl_Angle_v2_ls) (loopsOf 0 slices_ContainsFunc__impl_Angle_impl_Angle_v2_code) slices_ContainsFunc__impl_Angle_impl_Angle_v2_ls := trivial
theorem slices_ContainsFunc__impl_Angle_impl_Angle_v2_e : ∀ v, (evFn (mkCtx Go.K.Link.seat slices_ContainsFunc__impl_Angle_impl_Angle_v2_c slices_ContainsFunc__impl_Angle_impl_Angle_v2_tab) (sums slices_ContainsFunc__impl_Angle_impl_Angle_v2_ls) 183 Go.Proofs.Tryz.f183 (encL slices_ContainsFunc__impl_Angle_impl_Angle_v2_s.a v)).run = (slices_ContainsFunc__impl_Angle_impl_Angle_v2_s.gen v).bind fun y => some (slices_ContainsFunc__impl_Angle_impl_Angle_v2_s.out y) := by
  rintro ⟨s, ⟨⟨_, ⟨⟨⟨f_0_1, _⟩, _⟩, _⟩⟩, _⟩⟩
  show _ = (slices_ContainsFunc__impl_Angle_impl_Angle_v2 s f_0_1).bind fun y : Bool => some (slices_ContainsFunc__impl_Angle_impl_Angle_v2_s.out y)
  simp only [slices_ContainsFunc__impl_Angle_impl_Angle_v2, kb_ite, kb_some, kb_none, kb_bind, kb_alt]
  kernel_rfl
theorem slices_ContainsFunc__impl_Angle_impl_Angle_v2_is : FnIs Go.Proofs.Tryz.prog 183 (modeOf []) (phi [slices_ContainsFunc__impl_Angle_impl_Angle_v2_s]) := spec_is (c := slices_ContainsFunc__impl_Angle_impl_Angle_v2_c) seatOK slices_ContainsFunc__impl_Angle_impl_Angle_v2_t Go.Proofs.Tryz.func183 rfl (code := slices_ContainsFunc__impl_Angle_impl_Angle_v2_code) rfl rfl slices_ContainsFunc__impl_Angle_impl_Angle_v2_rs slices_ContainsFunc__impl_Angle_impl_Angle_v2_e
noncomputable def impl_areAll_impl_Angle_v2_s : Spec := ⟨[.v (.sl 27 (.pair (.int .i64) (.pair (.int .i64) (.unit)))) .fr, .fn 172 [.v (.pair (.pair (.int .i64) (.pair (.int .i64) (.unit))) (.pair (.pair (.int .i64) (.pair (.int .i64) (.unit))) (.unit))) .fr] []], Bool, fun v => impl_areAll_impl_Angle_v2 v.1 v.2.1.1.1, fun r => ([.v (.bool) .fr r], [])⟩
noncomputable def impl_areAll_impl_Angle_v2_ls : List LSum := []
noncomputable def impl_areAll_impl_Angle_v2_tab : List Row := [⟨183, [], [slices_ContainsFunc__impl_Angle_impl_Angle_v2_s]⟩]
theorem impl_areAll_impl_Angle_v2_t : ∀ r, r ∈ impl_areAll_impl_Angle_v2_tab → RowIs Go.Proofs.Tryz.prog r := tab_cons (slices_ContainsFunc__impl_Angle_impl_Angle_v2_is) (tab_nil)
theorem impl_areAll_impl_Angle_v2_rs : RoundsOK (mkCtx Go.K.Link.seat impl_areAll_impl_Angle_v2_c impl_areAll_impl_Angle_v2_tab) (sums impl_areAll_impl_Angle_v2_ls) (loopsOf 0 impl_areAll_impl_Angle_v2_code) impl_areAll_impl_Angle_v2_ls := trivial
theorem impl_areAll_impl_Angle_v2_e : ∀ v, (evFn (mkCtx Go.K.Link.seat impl_areAll_impl_Angle_v2_c impl_areAll_impl_Angle_v2_tab) (sums impl_areAll_impl_Angle_v2_ls) 154 Go.Proofs.Tryz.f154 (encL impl_areAll_impl_Angle_v2_s.a v)).run = (impl_areAll_impl_Angle_v2_s.gen v).bind fun y => some (impl_areAll_impl_Angle_v2_s.out y) := by
  rintro ⟨list, ⟨⟨⟨is'_0, _⟩, _⟩, _⟩⟩
  show _ = (impl_areAll_impl_Angle_v2 list is'_0).bind fun y : Bool => some (impl_areAll_impl_Angle_v2_s.out y)
  simp only [impl_areAll_impl_Angle_v2, kb_ite, kb_some, kb_none, kb_bind, kb_alt]
  kernel_rfl
theorem impl_areAll_impl_Angle_v2_is : FnIs Go.Proofs.Tryz.prog 154 (modeOf []) (phi [impl_areAll_impl_Angle_v2_s]) := spec_is (c := impl_areAll_impl_Angle_v2_c) seatOK impl_areAll_impl_Angle_v2_t Go.Proofs.Tryz.func154 rfl (code := impl_areAll_impl_Angle_v2_code) rfl rfl impl_areAll_impl_Angle_v2_rs impl_areAll_impl_Angle_v2_e
noncomputable def impl_wakesAround_f1_s : Spec := ⟨[.v (.pair (.pair (.int .i64) (.pair (.int .i64) (.unit))) (.pair (.pair (.int .i64) (.pair (.int .i64) (.unit))) (.unit))) .fr, .v (.ptr (.sl 27 (.pair (.int .i64) (.pair (.int .i64) (.unit))))) .fr], Bool, fun v => impl_wakesAround_f1 v.1 v.2.1, fun r => ([.v (.bool) .fr r], [])⟩
noncomputable def impl_wakesAround_f1_ls : List LSum := []
noncomputable def impl_wakesAround_f1_tab : List Row := [⟨154, [], [impl_areAll_impl_Angle_v2_s]⟩]
theorem impl_wakesAround_f1_t : ∀ r, r ∈ impl_wakesAround_f1_tab → RowIs Go.Proofs.Tryz.prog r := tab_cons (impl_areAll_impl_Angle_v2_is) (tab_nil)
theorem impl_wakesAround_f1_rs : RoundsOK (mkCtx Go.K.Link.seat impl_wakesAround_f1_c impl_wakesAround_f1_tab) (sums impl_wakesAround_f1_ls) (loopsOf 0 impl_wakesAround_f1_code) impl_wakesAround_f1_ls := trivial
theorem impl_wakesAround_f1_e : ∀ v, (evFn (mkCtx Go.K.Link.seat impl_wakesAround_f1_c impl_wakesAround_f1_tab) (sums impl_wakesAround_f1_ls) 171 Go.Proofs.Tryz.f171 (encL impl_wakesAround_f1_s.a v)).run = (impl_wakesAround_f1_s.gen v).bind fun y => some (impl_wakesAround_f1_s.out y) := by
  rintro ⟨p, ⟨t1, _⟩⟩
  show _ = (impl_wakesAround_f1 p t1).bind fun y : Bool => some (impl_wakesAround_f1_s.out y)
  simp only [impl_wakesAround_f1, kb_ite, kb_some, kb_none, kb_bind, kb_alt]
  kernel_rfl
theorem impl_wakesAround_f1_is : FnIs Go.Proofs.Tryz.prog 171 (modeOf []) (phi [impl_wakesAround_f1_s]) := spec_is (c := impl_wakesAround_f1_c) seatOK impl_wakesAround_f1_t Go.Proofs.Tryz.func171 rfl (code := impl_wakesAround_f1_code) rfl rfl impl_wakesAround_f1_rs impl_wakesAround_f1_e
noncomputable def slices_IndexFunc__impl_RayPair_impl_RayPair_v4_l0_s : LSum := ⟨0, ⟨[(0, .val (.sl 47 (.pair (.pair (.int .i64) (.pair (.int .i64) (.unit))) (.pair (.pair (.int .i64) (.pair (.int .i64) (.unit))) (.unit)))) .fr), (0, .fnl 171 [] [.arg (.v (.ptr (.sl 27 (.pair (.int .i64) (.pair (.int .i64) (.unit))))) .fr)]), (5, .val (.int .i64) .fr), (0, .val (.int .i64) .fr)], 10⟩, (.ret, ⟨[(4, .val (.int .i64) .fr)], 14⟩), [(.exit 0, ⟨[], 19⟩)], slices_IndexFunc__impl_RayPair_impl_RayPair_v4_l0⟩
noncomputable def slices_IndexFunc__impl_RayPair_impl_RayPair_v4_s : Spec := ⟨[.v (.sl 47 (.pair (.pair (.int .i64) (.pair (.int .i64) (.unit))) (.pair (.pair (.int .i64) (.pair (.int .i64) (.unit))) (.unit)))) .fr, .fn 171 [] [.v (.ptr (.sl 27 (.pair (.int .i64) (.pair (.int .i64) (.unit))))) .fr]], Int, fun v => slices_IndexFunc__impl_RayPair_impl_RayPair_v4 v.1 v.2.1.2.1, fun r => ([.v (.int .i64) .fr r], [])⟩
noncomputable def slices_IndexFunc__impl_RayPair_impl_RayPair_v4_ls : List LSum := [slices_IndexFunc__impl_RayPair_impl_RayPair_v4_l0_s]
noncomputable def slices_IndexFunc__impl_RayPair_impl_RayPair_v4_tab : List Row := [⟨171, [], [impl_wakesAround_f1_s]⟩]
theorem slices_IndexFunc__impl_RayPair_impl_RayPair_v4_t : ∀ r, r ∈ slices_IndexFunc__impl_RayPair_impl_RayPair_v4_tab → RowIs Go.Proofs.Tryz.prog r := tab_cons (impl_wakesAround_f1_is) (tab_nil)
theorem slices_IndexFunc__impl_RayPair_impl_RayPair_v4_l0_r : RoundIs (mkCtx Go.K.Link.seat slices_IndexFunc__impl_RayPair_impl_RayPair_v4_c slices_IndexFunc__impl_RayPair_impl_RayPair_v4_tab) (sums slices_IndexFunc__impl_RayPair_impl_RayPair_v4_ls) 0 (bodyAt (loopsOf 0 slices_IndexFunc__impl_RayPair_impl_RayPair_v4_code) 0) slices_IndexFunc__impl_RayPair_impl_RayPair_v4_l0_s := by
  rintro ⟨s, ⟨_, ⟨f, _⟩, ⟨t7, ⟨t8, _⟩⟩⟩⟩
  show _ = (slices_IndexFunc__impl_RayPair_impl_RayPair_v4_l0 (s, ((), (f, ()), (t7, (t8, ()))))).bind fun r : (Ctl ((List ((Int × (Int × Unit)) × ((Int × (Int × Unit)) × Unit))) × Unit × (List (Int × (Int × Unit)) × Unit) × Int × Int × Unit) ((Int × Unit) ⊕ (Unit))) => some (ctlVal slices_IndexFunc__impl_RayPair_impl_RayPair_v4_l0_s r)
  simp only [slices_IndexFunc__impl_RayPair_impl_RayPair_v4_l0, kb_ite, kb_some, kb_none, kb_bind, kb_alt]
  kernel_rfl
theorem slices_IndexFunc__impl_RayPair_impl_RayPair_v4_rs : RoundsOK (mkCtx Go.K.Link.seat slices_IndexFunc__impl_RayPair_impl_RayPair_v4_c slices_IndexFunc__impl_RayPair_impl_RayPair_v4_tab) (sums slices_IndexFunc__impl_RayPair_impl_RayPair_v4_ls) (loopsOf 0 slices_IndexFunc__impl_RayPair_impl_RayPair_v4_code) slices_IndexFunc__impl_RayPair_impl_RayPair_v4_ls := ⟨⟨rfl, rfl, slices_IndexFunc__impl_RayPair_impl_RayPair_v4_l0_r⟩, trivial⟩
theorem slices_IndexFunc__impl_RayPair_impl_RayPair_v4_e : ∀ v, (evFn (mkCtx Go.K.Link.seat slices_IndexFunc__impl_RayPair_impl_RayPair_v4_c slices_IndexFunc__impl_RayPair_impl_RayPair_v4_tab) (sums slices_IndexFunc__impl_RayPair_impl_RayPair_v4_ls) 133 Go.Proofs.Tryz.f133 (encL slices_IndexFunc__impl_RayPair_impl_RayPair_v4_s.a v)).run = (slices_IndexFunc__impl_RayPair_impl_RayPair_v4_s.gen v).bind fun y => some (slices_IndexFunc__impl_RayPair_impl_RayPair_v4_s.out y) := by
  rintro ⟨s, ⟨⟨_, ⟨f_0, _⟩⟩, _⟩⟩
  show _ = (slices_IndexFunc__impl_RayPair_impl_RayPair_v4 s f_0).bind fun y : Int => some (slices_IndexFunc__impl_RayPair_impl_RayPair_v4_s.out y)
  simp only [slices_IndexFunc__impl_RayPair_impl_RayPair_v4, kb_ite, kb_some, kb_none, kb_bind, kb_alt]
  kernel_rfl
theorem slices_IndexFunc__impl_RayPair_impl_RayPair_v4_is : FnIs Go.Proofs.Tryz.prog 133 (modeOf []) (phi [slices_IndexFunc__impl_RayPair_impl_RayPair_v4_s]) := spec_is (c := slices_IndexFunc__impl_RayPair_impl_RayPair_v4_c) seatOK slices_IndexFunc__impl_RayPair_impl_RayPair_v4_t Go.Proofs.Tryz.func133 rfl (code := slices_IndexFunc__impl_RayPair_impl_RayPair_v4_code) rfl rfl slices_IndexFunc__impl_RayPair_impl_RayPair_v4_rs slices_IndexFunc__impl_RayPair_impl_RayPair_v4_e
noncomputable def slices_DeleteFunc__impl_RayPair_impl_RayPair_v2_l0_s : LSum := ⟨0, ⟨[(0, .val (.sl 47 (.pair (.pair (.int .i64) (.pair (.int .i64) (.unit))) (.pair (.pair (.int .i64) (.pair (.int .i64) (.unit))) (.unit)))) (.own .fr)), (0, .fnl 171 [] [.arg (.v (.ptr (.sl 27 (.pair (.int .i64) (.pair (.int .i64) (.unit))))) .fr)]), (3, .val (.int .i64) .fr), (0, .val (.int .i64) .fr)], 35⟩, (.exit 0, ⟨[(0, .val (.sl 47 (.pair (.pair (.int .i64) (.pair (.int .i64) (.unit))) (.pair (.pair (.int .i64) (.pair (.int .i64) (.unit))) (.unit)))) (.own .fr)), (4, .val (.int .i64) .fr)], 36⟩), [], slices_DeleteFunc__impl_RayPair_impl_RayPair_v2_l0⟩
noncomputable def slices_DeleteFunc__impl_RayPair_impl_RayPair_v2_s : Spec := ⟨[.v (.sl 47 (.pair (.pair (.int .i64) (.pair (.int .i64) (.unit))) (.pair (.pair (.int .i64) (.pair (.int .i64) (.unit))) (.unit)))) (.own .fr), .fn 171 [] [.v (.ptr (.sl 27 (.pair (.int .i64) (.pair (.int .i64) (.unit))))) .fr]], (List ((Int × (Int × Unit)) × ((Int × (Int × Unit)) × Unit))), fun v => slices_DeleteFunc__impl_RayPair_impl_RayPair_v2 v.1 v.2.1.2.1, fun r => ([.v (.sl 47 (.pair (.pair (.int .i64) (.pair (.int .i64) (.unit))) (.pair (.pair (.int .i64) (.pair (.int .i64) (.unit))) (.unit)))) (.own .fr) r], [])⟩
noncomputable def slices_DeleteFunc__impl_RayPair_impl_RayPair_v2_ls : List LSum := [slices_DeleteFunc__impl_RayPair_impl_RayPair_v2_l0_s]
noncomputable def slices_DeleteFunc__impl_RayPair_impl_RayPair_v2_tab : List Row := [⟨133, [], [slices_IndexFunc__impl_RayPair_impl_RayPair_v4_s]⟩, ⟨171, [], [impl_wakesAround_f1_s]⟩]
theorem slices_DeleteFunc__impl_RayPair_impl_RayPair_v2_t : ∀ r, r ∈ slices_DeleteFunc__impl_RayPair_impl_RayPair_v2_tab → RowIs Go.Proofs.Tryz.prog r := tab_cons (slices_IndexFunc__impl_RayPair_impl_RayPair_v4_is) (tab_cons (impl_wakesAround_f1_is) (tab_nil))
theorem slices_DeleteFunc__impl_RayPair_impl_RayPair_v2_l0_r : RoundIs (mkCtx Go.K.Link.seat slices_DeleteFunc__impl_RayPair_impl_RayPair_v2_c slices_DeleteFunc__impl_RayPair_impl_RayPair_v2_tab) (sums slices_DeleteFunc__impl_RayPair_impl_RayPair_v2_ls) 0 (bodyAt (loopsOf 0 slices_DeleteFunc__impl_RayPair_impl_RayPair_v2_code) 0) slices_DeleteFunc__impl_RayPair_impl_RayPair_v2_l0_s := by
  rintro ⟨s, ⟨_, ⟨del, _⟩, ⟨i, ⟨j, _⟩⟩⟩⟩
  show _ = (slices_DeleteFunc__impl_RayPair_impl_RayPair_v2_l0 (s, ((), (del, ()), (i, (j, ()))))).bind fun r : (Ctl ((List ((Int × (Int × Unit)) × ((Int × (Int × Unit)) × Unit))) × Unit × (List (Int × (Int × Unit)) × Unit) × Int × Int × Unit) (((List ((Int × (Int × Unit)) × ((Int × (Int × Unit)) × Unit))) × Int × Unit))) => some (ctlVal slices_DeleteFunc__impl_RayPair_impl_RayPair_v2_l0_s r)
  simp only [slices_DeleteFunc__impl_RayPair_impl_RayPair_v2_l0, kb_ite, kb_some, kb_none, kb_bind, kb_alt]
  kernel_rfl
theorem slices_DeleteFunc__impl_RayPair_impl_RayPair_v2_rs : RoundsOK (mkCtx Go.K.Link.seat slices_DeleteFunc__impl_RayPair_impl_RayPair_v2_c slices_DeleteFunc__impl_RayPair_impl_RayPair_v2_tab) (sums slices_DeleteFunc__impl_RayPair_impl_RayPair_v2_ls) (loopsOf 0 slices_DeleteFunc__impl_RayPair_impl_RayPair_v2_code) slices_DeleteFunc__impl_RayPair_impl_RayPair_v2_ls := ⟨⟨rfl, rfl, slices_DeleteFunc__impl_RayPair_impl_RayPair_v2_l0_r⟩, trivial⟩
theorem slices_DeleteFunc__impl_RayPair_impl_RayPair_v2_e : ∀ v, (evFn (mkCtx Go.K.Link.seat slices_DeleteFunc__impl_RayPair_impl_RayPair_v2_c slices_DeleteFunc__impl_RayPair_impl_RayPair_v2_tab) (sums slices_DeleteFunc__impl_RayPair_impl_RayPair_v2_ls) 130 Go.Proofs.Tryz.f130 (encL slices_DeleteFunc__impl_RayPair_impl_RayPair_v2_s.a v)).run = (slices_DeleteFunc__impl_RayPair_impl_RayPair_v2_s.gen v).bind fun y => some (slices_DeleteFunc__impl_RayPair_impl_RayPair_v2_s.out y) := by
  rintro ⟨s, ⟨⟨_, ⟨del_0, _⟩⟩, _⟩⟩
  show _ = (slices_DeleteFunc__impl_RayPair_impl_RayPair_v2 s del_0).bind fun y : (List ((Int × (Int × Unit)) × ((Int × (Int × Unit)) × Unit))) => some (slices_DeleteFunc__impl_RayPair_impl_RayPair_v2_s.out y)
  simp only [slices_DeleteFunc__impl_RayPair_impl_RayPair_v2, kb_ite, kb_some, kb_none, kb_bind, kb_alt]
  kernel_rfl
theorem slices_DeleteFunc__impl_RayPair_impl_RayPair_v2_is : FnIs Go.Proofs.Tryz.prog 130 (modeOf [.own]) (phi [slices_DeleteFunc__impl_RayPair_impl_RayPair_v2_s]) := spec_is (c := slices_DeleteFunc__impl_RayPair_impl_RayPair_v2_c) seatOK slices_DeleteFunc__impl_RayPair_impl_RayPair_v2_t Go.Proofs.Tryz.func130 rfl (code := slices_DeleteFunc__impl_RayPair_impl_RayPair_v2_code) rfl rfl slices_DeleteFunc__impl_RayPair_impl_RayPair_v2_rs slices_DeleteFunc__impl_RayPair_impl_RayPair_v2_e
noncomputable def impl_wakesAround_f2_code : Code := (Go.Proofs.Tryz.f174.body).getD .skip
def impl_wakesAround_f2_c : Cfg := ⟨174, [], [], [], [], []⟩
noncomputable def impl_wakesAround_f2_s : Spec := ⟨[.v (.pair (.pair (.int .i64) (.pair (.int .i64) (.unit))) (.pair (.pair (.int .i64) (.pair (.int .i64) (.unit))) (.unit))) .fr, .v (.pair (.pair (.int .i64) (.pair (.int .i64) (.unit))) (.pair (.pair (.int .i64) (.pair (.int .i64) (.unit))) (.unit))) .fr], Int, fun v => impl_wakesAround_f2 v.1 v.2.1, fun r => ([.v (.int .i64) .fr r], [])⟩
noncomputable def impl_wakesAround_f2_ls : List LSum := []
noncomputable def impl_wakesAround_f2_tab : List Row := [⟨114, [], [impl_Angle_compare_s]⟩, ⟨118, [], [impl_RayPair_width_s]⟩]
theorem impl_wakesAround_f2_t : ∀ r, r ∈ impl_wakesAround_f2_tab → RowIs Go.Proofs.Tryz.prog r := tab_cons (impl_Angle_compare_is) (tab_cons (impl_RayPair_width_is) (tab_nil))
theorem impl_wakesAround_f2_rs : RoundsOK (mkCtx Go.K.Link.seat impl_wakesAround_f2_c impl_wakesAround_f2_tab) (sums impl_wakesAround_f2_ls) (loopsOf 0 impl_wakesAround_f2_code) impl_wakesAround_f2_ls := trivial
theorem impl_wakesAround_f2_e : ∀ v, (evFn (mkCtx Go.K.Link.seat impl_wakesAround_f2_c impl_wakesAround_f2_tab) (sums impl_wakesAround_f2_ls) 174 Go.Proofs.Tryz.f174 (encL impl_wakesAround_f2_s.a v)).run = (impl_wakesAround_f2_s.gen v).bind fun y => some (impl_wakesAround_f2_s.out y) := by
  rintro ⟨p, ⟨q, _⟩⟩
  show _ = (impl_wakesAround_f2 p q).bind fun y : Int => some (impl_wakesAround_f2_s.out y)
  simp only [impl_wakesAround_f2, kb_ite, kb_some, kb_none, kb_bind, kb_alt]
  kernel_rfl
theorem impl_wakesAround_f2_is : FnIs Go.Proofs.Tryz.prog 174 (modeOf []) (phi [impl_wakesAround_f2_s]) := spec_is (c := impl_wakesAround_f2_c) seatOK impl_wakesAround_f2_t Go.Proofs.Tryz.func174 rfl (code := impl_wakesAround_f2_code) rfl rfl impl_wakesAround_f2_rs impl_wakesAround_f2_e
noncomputable def slices_SortFunc__impl_RayPair_impl_RayPair_v2_s : Spec := ⟨[.v (.sl 47 (.pair (.pair (.int .i64) (.pair (.int .i64) (.unit))) (.pair (.pair (.int .i64) (.pair (.int .i64) (.unit))) (.unit)))) (.own .fr), .fn 174 [] []], List ((Int × (Int × Unit)) × ((Int × (Int × Unit)) × Unit)), fun v => slices_SortFunc__impl_RayPair_impl_RayPair_v2 v.1, fun r => ([], [.v (.sl 47 (.pair (.pair (.int .i64) (.pair (.int .i64) (.unit))) (.pair (.pair (.int .i64) (.pair (.int .i64) (.unit))) (.unit)))) (.own .fr) r])⟩
theorem slices_SortFunc__impl_RayPair_impl_RayPair_v2_is : FnIs Go.Proofs.Tryz.prog 173 (modeOf [.mut]) (phi [slices_SortFunc__impl_RayPair_impl_RayPair_v2_s]) := sortFunc_is (cs := []) (cf := fun c x y => impl_wakesAround_f2 x y ) Go.Proofs.Tryz.sortL173 ⟨_, Go.Proofs.Tryz.func173, rfl, rfl⟩ (T := 47) (e := (.pair (.pair (.int .i64) (.pair (.int .i64) (.unit))) (.pair (.pair (.int .i64) (.pair (.int .i64) (.unit))) (.unit)))) rfl rfl Go.Proofs.Tryz.isAgg47 Go.Proofs.Tryz.sizeOf47 impl_wakesAround_f2_is (fun c x y r h => by
  have e : (phi [impl_wakesAround_f2_s] (.v (.pair (.pair (.int .i64) (.pair (.int .i64) (.unit))) (.pair (.pair (.int .i64) (.pair (.int .i64) (.unit))) (.unit))) .fr x :: .v (.pair (.pair (.int .i64) (.pair (.int .i64) (.unit))) (.pair (.pair (.int .i64) (.pair (.int .i64) (.unit))) (.unit))) .fr y :: encL [] c)).run = (impl_wakesAround_f2 x y ).bind fun r => some ([.v (.int .i64) .fr r], []) := by kernel_rfl
  rw [e]
  show (impl_wakesAround_f2 x y ).bind _ = _
  rw [show impl_wakesAround_f2 x y  = some r from h]
  rfl)
noncomputable def impl_wakesAround_s : Spec := ⟨[.v (.int .i64) .fr, .v (.sl 27 (.pair (.int .i64) (.pair (.int .i64) (.unit)))) .fr], (List ((Int × (Int × Unit)) × ((Int × (Int × Unit)) × Unit))), fun v => impl_wakesAround v.1 v.2.1, fun r => ([.v (.sl 47 (.pair (.pair (.int .i64) (.pair (.int .i64) (.unit))) (.pair (.pair (.int .i64) (.pair (.int .i64) (.unit))) (.unit)))) (.own .fr) r], [])⟩
noncomputable def impl_wakesAround_ls : List LSum := []
noncomputable def impl_wakesAround_tab : List Row := [⟨130, [.own], [slices_DeleteFunc__impl_RayPair_impl_RayPair_v2_s]⟩, ⟨170, [], [impl_pairsUpTo_s]⟩, ⟨173, [.mut], [slices_SortFunc__impl_RayPair_impl_RayPair_v2_s]⟩]
theorem impl_wakesAround_t : ∀ r, r ∈ impl_wakesAround_tab → RowIs Go.Proofs.Tryz.prog r := tab_cons (slices_DeleteFunc__impl_RayPair_impl_RayPair_v2_is) (tab_cons (impl_pairsUpTo_is) (tab_cons (slices_SortFunc__impl_RayPair_impl_RayPair_v2_is) (tab_nil)))
theorem impl_wakesAround_rs : RoundsOK (mkCtx Go.K.Link.seat impl_wakesAround_c impl_wakesAround_tab) (sums impl_wakesAround_ls) (loopsOf 0 impl_wakesAround_code) impl_wakesAround_ls := trivial
theorem impl_wakesAround_e : ∀ v, (evFn (mkCtx Go.K.Link.seat impl_wakesAround_c impl_wakesAround_tab) (sums impl_wakesAround_ls) 124 Go.Proofs.Tryz.f124 (encL impl_wakesAround_s.a v)).run = (impl_wakesAround_s.gen v).bind fun y => some (impl_wakesAround_s.out y) := by
  rintro ⟨n, ⟨list, _⟩⟩
  show _ = (impl_wakesAround n list).bind fun y : (List ((Int × (Int × Unit)) × ((Int × (Int × Unit)) × Unit))) => some (impl_wakesAround_s.out y)
  simp only [impl_wakesAround, kb_ite, kb_some, kb_none, kb_bind, kb_alt]
  kernel_rfl
theorem impl_wakesAround_is : FnIs Go.Proofs.Tryz.prog 124 (modeOf []) (phi [impl_wakesAround_s]) := spec_is (c := impl_wakesAround_c) seatOK impl_wakesAround_t Go.Proofs.Tryz.func124 rfl (code := impl_wakesAround_code) rfl rfl impl_wakesAround_rs impl_wakesAround_e
noncomputable def impl_WakesAround_s : Spec := ⟨[.v (.pair (.int .i64) (.pair (.int .i64) (.unit))) .fr, .v (.int .i64) .fr], (List ((Int × (Int × Unit)) × ((Int × (Int × Unit)) × Unit))) × Int, fun v => impl_WakesAround v.1 v.2.1, fun r => ([.v (.sl 47 (.pair (.pair (.int .i64) (.pair (.int .i64) (.unit))) (.pair (.pair (.int .i64) (.pair (.int .i64) (.unit))) (.unit)))) (.own .fr) r.1, .v (.int .i64) .fr r.2], [])⟩
noncomputable def impl_WakesAround_ls : List LSum := []
noncomputable def impl_WakesAround_tab : List Row := [⟨94, [], [impl_isPeriod_s]⟩, ⟨106, [], [impl_IsAngle_s]⟩, ⟨124, [], [impl_wakesAround_s]⟩]
theorem impl_WakesAround_t : ∀ r, r ∈ impl_WakesAround_tab → RowIs Go.Proofs.Tryz.prog r := tab_cons (impl_isPeriod_is) (tab_cons (impl_IsAngle_is) (tab_cons (impl_wakesAround_is) (tab_nil)))
theorem impl_WakesAround_rs : RoundsOK (mkCtx Go.K.Link.seat impl_WakesAround_c impl_WakesAround_tab) (sums impl_WakesAround_ls) (loopsOf 0 impl_WakesAround_code) impl_WakesAround_ls := trivial
theorem impl_WakesAround_e : ∀ v, (evFn (mkCtx Go.K.Link.seat impl_WakesAround_c impl_WakesAround_tab) (sums impl_WakesAround_ls) 47 Go.Proofs.Tryz.f47 (encL impl_WakesAround_s.a v)).run = (impl_WakesAround_s.gen v).bind fun y => some (impl_WakesAround_s.out y) := by
  rintro ⟨x, ⟨n, _⟩⟩
  show _ = (impl_WakesAround x n).bind fun y : (List ((Int × (Int × Unit)) × ((Int × (Int × Unit)) × Unit))) × Int => some (impl_WakesAround_s.out y)
  simp only [impl_WakesAround, kb_ite, kb_some, kb_none, kb_bind, kb_alt]
  kernel_rfl
theorem impl_WakesAround_is : FnIs Go.Proofs.Tryz.prog 47 (modeOf []) (phi [impl_WakesAround_s]) := spec_is (c := impl_WakesAround_c) seatOK impl_WakesAround_t Go.Proofs.Tryz.func47 rfl (code := impl_WakesAround_code) rfl rfl impl_WakesAround_rs impl_WakesAround_e
noncomputable def spec_WakesAround_code : Code := (Go.Proofs.Tryz.f48.body).getD .skip
def spec_WakesAround_c : Cfg := ⟨48, [], [], [], [], []⟩
noncomputable def spec_l04Sorted_code : Code := (Go.Proofs.Tryz.f125.body).getD .skip
def spec_l04Sorted_c : Cfg := ⟨125, [], [[1, 2, 5, 6, 9, 57], [5, 9, 57], [4, 5, 9, 57, 58], [], [], [], [1, 2, 5, 6, 7, 9, 57], [1, 2, 5, 6, 7, 9, 57], [4, 5, 9, 57, 58]], [], [], []⟩
noncomputable def spec_l04Sorted_l1_s : LSum := ⟨2, ⟨[(1, .val (.sl 47 (.pair (.pair (.int .i64) (.pair (.int .i64) (.unit))) (.pair (.pair (.int .i64) (.pair (.int .i64) (.unit))) (.unit)))) .fr), (0, .val (.ptr (.pair (.int .i64) (.pair (.int .i64) (.unit)))) (.own .fr)), (2, .val (.sl 47 (.pair (.pair (.int .i64) (.pair (.int .i64) (.unit))) (.pair (.pair (.int .i64) (.pair (.int .i64) (.unit))) (.unit)))) (.own .fr)), (0, .val (.int .i64) .fr), (0, .val (.int .i64) .fr)], 51⟩, (.exit 2, ⟨[(1, .val (.sl 47 (.pair (.pair (.int .i64) (.pair (.int .i64) (.unit))) (.pair (.pair (.int .i64) (.pair (.int .i64) (.unit))) (.unit)))) .fr), (0, .val (.ptr (.pair (.int .i64) (.pair (.int .i64) (.unit)))) (.own .fr)), (2, .val (.sl 47 (.pair (.pair (.int .i64) (.pair (.int .i64) (.unit))) (.pair (.pair (.int .i64) (.pair (.int .i64) (.unit))) (.unit)))) (.own .fr)), (0, .val (.int .i64) .fr), (0, .val (.int .i64) .fr)], 51⟩), [], spec_l04Sorted_l1⟩
noncomputable def spec_l04Sorted_l0_s : LSum := ⟨0, ⟨[(1, .val (.sl 47 (.pair (.pair (.int .i64) (.pair (.int .i64) (.unit))) (.pair (.pair (.int .i64) (.pair (.int .i64) (.unit))) (.unit)))) .fr), (0, .val (.ptr (.pair (.int .i64) (.pair (.int .i64) (.unit)))) (.own .fr)), (2, .val (.sl 47 (.pair (.pair (.int .i64) (.pair (.int .i64) (.unit))) (.pair (.pair (.int .i64) (.pair (.int .i64) (.unit))) (.unit)))) (.own .fr)), (0, .val (.int .i64) .fr)], 52⟩, (.exit 0, ⟨[(5, .val (.sl 47 (.pair (.pair (.int .i64) (.pair (.int .i64) (.unit))) (.pair (.pair (.int .i64) (.pair (.int .i64) (.unit))) (.unit)))) (.own .fr))], 53⟩), [], spec_l04Sorted_l0⟩
noncomputable def spec_l04Sorted_s : Spec := ⟨[.v (.pair (.int .i64) (.pair (.int .i64) (.unit))) .fr, .v (.sl 47 (.pair (.pair (.int .i64) (.pair (.int .i64) (.unit))) (.pair (.pair (.int .i64) (.pair (.int .i64) (.unit))) (.unit)))) .fr], (List ((Int × (Int × Unit)) × ((Int × (Int × Unit)) × Unit))), fun v => spec_l04Sorted v.1 v.2.1, fun r => ([.v (.sl 47 (.pair (.pair (.int .i64) (.pair (.int .i64) (.unit))) (.pair (.pair (.int .i64) (.pair (.int .i64) (.unit))) (.unit)))) (.own .fr) r], [])⟩
noncomputable def spec_l04Sorted_ls : List LSum := [spec_l04Sorted_l0_s, spec_l04Sorted_l1_s]
noncomputable def spec_l04Sorted_tab : List Row := [⟨175, [], [spec_l04Inside_s]⟩, ⟨113, [], [spec_l01Less_s]⟩]
theorem spec_l04Sorted_t : ∀ r, r ∈ spec_l04Sorted_tab → RowIs Go.Proofs.Tryz.prog r := tab_cons (spec_l04Inside_is) (tab_cons (spec_l01Less_is) (tab_nil))
theorem spec_l04Sorted_l0_r : RoundIs (mkCtx Go.K.Link.seat spec_l04Sorted_c spec_l04Sorted_tab) (sums spec_l04Sorted_ls) 0 (bodyAt (loopsOf 0 spec_l04Sorted_code) 0) spec_l04Sorted_l0_s := by
  rintro ⟨list, ⟨x, ⟨out, ⟨i, _⟩⟩⟩⟩
  show _ = (spec_l04Sorted_l0 (list, (x, (out, (i, ()))))).bind fun r : (Ctl ((List ((Int × (Int × Unit)) × ((Int × (Int × Unit)) × Unit))) × ((Int × (Int × Unit))) × (List ((Int × (Int × Unit)) × ((Int × (Int × Unit)) × Unit))) × Int × Unit) (((List ((Int × (Int × Unit)) × ((Int × (Int × Unit)) × Unit))) × Unit))) => some (ctlVal spec_l04Sorted_l0_s r)
  simp only [spec_l04Sorted_l0, kb_ite, kb_some, kb_none, kb_bind, kb_alt]
  kernel_rfl
theorem spec_l04Sorted_l1_r : RoundIs (mkCtx Go.K.Link.seat spec_l04Sorted_c spec_l04Sorted_tab) (sums spec_l04Sorted_ls) 2 (bodyAt (loopsOf 0 spec_l04Sorted_code) 1) spec_l04Sorted_l1_s := by
  rintro ⟨list, ⟨x, ⟨out, ⟨i, ⟨at', _⟩⟩⟩⟩⟩
  show _ = (spec_l04Sorted_l1 (list, (x, (out, (i, (at', ())))))).bind fun r : (Ctl ((List ((Int × (Int × Unit)) × ((Int × (Int × Unit)) × Unit))) × ((Int × (Int × Unit))) × (List ((Int × (Int × Unit)) × ((Int × (Int × Unit)) × Unit))) × Int × Int × Unit) (((List ((Int × (Int × Unit)) × ((Int × (Int × Unit)) × Unit))) × ((Int × (Int × Unit))) × (List ((Int × (Int × Unit)) × ((Int × (Int × Unit)) × Unit))) × Int × Int × Unit))) => some (ctlVal spec_l04Sorted_l1_s r)
  simp only [spec_l04Sorted_l1, kb_ite, kb_some, kb_none, kb_bind, kb_alt]
  kernel_rfl
theorem spec_l04Sorted_rs : RoundsOK (mkCtx Go.K.Link.seat spec_l04Sorted_c spec_l04Sorted_tab) (sums spec_l04Sorted_ls) (loopsOf 0 spec_l04Sorted_code) spec_l04Sorted_ls := ⟨⟨rfl, rfl, spec_l04Sorted_l0_r⟩, ⟨⟨rfl, rfl, spec_l04Sorted_l1_r⟩, trivial⟩⟩
theorem spec_l04Sorted_e : ∀ v, (evFn (mkCtx Go.K.Link.seat spec_l04Sorted_c spec_l04Sorted_tab) (sums spec_l04Sorted_ls) 125 Go.Proofs.Tryz.f125 (encL spec_l04Sorted_s.a v)).run = (spec_l04Sorted_s.gen v).bind fun y => some (spec_l04Sorted_s.out y) := by
  rintro ⟨x, ⟨list, _⟩⟩
  show _ = (spec_l04Sorted x list).bind fun y : (List ((Int × (Int × Unit)) × ((Int × (Int × Unit)) × Unit))) => some (spec_l04Sorted_s.out y)
  simp only [spec_l04Sorted, kb_ite, kb_some, kb_none, kb_bind, kb_alt]
  kernel_rfl
theorem spec_l04Sorted_is : FnIs Go.Proofs.Tryz.prog 125 (modeOf []) (phi [spec_l04Sorted_s]) := spec_is (c := spec_l04Sorted_c) seatOK spec_l04Sorted_t Go.Proofs.Tryz.func125 rfl (code := spec_l04Sorted_code) rfl rfl spec_l04Sorted_rs spec_l04Sorted_e
noncomputable def spec_WakesAround_s : Spec := ⟨[.v (.pair (.int .i64) (.pair (.int .i64) (.unit))) .fr, .v (.int .i64) .fr], (List ((Int × (Int × Unit)) × ((Int × (Int × Unit)) × Unit))) × Int, fun v => spec_WakesAround v.1 v.2.1, fun r => ([.v (.sl 47 (.pair (.pair (.int .i64) (.pair (.int .i64) (.unit))) (.pair (.pair (.int .i64) (.pair (.int .i64) (.unit))) (.unit)))) (.own .fr) r.1, .v (.int .i64) .fr r.2], [])⟩
noncomputable def spec_WakesAround_ls : List LSum := []
noncomputable def spec_WakesAround_tab : List Row := [⟨104, [], [spec_l01Is_s]⟩, ⟨105, [], [spec_l01In_s]⟩, ⟨125, [], [spec_l04Sorted_s]⟩, ⟨126, [], [spec_l04Pairs_s]⟩]
theorem spec_WakesAround_t : ∀ r, r ∈ spec_WakesAround_tab → RowIs Go.Proofs.Tryz.prog r := tab_cons (spec_l01Is_is) (tab_cons (spec_l01In_is) (tab_cons (spec_l04Sorted_is) (tab_cons (spec_l04Pairs_is) (tab_nil))))
theorem spec_WakesAround_rs : RoundsOK (mkCtx Go.K.Link.seat spec_WakesAround_c spec_WakesAround_tab) (sums spec_WakesAround_ls) (loopsOf 0 spec_WakesAround_code) spec_WakesAround_ls := trivial
theorem spec_WakesAround_e : ∀ v, (evFn (mkCtx Go.K.Link.seat spec_WakesAround_c spec_WakesAround_tab) (sums spec_WakesAround_ls) 48 Go.Proofs.Tryz.f48 (encL spec_WakesAround_s.a v)).run = (spec_WakesAround_s.gen v).bind fun y => some (spec_WakesAround_s.out y) := by
  rintro ⟨x, ⟨n, _⟩⟩
  show _ = (spec_WakesAround x n).bind fun y : (List ((Int × (Int × Unit)) × ((Int × (Int × Unit)) × Unit))) × Int => some (spec_WakesAround_s.out y)
  simp only [spec_WakesAround, kb_ite, kb_some, kb_none, kb_bind, kb_alt]
  kernel_rfl
theorem spec_WakesAround_is : FnIs Go.Proofs.Tryz.prog 48 (modeOf []) (phi [spec_WakesAround_s]) := spec_is (c := spec_WakesAround_c) seatOK spec_WakesAround_t Go.Proofs.Tryz.func48 rfl (code := spec_WakesAround_code) rfl rfl spec_WakesAround_rs spec_WakesAround_e
noncomputable def laws_pairs9_code : Code := (Go.Proofs.Tryz.f49.body).getD .skip
def laws_pairs9_c : Cfg := ⟨49, [], [[0, 1, 5], [], [4]], [], [], []⟩
noncomputable def laws_pairs9_l0_s : LSum := ⟨0, ⟨[(0, .val (.sl 47 (.pair (.pair (.int .i64) (.pair (.int .i64) (.unit))) (.pair (.pair (.int .i64) (.pair (.int .i64) (.unit))) (.unit)))) .fr), (0, .val (.sl 47 (.pair (.pair (.int .i64) (.pair (.int .i64) (.unit))) (.pair (.pair (.int .i64) (.pair (.int .i64) (.unit))) (.unit)))) .fr), (3, .val (.int .i64) .fr)], 20⟩, (.ret, ⟨[(4, .val (.bool) .fr)], 21⟩), [(.exit 0, ⟨[], 26⟩)], laws_pairs9_l0⟩
noncomputable def laws_pairs9_s : Spec := ⟨[.v (.sl 47 (.pair (.pair (.int .i64) (.pair (.int .i64) (.unit))) (.pair (.pair (.int .i64) (.pair (.int .i64) (.unit))) (.unit)))) .fr, .v (.sl 47 (.pair (.pair (.int .i64) (.pair (.int .i64) (.unit))) (.pair (.pair (.int .i64) (.pair (.int .i64) (.unit))) (.unit)))) .fr], Bool, fun v => laws_pairs9 v.1 v.2.1, fun r => ([.v (.bool) .fr r], [])⟩
noncomputable def laws_pairs9_ls : List LSum := [laws_pairs9_l0_s]
noncomputable def laws_pairs9_tab : List Row := []
theorem laws_pairs9_t : ∀ r, r ∈ laws_pairs9_tab → RowIs Go.Proofs.Tryz.prog r := tab_nil
theorem laws_pairs9_l0_r : RoundIs (mkCtx Go.K.Link.seat laws_pairs9_c laws_pairs9_tab) (sums laws_pairs9_ls) 0 (bodyAt (loopsOf 0 laws_pairs9_code) 0) laws_pairs9_l0_s := by
  rintro ⟨a, ⟨b, ⟨i, _⟩⟩⟩
  show _ = (laws_pairs9_l0 (a, (b, (i, ())))).bind fun r : (Ctl ((List ((Int × (Int × Unit)) × ((Int × (Int × Unit)) × Unit))) × (List ((Int × (Int × Unit)) × ((Int × (Int × Unit)) × Unit))) × Int × Unit) ((Bool × Unit) ⊕ (Unit))) => some (ctlVal laws_pairs9_l0_s r)
  simp only [laws_pairs9_l0, kb_ite, kb_some, kb_none, kb_bind, kb_alt]
  kernel_rfl
theorem laws_pairs9_rs : RoundsOK (mkCtx Go.K.Link.seat laws_pairs9_c laws_pairs9_tab) (sums laws_pairs9_ls) (loopsOf 0 laws_pairs9_code) laws_pairs9_ls := ⟨⟨rfl, rfl, laws_pairs9_l0_r⟩, trivial⟩
theorem laws_pairs9_e : ∀ v, (evFn (mkCtx Go.K.Link.seat laws_pairs9_c laws_pairs9_tab) (sums laws_pairs9_ls) 49 Go.Proofs.Tryz.f49 (encL laws_pairs9_s.a v)).run = (laws_pairs9_s.gen v).bind fun y => some (laws_pairs9_s.out y) := by
  rintro ⟨a, ⟨b, _⟩⟩
  show _ = (laws_pairs9 a b).bind fun y : Bool => some (laws_pairs9_s.out y)
  simp only [laws_pairs9, kb_ite, kb_some, kb_none, kb_bind, kb_alt]
  kernel_rfl
theorem laws_pairs9_is : FnIs Go.Proofs.Tryz.prog 49 (modeOf []) (phi [laws_pairs9_s]) := spec_is (c := laws_pairs9_c) seatOK laws_pairs9_t Go.Proofs.Tryz.func49 rfl (code := laws_pairs9_code) rfl rfl laws_pairs9_rs laws_pairs9_e
noncomputable def impl_ParentOf_code : Code := (Go.Proofs.Tryz.f50.body).getD .skip
def impl_ParentOf_c : Cfg := ⟨50, [], [], [], [], []⟩
noncomputable def impl_ParentOf_s : Spec := ⟨[.v (.pair (.int .i64) (.pair (.int .i64) (.unit))) .fr], ((Int × (Int × Unit)) × ((Int × (Int × Unit)) × Unit)) × Int, fun v => impl_ParentOf v.1, fun r => ([.v (.pair (.pair (.int .i64) (.pair (.int .i64) (.unit))) (.pair (.pair (.int .i64) (.pair (.int .i64) (.unit))) (.unit))) .fr r.1, .v (.int .i64) .fr r.2], [])⟩
noncomputable def impl_ParentOf_ls : List LSum := []
noncomputable def impl_ParentOf_tab : List Row := [⟨58, [], [impl_PairOf_s]⟩, ⟨124, [], [impl_wakesAround_s]⟩]
theorem impl_ParentOf_t : ∀ r, r ∈ impl_ParentOf_tab → RowIs Go.Proofs.Tryz.prog r := tab_cons (impl_PairOf_is) (tab_cons (impl_wakesAround_is) (tab_nil))
theorem impl_ParentOf_rs : RoundsOK (mkCtx Go.K.Link.seat impl_ParentOf_c impl_ParentOf_tab) (sums impl_ParentOf_ls) (loopsOf 0 impl_ParentOf_code) impl_ParentOf_ls := trivial
theorem impl_ParentOf_e : ∀ v, (evFn (mkCtx Go.K.Link.seat impl_ParentOf_c impl_ParentOf_tab) (sums impl_ParentOf_ls) 50 Go.Proofs.Tryz.f50 (encL impl_ParentOf_s.a v)).run = (impl_ParentOf_s.gen v).bind fun y => some (impl_ParentOf_s.out y) := by
  rintro ⟨x, _⟩
  show _ = (impl_ParentOf x).bind fun y : ((Int × (Int × Unit)) × ((Int × (Int × Unit)) × Unit)) × Int => some (impl_ParentOf_s.out y)
  simp only [impl_ParentOf, kb_ite, kb_some, kb_none, kb_bind, kb_alt]
  kernel_rfl
theorem impl_ParentOf_is : FnIs Go.Proofs.Tryz.prog 50 (modeOf []) (phi [impl_ParentOf_s]) := spec_is (c := impl_ParentOf_c) seatOK impl_ParentOf_t Go.Proofs.Tryz.func50 rfl (code := impl_ParentOf_code) rfl rfl impl_ParentOf_rs impl_ParentOf_e
noncomputable def spec_ParentOf_code : Code := (Go.Proofs.Tryz.f51.body).getD .skip
def spec_ParentOf_c : Cfg := ⟨51, [], [], [], [], []⟩
noncomputable def spec_l04Around_code : Code := (Go.Proofs.Tryz.f127.body).getD .skip
def spec_l04Around_c : Cfg := ⟨127, [], [[2, 5, 6, 7, 8, 12, 32], [5, 8, 32], [4, 5, 8, 32, 33]], [], [], []⟩
noncomputable def spec_l04Around_l0_s : LSum := ⟨0, ⟨[(2, .val (.ptr (.pair (.pair (.int .i64) (.pair (.int .i64) (.unit))) (.pair (.pair (.int .i64) (.pair (.int .i64) (.unit))) (.unit)))) (.own .fr)), (2, .val (.sl 47 (.pair (.pair (.int .i64) (.pair (.int .i64) (.unit))) (.pair (.pair (.int .i64) (.pair (.int .i64) (.unit))) (.unit)))) (.own .fr)), (0, .val (.sl 47 (.pair (.pair (.int .i64) (.pair (.int .i64) (.unit))) (.pair (.pair (.int .i64) (.pair (.int .i64) (.unit))) (.unit)))) (.own .fr)), (0, .val (.int .i64) .fr)], 26⟩, (.exit 0, ⟨[(5, .val (.sl 47 (.pair (.pair (.int .i64) (.pair (.int .i64) (.unit))) (.pair (.pair (.int .i64) (.pair (.int .i64) (.unit))) (.unit)))) (.own .fr))], 28⟩), [], spec_l04Around_l0⟩
noncomputable def spec_l04Around_s : Spec := ⟨[.v (.pair (.pair (.int .i64) (.pair (.int .i64) (.unit))) (.pair (.pair (.int .i64) (.pair (.int .i64) (.unit))) (.unit))) .fr, .v (.sl 47 (.pair (.pair (.int .i64) (.pair (.int .i64) (.unit))) (.pair (.pair (.int .i64) (.pair (.int .i64) (.unit))) (.unit)))) .fr], (List ((Int × (Int × Unit)) × ((Int × (Int × Unit)) × Unit))), fun v => spec_l04Around v.1 v.2.1, fun r => ([.v (.sl 47 (.pair (.pair (.int .i64) (.pair (.int .i64) (.unit))) (.pair (.pair (.int .i64) (.pair (.int .i64) (.unit))) (.unit)))) (.own .fr) r], [])⟩
noncomputable def spec_l04Around_ls : List LSum := [spec_l04Around_l0_s]
noncomputable def spec_l04Around_tab : List Row := [⟨175, [], [spec_l04Inside_s]⟩, ⟨125, [], [spec_l04Sorted_s]⟩]
theorem spec_l04Around_t : ∀ r, r ∈ spec_l04Around_tab → RowIs Go.Proofs.Tryz.prog r := tab_cons (spec_l04Inside_is) (tab_cons (spec_l04Sorted_is) (tab_nil))
theorem spec_l04Around_l0_r : RoundIs (mkCtx Go.K.Link.seat spec_l04Around_c spec_l04Around_tab) (sums spec_l04Around_ls) 0 (bodyAt (loopsOf 0 spec_l04Around_code) 0) spec_l04Around_l0_s := by
  rintro ⟨p, ⟨out, ⟨near, ⟨i, _⟩⟩⟩⟩
  show _ = (spec_l04Around_l0 (p, (out, (near, (i, ()))))).bind fun r : (Ctl ((((Int × (Int × Unit)) × ((Int × (Int × Unit)) × Unit))) × (List ((Int × (Int × Unit)) × ((Int × (Int × Unit)) × Unit))) × (List ((Int × (Int × Unit)) × ((Int × (Int × Unit)) × Unit))) × Int × Unit) (((List ((Int × (Int × Unit)) × ((Int × (Int × Unit)) × Unit))) × Unit))) => some (ctlVal spec_l04Around_l0_s r)
  simp only [spec_l04Around_l0, kb_ite, kb_some, kb_none, kb_bind, kb_alt]
  kernel_rfl
theorem spec_l04Around_rs : RoundsOK (mkCtx Go.K.Link.seat spec_l04Around_c spec_l04Around_tab) (sums spec_l04Around_ls) (loopsOf 0 spec_l04Around_code) spec_l04Around_ls := ⟨⟨rfl, rfl, spec_l04Around_l0_r⟩, trivial⟩
theorem spec_l04Around_e : ∀ v, (evFn (mkCtx Go.K.Link.seat spec_l04Around_c spec_l04Around_tab) (sums spec_l04Around_ls) 127 Go.Proofs.Tryz.f127 (encL spec_l04Around_s.a v)).run = (spec_l04Around_s.gen v).bind fun y => some (spec_l04Around_s.out y) := by
  rintro ⟨p, ⟨list, _⟩⟩
  show _ = (spec_l04Around p list).bind fun y : (List ((Int × (Int × Unit)) × ((Int × (Int × Unit)) × Unit))) => some (spec_l04Around_s.out y)
  simp only [spec_l04Around, kb_ite, kb_some, kb_none, kb_bind, kb_alt]
  kernel_rfl
theorem spec_l04Around_is : FnIs Go.Proofs.Tryz.prog 127 (modeOf []) (phi [spec_l04Around_s]) := spec_is (c := spec_l04Around_c) seatOK spec_l04Around_t Go.Proofs.Tryz.func127 rfl (code := spec_l04Around_code) rfl rfl spec_l04Around_rs spec_l04Around_e
noncomputable def spec_ParentOf_s : Spec := ⟨[.v (.pair (.int .i64) (.pair (.int .i64) (.unit))) .fr], ((Int × (Int × Unit)) × ((Int × (Int × Unit)) × Unit)) × Int, fun v => spec_ParentOf v.1, fun r => ([.v (.pair (.pair (.int .i64) (.pair (.int .i64) (.unit))) (.pair (.pair (.int .i64) (.pair (.int .i64) (.unit))) (.unit))) .fr r.1, .v (.int .i64) .fr r.2], [])⟩
noncomputable def spec_ParentOf_ls : List LSum := []
noncomputable def spec_ParentOf_tab : List Row := [⟨71, [], [spec_PairOf_s]⟩, ⟨126, [], [spec_l04Pairs_s]⟩, ⟨127, [], [spec_l04Around_s]⟩]
theorem spec_ParentOf_t : ∀ r, r ∈ spec_ParentOf_tab → RowIs Go.Proofs.Tryz.prog r := tab_cons (spec_PairOf_is) (tab_cons (spec_l04Pairs_is) (tab_cons (spec_l04Around_is) (tab_nil)))
theorem spec_ParentOf_rs : RoundsOK (mkCtx Go.K.Link.seat spec_ParentOf_c spec_ParentOf_tab) (sums spec_ParentOf_ls) (loopsOf 0 spec_ParentOf_code) spec_ParentOf_ls := trivial
theorem spec_ParentOf_e : ∀ v, (evFn (mkCtx Go.K.Link.seat spec_ParentOf_c spec_ParentOf_tab) (sums spec_ParentOf_ls) 51 Go.Proofs.Tryz.f51 (encL spec_ParentOf_s.a v)).run = (spec_ParentOf_s.gen v).bind fun y => some (spec_ParentOf_s.out y) := by
  rintro ⟨x, _⟩
  show _ = (spec_ParentOf x).bind fun y : ((Int × (Int × Unit)) × ((Int × (Int × Unit)) × Unit)) × Int => some (spec_ParentOf_s.out y)
  simp only [spec_ParentOf, kb_ite, kb_some, kb_none, kb_bind, kb_alt]
  kernel_rfl
theorem spec_ParentOf_is : FnIs Go.Proofs.Tryz.prog 51 (modeOf []) (phi [spec_ParentOf_s]) := spec_is (c := spec_ParentOf_c) seatOK spec_ParentOf_t Go.Proofs.Tryz.func51 rfl (code := spec_ParentOf_code) rfl rfl spec_ParentOf_rs spec_ParentOf_e
noncomputable def impl_DepthOf_code : Code := (Go.Proofs.Tryz.f52.body).getD .skip
def impl_DepthOf_c : Cfg := ⟨52, [], [], [], [], []⟩
noncomputable def impl_length_impl_RayPair_code : Code := (Go.Proofs.Tryz.f128.body).getD .skip
def impl_length_impl_RayPair_c : Cfg := ⟨128, [], [], [], [], []⟩
noncomputable def impl_length_impl_RayPair_s : Spec := ⟨[.v (.sl 47 (.pair (.pair (.int .i64) (.pair (.int .i64) (.unit))) (.pair (.pair (.int .i64) (.pair (.int .i64) (.unit))) (.unit)))) .fr], Int, fun v => impl_length_impl_RayPair v.1, fun r => ([.v (.int .i64) .fr r], [])⟩
noncomputable def impl_length_impl_RayPair_ls : List LSum := []
noncomputable def impl_length_impl_RayPair_tab : List Row := []
theorem impl_length_impl_RayPair_t : ∀ r, r ∈ impl_length_impl_RayPair_tab → RowIs Go.Proofs.Tryz.prog r := tab_nil
theorem impl_length_impl_RayPair_rs : RoundsOK (mkCtx Go.K.Link.seat impl_length_impl_RayPair_c impl_length_impl_RayPair_tab) (sums impl_length_impl_RayPair_ls) (loopsOf 0 impl_length_impl_RayPair_code) impl_length_impl_RayPair_ls := trivial
theorem impl_length_impl_RayPair_e : ∀ v, (evFn (mkCtx Go.K.Link.seat impl_length_impl_RayPair_c impl_length_impl_RayPair_tab) (sums impl_length_impl_RayPair_ls) 128 Go.Proofs.Tryz.f128 (encL impl_length_impl_RayPair_s.a v)).run = (impl_length_impl_RayPair_s.gen v).bind fun y => some (impl_length_impl_RayPair_s.out y) := by
  rintro ⟨list, _⟩
  show _ = (impl_length_impl_RayPair list).bind fun y : Int => some (impl_length_impl_RayPair_s.out y)
  simp only [impl_length_impl_RayPair, kb_ite, kb_some, kb_none, kb_bind, kb_alt]
  kernel_rfl
theorem impl_length_impl_RayPair_is : FnIs Go.Proofs.Tryz.prog 128 (modeOf []) (phi [impl_length_impl_RayPair_s]) := spec_is (c := impl_length_impl_RayPair_c) seatOK impl_length_impl_RayPair_t Go.Proofs.Tryz.func128 rfl (code := impl_length_impl_RayPair_code) rfl rfl impl_length_impl_RayPair_rs impl_length_impl_RayPair_e
noncomputable def impl_DepthOf_s : Spec := ⟨[.v (.pair (.int .i64) (.pair (.int .i64) (.unit))) .fr], Int × Int, fun v => impl_DepthOf v.1, fun r => ([.v (.int .i64) .fr r.1, .v (.int .i64) .fr r.2], [])⟩
noncomputable def impl_DepthOf_ls : List LSum := []
noncomputable def impl_DepthOf_tab : List Row := [⟨128, [], [impl_length_impl_RayPair_s]⟩, ⟨58, [], [impl_PairOf_s]⟩, ⟨93, [], [impl_periodOf_s]⟩, ⟨124, [], [impl_wakesAround_s]⟩]
theorem impl_DepthOf_t : ∀ r, r ∈ impl_DepthOf_tab → RowIs Go.Proofs.Tryz.prog r := tab_cons (impl_length_impl_RayPair_is) (tab_cons (impl_PairOf_is) (tab_cons (impl_periodOf_is) (tab_cons (impl_wakesAround_is) (tab_nil))))
theorem impl_DepthOf_rs : RoundsOK (mkCtx Go.K.Link.seat impl_DepthOf_c impl_DepthOf_tab) (sums impl_DepthOf_ls) (loopsOf 0 impl_DepthOf_code) impl_DepthOf_ls := trivial
theorem impl_DepthOf_e : ∀ v, (evFn (mkCtx Go.K.Link.seat impl_DepthOf_c impl_DepthOf_tab) (sums impl_DepthOf_ls) 52 Go.Proofs.Tryz.f52 (encL impl_DepthOf_s.a v)).run = (impl_DepthOf_s.gen v).bind fun y => some (impl_DepthOf_s.out y) := by
  rintro ⟨x, _⟩
  show _ = (impl_DepthOf x).bind fun y : Int × Int => some (impl_DepthOf_s.out y)
  simp only [impl_DepthOf, kb_ite, kb_some, kb_none, kb_bind, kb_alt]
  kernel_rfl
theorem impl_DepthOf_is : FnIs Go.Proofs.Tryz.prog 52 (modeOf []) (phi [impl_DepthOf_s]) := spec_is (c := impl_DepthOf_c) seatOK impl_DepthOf_t Go.Proofs.Tryz.func52 rfl (code := impl_DepthOf_code) rfl rfl impl_DepthOf_rs impl_DepthOf_e
noncomputable def spec_DepthOf_code : Code := (Go.Proofs.Tryz.f53.body).getD .skip
def spec_DepthOf_c : Cfg := ⟨53, [], [], [], [], []⟩
noncomputable def spec_DepthOf_s : Spec := ⟨[.v (.pair (.int .i64) (.pair (.int .i64) (.unit))) .fr], Int × Int, fun v => spec_DepthOf v.1, fun r => ([.v (.int .i64) .fr r.1, .v (.int .i64) .fr r.2], [])⟩
noncomputable def spec_DepthOf_ls : List LSum := []
noncomputable def spec_DepthOf_tab : List Row := [⟨71, [], [spec_PairOf_s]⟩, ⟨119, [], [spec_l04Period_s]⟩, ⟨126, [], [spec_l04Pairs_s]⟩, ⟨127, [], [spec_l04Around_s]⟩]
theorem spec_DepthOf_t : ∀ r, r ∈ spec_DepthOf_tab → RowIs Go.Proofs.Tryz.prog r := tab_cons (spec_PairOf_is) (tab_cons (spec_l04Period_is) (tab_cons (spec_l04Pairs_is) (tab_cons (spec_l04Around_is) (tab_nil))))
theorem spec_DepthOf_rs : RoundsOK (mkCtx Go.K.Link.seat spec_DepthOf_c spec_DepthOf_tab) (sums spec_DepthOf_ls) (loopsOf 0 spec_DepthOf_code) spec_DepthOf_ls := trivial
theorem spec_DepthOf_e : ∀ v, (evFn (mkCtx Go.K.Link.seat spec_DepthOf_c spec_DepthOf_tab) (sums spec_DepthOf_ls) 53 Go.Proofs.Tryz.f53 (encL spec_DepthOf_s.a v)).run = (spec_DepthOf_s.gen v).bind fun y => some (spec_DepthOf_s.out y) := by
  rintro ⟨x, _⟩
  show _ = (spec_DepthOf x).bind fun y : Int × Int => some (spec_DepthOf_s.out y)
  simp only [spec_DepthOf, kb_ite, kb_some, kb_none, kb_bind, kb_alt]
  kernel_rfl
theorem spec_DepthOf_is : FnIs Go.Proofs.Tryz.prog 53 (modeOf []) (phi [spec_DepthOf_s]) := spec_is (c := spec_DepthOf_c) seatOK spec_DepthOf_t Go.Proofs.Tryz.func53 rfl (code := spec_DepthOf_code) rfl rfl spec_DepthOf_rs spec_DepthOf_e
noncomputable def spec_DrawCountSatellites_code : Code := (Go.Proofs.Tryz.f54.body).getD .skip
def spec_DrawCountSatellites_c : Cfg := ⟨54, [], [], [], [], []⟩
noncomputable def spec_DrawCountSatellites_s : Spec := ⟨[.v (.sl 5 (.int .u8)) .fr], Int, fun v => spec_DrawCountSatellites v.1, fun r => ([.v (.int .i64) .fr r], [])⟩
noncomputable def spec_DrawCountSatellites_ls : List LSum := []
noncomputable def spec_DrawCountSatellites_tab : List Row := [⟨129, [.mut], [spec_l01Next_s]⟩, ⟨116, [], [spec_l01From_s]⟩]
theorem spec_DrawCountSatellites_t : ∀ r, r ∈ spec_DrawCountSatellites_tab → RowIs Go.Proofs.Tryz.prog r := tab_cons (spec_l01Next_is) (tab_cons (spec_l01From_is) (tab_nil))
theorem spec_DrawCountSatellites_rs : RoundsOK (mkCtx Go.K.Link.seat spec_DrawCountSatellites_c spec_DrawCountSatellites_tab) (sums spec_DrawCountSatellites_ls) (loopsOf 0 spec_DrawCountSatellites_code) spec_DrawCountSatellites_ls := trivial
theorem spec_DrawCountSatellites_e : ∀ v, (evFn (mkCtx Go.K.Link.seat spec_DrawCountSatellites_c spec_DrawCountSatellites_tab) (sums spec_DrawCountSatellites_ls) 54 Go.Proofs.Tryz.f54 (encL spec_DrawCountSatellites_s.a v)).run = (spec_DrawCountSatellites_s.gen v).bind fun y => some (spec_DrawCountSatellites_s.out y) := by
  rintro ⟨code, _⟩
  show _ = (spec_DrawCountSatellites code).bind fun y : Int => some (spec_DrawCountSatellites_s.out y)
  simp only [spec_DrawCountSatellites, kb_ite, kb_some, kb_none, kb_bind, kb_alt]
  kernel_rfl
theorem spec_DrawCountSatellites_is : FnIs Go.Proofs.Tryz.prog 54 (modeOf []) (phi [spec_DrawCountSatellites_s]) := spec_is (c := spec_DrawCountSatellites_c) seatOK spec_DrawCountSatellites_t Go.Proofs.Tryz.func54 rfl (code := spec_DrawCountSatellites_code) rfl rfl spec_DrawCountSatellites_rs spec_DrawCountSatellites_e
noncomputable def impl_CountSatellites_code : Code := (Go.Proofs.Tryz.f55.body).getD .skip
def impl_CountSatellites_c : Cfg := ⟨55, [], [], [], [], []⟩
noncomputable def slices_DeleteFunc__impl_RayPair_impl_RayPair_v3_code : Code := (Go.Proofs.Tryz.f130.body).getD .skip
def slices_DeleteFunc__impl_RayPair_impl_RayPair_v3_c : Cfg := ⟨130, [.own], [[0, 1, 5, 6, 13], [0, 5, 13], [0, 4, 13, 39, 41]], [], [], []⟩
noncomputable def slices_IndexFunc__impl_RayPair_impl_RayPair_v5_code : Code := (Go.Proofs.Tryz.f133.body).getD .skip
def slices_IndexFunc__impl_RayPair_impl_RayPair_v5_c : Cfg := ⟨133, [], [[0, 1, 7, 8], [], [4]], [], [], []⟩
noncomputable def impl_CountSatellites_f1_code : Code := (Go.Proofs.Tryz.f132.body).getD .skip
def impl_CountSatellites_f1_c : Cfg := ⟨132, [], [], [], [], []⟩
noncomputable def impl_CountSatellites_f1_s : Spec := ⟨[.v (.pair (.pair (.int .i64) (.pair (.int .i64) (.unit))) (.pair (.pair (.int .i64) (.pair (.int .i64) (.unit))) (.unit))) .fr], Bool, fun v => impl_CountSatellites_f1 v.1, fun r => ([.v (.bool) .fr r], [])⟩
noncomputable def impl_CountSatellites_f1_ls : List LSum := []
noncomputable def impl_CountSatellites_f1_tab : List Row := [⟨121, [], [impl_RayPair_isSatellite_s]⟩]
theorem impl_CountSatellites_f1_t : ∀ r, r ∈ impl_CountSatellites_f1_tab → RowIs Go.Proofs.Tryz.prog r := tab_cons (impl_RayPair_isSatellite_is) (tab_nil)
theorem impl_CountSatellites_f1_rs : RoundsOK (mkCtx Go.K.Link.seat impl_CountSatellites_f1_c impl_CountSatellites_f1_tab) (sums impl_CountSatellites_f1_ls) (loopsOf 0 impl_CountSatellites_f1_code) impl_CountSatellites_f1_ls := trivial
theorem impl_CountSatellites_f1_e : ∀ v, (evFn (mkCtx Go.K.Link.seat impl_CountSatellites_f1_c impl_CountSatellites_f1_tab) (sums impl_CountSatellites_f1_ls) 132 Go.Proofs.Tryz.f132 (encL impl_CountSatellites_f1_s.a v)).run = (impl_CountSatellites_f1_s.gen v).bind fun y => some (impl_CountSatellites_f1_s.out y) := by
  rintro ⟨p, _⟩
  show _ = (impl_CountSatellites_f1 p).bind fun y : Bool => some (impl_CountSatellites_f1_s.out y)
  simp only [impl_CountSatellites_f1, kb_ite, kb_some, kb_none, kb_bind, kb_alt]
  kernel_rfl
theorem impl_CountSatellites_f1_is : FnIs Go.Proofs.Tryz.prog 132 (modeOf []) (phi [impl_CountSatellites_f1_s]) := spec_is (c := impl_CountSatellites_f1_c) seatOK impl_CountSatellites_f1_t Go.Proofs.Tryz.func132 rfl (code := impl_CountSatellites_f1_code) rfl rfl impl_CountSatellites_f1_rs impl_CountSatellites_f1_e
noncomputable def slices_IndexFunc__impl_RayPair_impl_RayPair_v5_l0_s : LSum := ⟨0, ⟨[(0, .val (.sl 47 (.pair (.pair (.int .i64) (.pair (.int .i64) (.unit))) (.pair (.pair (.int .i64) (.pair (.int .i64) (.unit))) (.unit)))) .fr), (0, .fnl 132 [] []), (5, .val (.int .i64) .fr), (0, .val (.int .i64) .fr)], 10⟩, (.ret, ⟨[(4, .val (.int .i64) .fr)], 14⟩), [(.exit 0, ⟨[], 19⟩)], slices_IndexFunc__impl_RayPair_impl_RayPair_v5_l0⟩
noncomputable def slices_IndexFunc__impl_RayPair_impl_RayPair_v5_s : Spec := ⟨[.v (.sl 47 (.pair (.pair (.int .i64) (.pair (.int .i64) (.unit))) (.pair (.pair (.int .i64) (.pair (.int .i64) (.unit))) (.unit)))) .fr, .fn 132 [] []], Int, fun v => slices_IndexFunc__impl_RayPair_impl_RayPair_v5 v.1, fun r => ([.v (.int .i64) .fr r], [])⟩
noncomputable def slices_IndexFunc__impl_RayPair_impl_RayPair_v5_ls : List LSum := [slices_IndexFunc__impl_RayPair_impl_RayPair_v5_l0_s]
noncomputable def slices_IndexFunc__impl_RayPair_impl_RayPair_v5_tab : List Row := [⟨132, [], [impl_CountSatellites_f1_s]⟩]
theorem slices_IndexFunc__impl_RayPair_impl_RayPair_v5_t : ∀ r, r ∈ slices_IndexFunc__impl_RayPair_impl_RayPair_v5_tab → RowIs Go.Proofs.Tryz.prog r := tab_cons (impl_CountSatellites_f1_is) (tab_nil)
theorem slices_IndexFunc__impl_RayPair_impl_RayPair_v5_l0_r : RoundIs (mkCtx Go.K.Link.seat slices_IndexFunc__impl_RayPair_impl_RayPair_v5_c slices_IndexFunc__impl_RayPair_impl_RayPair_v5_tab) (sums slices_IndexFunc__impl_RayPair_impl_RayPair_v5_ls) 0 (bodyAt (loopsOf 0 slices_IndexFunc__impl_RayPair_impl_RayPair_v5_code) 0) slices_IndexFunc__impl_RayPair_impl_RayPair_v5_l0_s := by
  rintro ⟨s, ⟨_, _, ⟨t7, ⟨t8, _⟩⟩⟩⟩
  show _ = (slices_IndexFunc__impl_RayPair_impl_RayPair_v5_l0 (s, ((), (), (t7, (t8, ()))))).bind fun r : (Ctl ((List ((Int × (Int × Unit)) × ((Int × (Int × Unit)) × Unit))) × Unit × Unit × Int × Int × Unit) ((Int × Unit) ⊕ (Unit))) => some (ctlVal slices_IndexFunc__impl_RayPair_impl_RayPair_v5_l0_s r)
  simp only [slices_IndexFunc__impl_RayPair_impl_RayPair_v5_l0, kb_ite, kb_some, kb_none, kb_bind, kb_alt]
  kernel_rfl
theorem slices_IndexFunc__impl_RayPair_impl_RayPair_v5_rs : RoundsOK (mkCtx Go.K.Link.seat slices_IndexFunc__impl_RayPair_impl_RayPair_v5_c slices_IndexFunc__impl_RayPair_impl_RayPair_v5_tab) (sums slices_IndexFunc__impl_RayPair_impl_RayPair_v5_ls) (loopsOf 0 slices_IndexFunc__impl_RayPair_impl_RayPair_v5_code) slices_IndexFunc__impl_RayPair_impl_RayPair_v5_ls := ⟨⟨rfl, rfl, slices_IndexFunc__impl_RayPair_impl_RayPair_v5_l0_r⟩, trivial⟩
theorem slices_IndexFunc__impl_RayPair_impl_RayPair_v5_e : ∀ v, (evFn (mkCtx Go.K.Link.seat slices_IndexFunc__impl_RayPair_impl_RayPair_v5_c slices_IndexFunc__impl_RayPair_impl_RayPair_v5_tab) (sums slices_IndexFunc__impl_RayPair_impl_RayPair_v5_ls) 133 Go.Proofs.Tryz.f133 (encL slices_IndexFunc__impl_RayPair_impl_RayPair_v5_s.a v)).run = (slices_IndexFunc__impl_RayPair_impl_RayPair_v5_s.gen v).bind fun y => some (slices_IndexFunc__impl_RayPair_impl_RayPair_v5_s.out y) := by
  rintro ⟨s, ⟨⟨_, _⟩, _⟩⟩
  show _ = (slices_IndexFunc__impl_RayPair_impl_RayPair_v5 s).bind fun y : Int => some (slices_IndexFunc__impl_RayPair_impl_RayPair_v5_s.out y)
  simp only [slices_IndexFunc__impl_RayPair_impl_RayPair_v5, kb_ite, kb_some, kb_none, kb_bind, kb_alt]
  kernel_rfl
theorem slices_IndexFunc__impl_RayPair_impl_RayPair_v5_is : FnIs Go.Proofs.Tryz.prog 133 (modeOf []) (phi [slices_IndexFunc__impl_RayPair_impl_RayPair_v5_s]) := spec_is (c := slices_IndexFunc__impl_RayPair_impl_RayPair_v5_c) seatOK slices_IndexFunc__impl_RayPair_impl_RayPair_v5_t Go.Proofs.Tryz.func133 rfl (code := slices_IndexFunc__impl_RayPair_impl_RayPair_v5_code) rfl rfl slices_IndexFunc__impl_RayPair_impl_RayPair_v5_rs slices_IndexFunc__impl_RayPair_impl_RayPair_v5_e
noncomputable def slices_DeleteFunc__impl_RayPair_impl_RayPair_v3_l0_s : LSum := ⟨0, ⟨[(0, .val (.sl 47 (.pair (.pair (.int .i64) (.pair (.int .i64) (.unit))) (.pair (.pair (.int .i64) (.pair (.int .i64) (.unit))) (.unit)))) (.own .fr)), (0, .fnl 132 [] []), (3, .val (.int .i64) .fr), (0, .val (.int .i64) .fr)], 35⟩, (.exit 0, ⟨[(0, .val (.sl 47 (.pair (.pair (.int .i64) (.pair (.int .i64) (.unit))) (.pair (.pair (.int .i64) (.pair (.int .i64) (.unit))) (.unit)))) (.own .fr)), (4, .val (.int .i64) .fr)], 36⟩), [], slices_DeleteFunc__impl_RayPair_impl_RayPair_v3_l0⟩
noncomputable def slices_DeleteFunc__impl_RayPair_impl_RayPair_v3_s : Spec := ⟨[.v (.sl 47 (.pair (.pair (.int .i64) (.pair (.int .i64) (.unit))) (.pair (.pair (.int .i64) (.pair (.int .i64) (.unit))) (.unit)))) (.own .fr), .fn 132 [] []], (List ((Int × (Int × Unit)) × ((Int × (Int × Unit)) × Unit))), fun v => slices_DeleteFunc__impl_RayPair_impl_RayPair_v3 v.1, fun r => ([.v (.sl 47 (.pair (.pair (.int .i64) (.pair (.int .i64) (.unit))) (.pair (.pair (.int .i64) (.pair (.int .i64) (.unit))) (.unit)))) (.own .fr) r], [])⟩
noncomputable def slices_DeleteFunc__impl_RayPair_impl_RayPair_v3_ls : List LSum := [slices_DeleteFunc__impl_RayPair_impl_RayPair_v3_l0_s]
noncomputable def slices_DeleteFunc__impl_RayPair_impl_RayPair_v3_tab : List Row := [⟨132, [], [impl_CountSatellites_f1_s]⟩, ⟨133, [], [slices_IndexFunc__impl_RayPair_impl_RayPair_v5_s]⟩]
theorem slices_DeleteFunc__impl_RayPair_impl_RayPair_v3_t : ∀ r, r ∈ slices_DeleteFunc__impl_RayPair_impl_RayPair_v3_tab → RowIs Go.Proofs.Tryz.prog r := tab_cons (impl_CountSatellites_f1_is) (tab_cons (slices_IndexFunc__impl_RayPair_impl_RayPair_v5_is) (tab_nil))
theorem slices_DeleteFunc__impl_RayPair_impl_RayPair_v3_l0_r : RoundIs (mkCtx Go.K.Link.seat slices_DeleteFunc__impl_RayPair_impl_RayPair_v3_c slices_DeleteFunc__impl_RayPair_impl_RayPair_v3_tab) (sums slices_DeleteFunc__impl_RayPair_impl_RayPair_v3_ls) 0 (bodyAt (loopsOf 0 slices_DeleteFunc__impl_RayPair_impl_RayPair_v3_code) 0) slices_DeleteFunc__impl_RayPair_impl_RayPair_v3_l0_s := by
  rintro ⟨s, ⟨_, _, ⟨i, ⟨j, _⟩⟩⟩⟩
  show _ = (slices_DeleteFunc__impl_RayPair_impl_RayPair_v3_l0 (s, ((), (), (i, (j, ()))))).bind fun r : (Ctl ((List ((Int × (Int × Unit)) × ((Int × (Int × Unit)) × Unit))) × Unit × Unit × Int × Int × Unit) (((List ((Int × (Int × Unit)) × ((Int × (Int × Unit)) × Unit))) × Int × Unit))) => some (ctlVal slices_DeleteFunc__impl_RayPair_impl_RayPair_v3_l0_s r)
  simp only [slices_DeleteFunc__impl_RayPair_impl_RayPair_v3_l0, kb_ite, kb_some, kb_none, kb_bind, kb_alt]
  kernel_rfl
theorem slices_DeleteFunc__impl_RayPair_impl_RayPair_v3_rs : RoundsOK (mkCtx Go.K.Link.seat slices_DeleteFunc__impl_RayPair_impl_RayPair_v3_c slices_DeleteFunc__impl_RayPair_impl_RayPair_v3_tab) (sums slices_DeleteFunc__impl_RayPair_impl_RayPair_v3_ls) (loopsOf 0 slices_DeleteFunc__impl_RayPair_impl_RayPair_v3_code) slices_DeleteFunc__impl_RayPair_impl_RayPair_v3_ls := ⟨⟨rfl, rfl, slices_DeleteFunc__impl_RayPair_impl_RayPair_v3_l0_r⟩, trivial⟩
theorem slices_DeleteFunc__impl_RayPair_impl_RayPair_v3_e : ∀ v, (evFn (mkCtx Go.K.Link.seat slices_DeleteFunc__impl_RayPair_impl_RayPair_v3_c slices_DeleteFunc__impl_RayPair_impl_RayPair_v3_tab) (sums slices_DeleteFunc__impl_RayPair_impl_RayPair_v3_ls) 130 Go.Proofs.Tryz.f130 (encL slices_DeleteFunc__impl_RayPair_impl_RayPair_v3_s.a v)).run = (slices_DeleteFunc__impl_RayPair_impl_RayPair_v3_s.gen v).bind fun y => some (slices_DeleteFunc__impl_RayPair_impl_RayPair_v3_s.out y) := by
  rintro ⟨s, ⟨⟨_, _⟩, _⟩⟩
  show _ = (slices_DeleteFunc__impl_RayPair_impl_RayPair_v3 s).bind fun y : (List ((Int × (Int × Unit)) × ((Int × (Int × Unit)) × Unit))) => some (slices_DeleteFunc__impl_RayPair_impl_RayPair_v3_s.out y)
  simp only [slices_DeleteFunc__impl_RayPair_impl_RayPair_v3, kb_ite, kb_some, kb_none, kb_bind, kb_alt]
  kernel_rfl
theorem slices_DeleteFunc__impl_RayPair_impl_RayPair_v3_is : FnIs Go.Proofs.Tryz.prog 130 (modeOf [.own]) (phi [slices_DeleteFunc__impl_RayPair_impl_RayPair_v3_s]) := spec_is (c := slices_DeleteFunc__impl_RayPair_impl_RayPair_v3_c) seatOK slices_DeleteFunc__impl_RayPair_impl_RayPair_v3_t Go.Proofs.Tryz.func130 rfl (code := slices_DeleteFunc__impl_RayPair_impl_RayPair_v3_code) rfl rfl slices_DeleteFunc__impl_RayPair_impl_RayPair_v3_rs slices_DeleteFunc__impl_RayPair_impl_RayPair_v3_e
noncomputable def impl_CountSatellites_s : Spec := ⟨[.v (.int .i64) .fr], Int × Int, fun v => impl_CountSatellites v.1, fun r => ([.v (.int .i64) .fr r.1, .v (.int .i64) .fr r.2], [])⟩
noncomputable def impl_CountSatellites_ls : List LSum := []
noncomputable def impl_CountSatellites_tab : List Row := [⟨128, [], [impl_length_impl_RayPair_s]⟩, ⟨130, [.own], [slices_DeleteFunc__impl_RayPair_impl_RayPair_v3_s]⟩, ⟨131, [], [impl_pairsOf_s]⟩, ⟨94, [], [impl_isPeriod_s]⟩]
theorem impl_CountSatellites_t : ∀ r, r ∈ impl_CountSatellites_tab → RowIs Go.Proofs.Tryz.prog r := tab_cons (impl_length_impl_RayPair_is) (tab_cons (slices_DeleteFunc__impl_RayPair_impl_RayPair_v3_is) (tab_cons (impl_pairsOf_is) (tab_cons (impl_isPeriod_is) (tab_nil))))
theorem impl_CountSatellites_rs : RoundsOK (mkCtx Go.K.Link.seat impl_CountSatellites_c impl_CountSatellites_tab) (sums impl_CountSatellites_ls) (loopsOf 0 impl_CountSatellites_code) impl_CountSatellites_ls := trivial
theorem impl_CountSatellites_e : ∀ v, (evFn (mkCtx Go.K.Link.seat impl_CountSatellites_c impl_CountSatellites_tab) (sums impl_CountSatellites_ls) 55 Go.Proofs.Tryz.f55 (encL impl_CountSatellites_s.a v)).run = (impl_CountSatellites_s.gen v).bind fun y => some (impl_CountSatellites_s.out y) := by
  rintro ⟨n, _⟩
  show _ = (impl_CountSatellites n).bind fun y : Int × Int => some (impl_CountSatellites_s.out y)
  simp only [impl_CountSatellites, kb_ite, kb_some, kb_none, kb_bind, kb_alt]
  kernel_rfl
theorem impl_CountSatellites_is : FnIs Go.Proofs.Tryz.prog 55 (modeOf []) (phi [impl_CountSatellites_s]) := spec_is (c := impl_CountSatellites_c) seatOK impl_CountSatellites_t Go.Proofs.Tryz.func55 rfl (code := impl_CountSatellites_code) rfl rfl impl_CountSatellites_rs impl_CountSatellites_e
noncomputable def spec_CountSatellites_code : Code := (Go.Proofs.Tryz.f56.body).getD .skip
def spec_CountSatellites_c : Cfg := ⟨56, [], [[4, 6, 7, 11], [6], [2, 3]], [], [], []⟩
noncomputable def spec_PairsOfPeriod_v2_code : Code := (Go.Proofs.Tryz.f67.body).getD .skip
def spec_PairsOfPeriod_v2_c : Cfg := ⟨67, [], [], [], [0], []⟩
noncomputable def spec_PairsOfPeriod_v2_s : Spec := ⟨[.v (.int .i64) .fr], (List ((Int × (Int × Unit)) × ((Int × (Int × Unit)) × Unit))) × Int, fun v => spec_PairsOfPeriod_v2 v.1, fun r => ([.v (.sl 47 (.pair (.pair (.int .i64) (.pair (.int .i64) (.unit))) (.pair (.pair (.int .i64) (.pair (.int .i64) (.unit))) (.unit)))) .fr r.1, .v (.int .i64) .fr r.2], [])⟩
noncomputable def spec_PairsOfPeriod_v2_ls : List LSum := []
noncomputable def spec_PairsOfPeriod_v2_tab : List Row := [⟨105, [], [spec_l01In_s]⟩, ⟨126, [], [spec_l04Pairs_s]⟩]
theorem spec_PairsOfPeriod_v2_t : ∀ r, r ∈ spec_PairsOfPeriod_v2_tab → RowIs Go.Proofs.Tryz.prog r := tab_cons (spec_l01In_is) (tab_cons (spec_l04Pairs_is) (tab_nil))
theorem spec_PairsOfPeriod_v2_rs : RoundsOK (mkCtx Go.K.Link.seat spec_PairsOfPeriod_v2_c spec_PairsOfPeriod_v2_tab) (sums spec_PairsOfPeriod_v2_ls) (loopsOf 0 spec_PairsOfPeriod_v2_code) spec_PairsOfPeriod_v2_ls := trivial
theorem spec_PairsOfPeriod_v2_e : ∀ v, (evFn (mkCtx Go.K.Link.seat spec_PairsOfPeriod_v2_c spec_PairsOfPeriod_v2_tab) (sums spec_PairsOfPeriod_v2_ls) 67 Go.Proofs.Tryz.f67 (encL spec_PairsOfPeriod_v2_s.a v)).run = (spec_PairsOfPeriod_v2_s.gen v).bind fun y => some (spec_PairsOfPeriod_v2_s.out y) := by
  rintro ⟨n, _⟩
  show _ = (spec_PairsOfPeriod_v2 n).bind fun y : (List ((Int × (Int × Unit)) × ((Int × (Int × Unit)) × Unit))) × Int => some (spec_PairsOfPeriod_v2_s.out y)
  simp only [spec_PairsOfPeriod_v2, kb_ite, kb_some, kb_none, kb_bind, kb_alt]
  kernel_rfl
theorem spec_PairsOfPeriod_v2_is : FnIs Go.Proofs.Tryz.prog 67 (modeOf []) (phi [spec_PairsOfPeriod_v2_s]) := spec_is (c := spec_PairsOfPeriod_v2_c) seatOK spec_PairsOfPeriod_v2_t Go.Proofs.Tryz.func67 rfl (code := spec_PairsOfPeriod_v2_code) rfl rfl spec_PairsOfPeriod_v2_rs spec_PairsOfPeriod_v2_e
noncomputable def spec_CountSatellites_l0_s : LSum := ⟨0, ⟨[(4, .val (.sl 47 (.pair (.pair (.int .i64) (.pair (.int .i64) (.unit))) (.pair (.pair (.int .i64) (.pair (.int .i64) (.unit))) (.unit)))) .fr), (1, .val (.int .i64) .fr), (0, .val (.int .i64) .fr), (3, .val (.sl 47 (.pair (.pair (.int .i64) (.pair (.int .i64) (.unit))) (.pair (.pair (.int .i64) (.pair (.int .i64) (.unit))) (.unit)))) .fr)], 18⟩, (.exit 0, ⟨[(6, .val (.int .i64) .fr)], 23⟩), [], spec_CountSatellites_l0⟩
noncomputable def spec_CountSatellites_s : Spec := ⟨[.v (.int .i64) .fr], Int × Int, fun v => spec_CountSatellites v.1, fun r => ([.v (.int .i64) .fr r.1, .v (.int .i64) .fr r.2], [])⟩
noncomputable def spec_CountSatellites_ls : List LSum := [spec_CountSatellites_l0_s]
noncomputable def spec_CountSatellites_tab : List Row := [⟨67, [], [spec_PairsOfPeriod_v2_s]⟩, ⟨122, [], [spec_l04Satellite_s]⟩]
theorem spec_CountSatellites_t : ∀ r, r ∈ spec_CountSatellites_tab → RowIs Go.Proofs.Tryz.prog r := tab_cons (spec_PairsOfPeriod_v2_is) (tab_cons (spec_l04Satellite_is) (tab_nil))
theorem spec_CountSatellites_l0_r : RoundIs (mkCtx Go.K.Link.seat spec_CountSatellites_c spec_CountSatellites_tab) (sums spec_CountSatellites_ls) 0 (bodyAt (loopsOf 0 spec_CountSatellites_code) 0) spec_CountSatellites_l0_s := by
  rintro ⟨list, ⟨count, ⟨i, ⟨t11, _⟩⟩⟩⟩
  show _ = (spec_CountSatellites_l0 (list, (count, (i, (t11, ()))))).bind fun r : (Ctl ((List ((Int × (Int × Unit)) × ((Int × (Int × Unit)) × Unit))) × Int × Int × (List ((Int × (Int × Unit)) × ((Int × (Int × Unit)) × Unit))) × Unit) ((Int × Unit))) => some (ctlVal spec_CountSatellites_l0_s r)
  simp only [spec_CountSatellites_l0, kb_ite, kb_some, kb_none, kb_bind, kb_alt]
  kernel_rfl
theorem spec_CountSatellites_rs : RoundsOK (mkCtx Go.K.Link.seat spec_CountSatellites_c spec_CountSatellites_tab) (sums spec_CountSatellites_ls) (loopsOf 0 spec_CountSatellites_code) spec_CountSatellites_ls := ⟨⟨rfl, rfl, spec_CountSatellites_l0_r⟩, trivial⟩
theorem spec_CountSatellites_e : ∀ v, (evFn (mkCtx Go.K.Link.seat spec_CountSatellites_c spec_CountSatellites_tab) (sums spec_CountSatellites_ls) 56 Go.Proofs.Tryz.f56 (encL spec_CountSatellites_s.a v)).run = (spec_CountSatellites_s.gen v).bind fun y => some (spec_CountSatellites_s.out y) := by
  rintro ⟨n, _⟩
  show _ = (spec_CountSatellites n).bind fun y : Int × Int => some (spec_CountSatellites_s.out y)
  simp only [spec_CountSatellites, kb_ite, kb_some, kb_none, kb_bind, kb_alt]
  kernel_rfl
theorem spec_CountSatellites_is : FnIs Go.Proofs.Tryz.prog 56 (modeOf []) (phi [spec_CountSatellites_s]) := spec_is (c := spec_CountSatellites_c) seatOK spec_CountSatellites_t Go.Proofs.Tryz.func56 rfl (code := spec_CountSatellites_code) rfl rfl spec_CountSatellites_rs spec_CountSatellites_e
noncomputable def laws_less9_code : Code := (Go.Proofs.Tryz.f57.body).getD .skip
def laws_less9_c : Cfg := ⟨57, [], [], [], [], []⟩
noncomputable def laws_less9_s : Spec := ⟨[.v (.pair (.int .i64) (.pair (.int .i64) (.unit))) .fr, .v (.pair (.int .i64) (.pair (.int .i64) (.unit))) .fr], Bool, fun v => laws_less9 v.1 v.2.1, fun r => ([.v (.bool) .fr r], [])⟩
noncomputable def laws_less9_ls : List LSum := []
noncomputable def laws_less9_tab : List Row := []
theorem laws_less9_t : ∀ r, r ∈ laws_less9_tab → RowIs Go.Proofs.Tryz.prog r := tab_nil
theorem laws_less9_rs : RoundsOK (mkCtx Go.K.Link.seat laws_less9_c laws_less9_tab) (sums laws_less9_ls) (loopsOf 0 laws_less9_code) laws_less9_ls := trivial
theorem laws_less9_e : ∀ v, (evFn (mkCtx Go.K.Link.seat laws_less9_c laws_less9_tab) (sums laws_less9_ls) 57 Go.Proofs.Tryz.f57 (encL laws_less9_s.a v)).run = (laws_less9_s.gen v).bind fun y => some (laws_less9_s.out y) := by
  rintro ⟨a, ⟨b, _⟩⟩
  show _ = (laws_less9 a b).bind fun y : Bool => some (laws_less9_s.out y)
  simp only [laws_less9, kb_ite, kb_some, kb_none, kb_bind, kb_alt]
  kernel_rfl
theorem laws_less9_is : FnIs Go.Proofs.Tryz.prog 57 (modeOf []) (phi [laws_less9_s]) := spec_is (c := laws_less9_c) seatOK laws_less9_t Go.Proofs.Tryz.func57 rfl (code := laws_less9_code) rfl rfl laws_less9_rs laws_less9_e
noncomputable def laws_FnWakes_l0_s : LSum := ⟨0, ⟨[(3, .val (.ptr (.pair (.int .i64) (.pair (.int .i64) (.unit)))) (.own .fr)), (0, .val (.ptr (.pair (.int .i64) (.pair (.int .i64) (.unit)))) (.own .fr)), (0, .val (.int .i64) .fr), (2, .val (.bool) .fr), (3, .val (.ptr (.pair (.int .i64) (.pair (.int .i64) (.unit)))) (.own .fr)), (1, .val (.sl 47 (.pair (.pair (.int .i64) (.pair (.int .i64) (.unit))) (.pair (.pair (.int .i64) (.pair (.int .i64) (.unit))) (.unit)))) (.own .fr)), (3, .val (.ptr (.pair (.pair (.int .i64) (.pair (.int .i64) (.unit))) (.pair (.pair (.int .i64) (.pair (.int .i64) (.unit))) (.unit)))) (.own .fr)), (0, .val (.int .i64) .fr), (2, .val (.int .i64) .fr), (8, .val (.int .i64) .fr)], 264⟩, (.ret, ⟨[(2, .val (.bool) .fr)], 293⟩), [(.exit 0, ⟨[(3, .val (.ptr (.pair (.int .i64) (.pair (.int .i64) (.unit)))) (.own .fr)), (0, .val (.ptr (.pair (.int .i64) (.pair (.int .i64) (.unit)))) (.own .fr)), (0, .val (.int .i64) .fr), (2, .val (.bool) .fr), (9, .val (.ptr (.pair (.pair (.int .i64) (.pair (.int .i64) (.unit))) (.pair (.pair (.int .i64) (.pair (.int .i64) (.unit))) (.unit)))) (.own .fr)), (0, .val (.int .i64) .fr), (2, .val (.int .i64) .fr)], 273⟩)], laws_FnWakes_l0⟩
noncomputable def impl_AddAngles_code : Code := (Go.Proofs.Tryz.f59.body).getD .skip
def impl_AddAngles_c : Cfg := ⟨59, [], [], [], [], []⟩
noncomputable def impl_Angle_plus_code : Code := (Go.Proofs.Tryz.f135.body).getD .skip
def impl_Angle_plus_c : Cfg := ⟨135, [], [], [], [], []⟩
noncomputable def impl_Angle_plus_s : Spec := ⟨[.v (.pair (.int .i64) (.pair (.int .i64) (.unit))) .fr, .v (.pair (.int .i64) (.pair (.int .i64) (.unit))) .fr], (Int × (Int × Unit)), fun v => impl_Angle_plus v.1 v.2.1, fun r => ([.v (.pair (.int .i64) (.pair (.int .i64) (.unit))) .fr r], [])⟩
noncomputable def impl_Angle_plus_ls : List LSum := []
noncomputable def impl_Angle_plus_tab : List Row := [⟨164, [], [impl_angle_s]⟩]
theorem impl_Angle_plus_t : ∀ r, r ∈ impl_Angle_plus_tab → RowIs Go.Proofs.Tryz.prog r := tab_cons (impl_angle_is) (tab_nil)
theorem impl_Angle_plus_rs : RoundsOK (mkCtx Go.K.Link.seat impl_Angle_plus_c impl_Angle_plus_tab) (sums impl_Angle_plus_ls) (loopsOf 0 impl_Angle_plus_code) impl_Angle_plus_ls := trivial
theorem impl_Angle_plus_e : ∀ v, (evFn (mkCtx Go.K.Link.seat impl_Angle_plus_c impl_Angle_plus_tab) (sums impl_Angle_plus_ls) 135 Go.Proofs.Tryz.f135 (encL impl_Angle_plus_s.a v)).run = (impl_Angle_plus_s.gen v).bind fun y => some (impl_Angle_plus_s.out y) := by
  rintro ⟨a, ⟨b, _⟩⟩
  show _ = (impl_Angle_plus a b).bind fun y : (Int × (Int × Unit)) => some (impl_Angle_plus_s.out y)
  simp only [impl_Angle_plus, kb_ite, kb_some, kb_none, kb_bind, kb_alt]
  kernel_rfl
theorem impl_Angle_plus_is : FnIs Go.Proofs.Tryz.prog 135 (modeOf []) (phi [impl_Angle_plus_s]) := spec_is (c := impl_Angle_plus_c) seatOK impl_Angle_plus_t Go.Proofs.Tryz.func135 rfl (code := impl_Angle_plus_code) rfl rfl impl_Angle_plus_rs impl_Angle_plus_e
noncomputable def impl_AddAngles_s : Spec := ⟨[.v (.pair (.int .i64) (.pair (.int .i64) (.unit))) .fr, .v (.pair (.int .i64) (.pair (.int .i64) (.unit))) .fr], (Int × (Int × Unit)) × Int, fun v => impl_AddAngles v.1 v.2.1, fun r => ([.v (.pair (.int .i64) (.pair (.int .i64) (.unit))) .fr r.1, .v (.int .i64) .fr r.2], [])⟩
noncomputable def impl_AddAngles_ls : List LSum := []
noncomputable def impl_AddAngles_tab : List Row := [⟨135, [], [impl_Angle_plus_s]⟩, ⟨92, [], [impl_anglesCode_s]⟩, ⟨117, [], [impl_limited_s]⟩]
theorem impl_AddAngles_t : ∀ r, r ∈ impl_AddAngles_tab → RowIs Go.Proofs.Tryz.prog r := tab_cons (impl_Angle_plus_is) (tab_cons (impl_anglesCode_is) (tab_cons (impl_limited_is) (tab_nil)))
theorem impl_AddAngles_rs : RoundsOK (mkCtx Go.K.Link.seat impl_AddAngles_c impl_AddAngles_tab) (sums impl_AddAngles_ls) (loopsOf 0 impl_AddAngles_code) impl_AddAngles_ls := trivial
theorem impl_AddAngles_e : ∀ v, (evFn (mkCtx Go.K.Link.seat impl_AddAngles_c impl_AddAngles_tab) (sums impl_AddAngles_ls) 59 Go.Proofs.Tryz.f59 (encL impl_AddAngles_s.a v)).run = (impl_AddAngles_s.gen v).bind fun y => some (impl_AddAngles_s.out y) := by
  rintro ⟨a, ⟨b, _⟩⟩
  show _ = (impl_AddAngles a b).bind fun y : (Int × (Int × Unit)) × Int => some (impl_AddAngles_s.out y)
  simp only [impl_AddAngles, kb_ite, kb_some, kb_none, kb_bind, kb_alt]
  kernel_rfl
theorem impl_AddAngles_is : FnIs Go.Proofs.Tryz.prog 59 (modeOf []) (phi [impl_AddAngles_s]) := spec_is (c := impl_AddAngles_c) seatOK impl_AddAngles_t Go.Proofs.Tryz.func59 rfl (code := impl_AddAngles_code) rfl rfl impl_AddAngles_rs impl_AddAngles_e
noncomputable def impl_OrbitOf_code : Code := (Go.Proofs.Tryz.f60.body).getD .skip
def impl_OrbitOf_c : Cfg := ⟨60, [], [], [], [], []⟩
noncomputable def impl_orbitOf_code : Code := (Go.Proofs.Tryz.f136.body).getD .skip
def impl_orbitOf_c : Cfg := ⟨136, [], [], [], [], []⟩
noncomputable def impl_orbitOf_s : Spec := ⟨[.v (.pair (.int .i64) (.pair (.int .i64) (.unit))) .fr], (List (Int × (Int × Unit))) × Int × Int, fun v => impl_orbitOf v.1, fun r => ([.v (.sl 27 (.pair (.int .i64) (.pair (.int .i64) (.unit)))) (.own .fr) r.1, .v (.int .i64) .fr r.2.1, .v (.int .i64) .fr r.2.2], [])⟩
noncomputable def impl_orbitOf_ls : List LSum := []
noncomputable def impl_orbitOf_tab : List Row := [⟨167, [], [impl_Angle_orbit_s]⟩, ⟨106, [], [impl_IsAngle_s]⟩]
theorem impl_orbitOf_t : ∀ r, r ∈ impl_orbitOf_tab → RowIs Go.Proofs.Tryz.prog r := tab_cons (impl_Angle_orbit_is) (tab_cons (impl_IsAngle_is) (tab_nil))
theorem impl_orbitOf_rs : RoundsOK (mkCtx Go.K.Link.seat impl_orbitOf_c impl_orbitOf_tab) (sums impl_orbitOf_ls) (loopsOf 0 impl_orbitOf_code) impl_orbitOf_ls := trivial
theorem impl_orbitOf_e : ∀ v, (evFn (mkCtx Go.K.Link.seat impl_orbitOf_c impl_orbitOf_tab) (sums impl_orbitOf_ls) 136 Go.Proofs.Tryz.f136 (encL impl_orbitOf_s.a v)).run = (impl_orbitOf_s.gen v).bind fun y => some (impl_orbitOf_s.out y) := by
  rintro ⟨a, _⟩
  show _ = (impl_orbitOf a).bind fun y : (List (Int × (Int × Unit))) × Int × Int => some (impl_orbitOf_s.out y)
  simp only [impl_orbitOf, kb_ite, kb_some, kb_none, kb_bind, kb_alt]
  kernel_rfl
theorem impl_orbitOf_is : FnIs Go.Proofs.Tryz.prog 136 (modeOf []) (phi [impl_orbitOf_s]) := spec_is (c := impl_orbitOf_c) seatOK impl_orbitOf_t Go.Proofs.Tryz.func136 rfl (code := impl_orbitOf_code) rfl rfl impl_orbitOf_rs impl_orbitOf_e
noncomputable def impl_OrbitOf_s : Spec := ⟨[.v (.pair (.int .i64) (.pair (.int .i64) (.unit))) .fr], (List (Int × (Int × Unit))) × Int, fun v => impl_OrbitOf v.1, fun r => ([.v (.sl 27 (.pair (.int .i64) (.pair (.int .i64) (.unit)))) (.own .fr) r.1, .v (.int .i64) .fr r.2], [])⟩
noncomputable def impl_OrbitOf_ls : List LSum := []
noncomputable def impl_OrbitOf_tab : List Row := [⟨136, [], [impl_orbitOf_s]⟩]
theorem impl_OrbitOf_t : ∀ r, r ∈ impl_OrbitOf_tab → RowIs Go.Proofs.Tryz.prog r := tab_cons (impl_orbitOf_is) (tab_nil)
theorem impl_OrbitOf_rs : RoundsOK (mkCtx Go.K.Link.seat impl_OrbitOf_c impl_OrbitOf_tab) (sums impl_OrbitOf_ls) (loopsOf 0 impl_OrbitOf_code) impl_OrbitOf_ls := trivial
theorem impl_OrbitOf_e : ∀ v, (evFn (mkCtx Go.K.Link.seat impl_OrbitOf_c impl_OrbitOf_tab) (sums impl_OrbitOf_ls) 60 Go.Proofs.Tryz.f60 (encL impl_OrbitOf_s.a v)).run = (impl_OrbitOf_s.gen v).bind fun y => some (impl_OrbitOf_s.out y) := by
  rintro ⟨a, _⟩
  show _ = (impl_OrbitOf a).bind fun y : (List (Int × (Int × Unit))) × Int => some (impl_OrbitOf_s.out y)
  simp only [impl_OrbitOf, kb_ite, kb_some, kb_none, kb_bind, kb_alt]
  kernel_rfl
theorem impl_OrbitOf_is : FnIs Go.Proofs.Tryz.prog 60 (modeOf []) (phi [impl_OrbitOf_s]) := spec_is (c := impl_OrbitOf_c) seatOK impl_OrbitOf_t Go.Proofs.Tryz.func60 rfl (code := impl_OrbitOf_code) rfl rfl impl_OrbitOf_rs impl_OrbitOf_e
noncomputable def laws_FnWakes_l1_s : LSum := ⟨2, ⟨[(8, .val (.bool) .fr), (9, .val (.ptr (.pair (.pair (.int .i64) (.pair (.int .i64) (.unit))) (.pair (.pair (.int .i64) (.pair (.int .i64) (.unit))) (.unit)))) (.own .fr)), (0, .val (.int .i64) .fr), (2, .val (.int .i64) .fr), (9, .val (.ptr (.pair (.pair (.int .i64) (.pair (.int .i64) (.unit))) (.pair (.pair (.int .i64) (.pair (.int .i64) (.unit))) (.unit)))) (.own .fr)), (0, .val (.int .i64) .fr), (0, .val (.ptr (.pair (.int .i64) (.pair (.int .i64) (.unit)))) (.own .fr)), (0, .val (.int .i64) .fr), (0, .val (.sl 27 (.pair (.int .i64) (.pair (.int .i64) (.unit)))) (.own .fr)), (0, .val (.int .i64) .fr), (0, .val (.bool) .fr), (0, .val (.int .i64) .fr)], 256⟩, (.exit 2, ⟨[(8, .val (.bool) .fr), (9, .val (.ptr (.pair (.pair (.int .i64) (.pair (.int .i64) (.unit))) (.pair (.pair (.int .i64) (.pair (.int .i64) (.unit))) (.unit)))) (.own .fr)), (0, .val (.int .i64) .fr), (2, .val (.int .i64) .fr), (9, .val (.ptr (.pair (.pair (.int .i64) (.pair (.int .i64) (.unit))) (.pair (.pair (.int .i64) (.pair (.int .i64) (.unit))) (.unit)))) (.own .fr)), (0, .val (.int .i64) .fr), (0, .val (.ptr (.pair (.int .i64) (.pair (.int .i64) (.unit)))) (.own .fr)), (0, .val (.int .i64) .fr), (1, .val (.int .i64) .fr), (0, .val (.bool) .fr)], 257⟩), [], laws_FnWakes_l1⟩
noncomputable def laws_FnWakes_s : Spec := ⟨[.v (.sl 5 (.int .u8)) .fr], Bool, fun v => laws_FnWakes v.1, fun r => ([.v (.bool) .fr r], [])⟩
noncomputable def laws_FnWakes_ls : List LSum := [laws_FnWakes_l0_s, laws_FnWakes_l1_s]
noncomputable def laws_FnWakes_tab : List Row := [⟨40, [], [laws_big_s]⟩, ⟨41, [], [spec_DrawWidthOf_s]⟩, ⟨42, [], [impl_WidthOf_s]⟩, ⟨43, [], [spec_WidthOf_s]⟩, ⟨44, [], [impl_IsSatellite_s]⟩, ⟨45, [], [spec_IsSatellite_s]⟩, ⟨46, [], [spec_DrawWakesAround_s]⟩, ⟨47, [], [impl_WakesAround_s]⟩, ⟨48, [], [spec_WakesAround_s]⟩, ⟨49, [], [laws_pairs9_s]⟩, ⟨50, [], [impl_ParentOf_s]⟩, ⟨51, [], [spec_ParentOf_s]⟩, ⟨52, [], [impl_DepthOf_s]⟩, ⟨53, [], [spec_DepthOf_s]⟩, ⟨54, [], [spec_DrawCountSatellites_s]⟩, ⟨55, [], [impl_CountSatellites_s]⟩, ⟨56, [], [spec_CountSatellites_s]⟩, ⟨57, [], [laws_less9_s]⟩, ⟨58, [], [impl_PairOf_s]⟩, ⟨59, [], [impl_AddAngles_s]⟩, ⟨60, [], [impl_OrbitOf_s]⟩]
theorem laws_FnWakes_t : ∀ r, r ∈ laws_FnWakes_tab → RowIs Go.Proofs.Tryz.prog r := tab_cons (laws_big_is) (tab_cons (spec_DrawWidthOf_is) (tab_cons (impl_WidthOf_is) (tab_cons (spec_WidthOf_is) (tab_cons (impl_IsSatellite_is) (tab_cons (spec_IsSatellite_is) (tab_cons (spec_DrawWakesAround_is) (tab_cons (impl_WakesAround_is) (tab_cons (spec_WakesAround_is) (tab_cons (laws_pairs9_is) (tab_cons (impl_ParentOf_is) (tab_cons (spec_ParentOf_is) (tab_cons (impl_DepthOf_is) (tab_cons (spec_DepthOf_is) (tab_cons (spec_DrawCountSatellites_is) (tab_cons (impl_CountSatellites_is) (tab_cons (spec_CountSatellites_is) (tab_cons (laws_less9_is) (tab_cons (impl_PairOf_is) (tab_cons (impl_AddAngles_is) (tab_cons (impl_OrbitOf_is) (tab_nil)))))))))))))))))))))
theorem laws_FnWakes_l0_r : RoundIs (mkCtx Go.K.Link.seat laws_FnWakes_c laws_FnWakes_tab) (sums laws_FnWakes_ls) 0 (bodyAt (loopsOf 0 laws_FnWakes_code) 0) laws_FnWakes_l0_s := by
  rintro ⟨x, ⟨width, ⟨one, ⟨satellite, ⟨y, ⟨wakes, ⟨parent, ⟨four, ⟨depth, ⟨i, _⟩⟩⟩⟩⟩⟩⟩⟩⟩⟩
  show _ = (laws_FnWakes_l0 (x, (width, (one, (satellite, (y, (wakes, (parent, (four, (depth, (i, ()))))))))))).bind fun r : (Ctl (((Int × (Int × Unit))) × ((Int × (Int × Unit))) × Int × Bool × ((Int × (Int × Unit))) × (List ((Int × (Int × Unit)) × ((Int × (Int × Unit)) × Unit))) × (((Int × (Int × Unit)) × ((Int × (Int × Unit)) × Unit))) × Int × Int × Int × Unit) ((Bool × Unit) ⊕ (((Int × (Int × Unit))) × ((Int × (Int × Unit))) × Int × Bool × (((Int × (Int × Unit)) × ((Int × (Int × Unit)) × Unit))) × Int × Int × Unit))) => some (ctlVal laws_FnWakes_l0_s r)
  simp only [laws_FnWakes_l0, kb_ite, kb_some, kb_none, kb_bind, kb_alt]
  kernel_rfl
theorem laws_FnWakes_l1_r : RoundIs (mkCtx Go.K.Link.seat laws_FnWakes_c laws_FnWakes_tab) (sums laws_FnWakes_ls) 2 (bodyAt (loopsOf 0 laws_FnWakes_code) 1) laws_FnWakes_l1_s := by
  rintro ⟨satellite, ⟨parent, ⟨four, ⟨depth, ⟨pair, ⟨seven, ⟨due, ⟨eight, ⟨orbit, ⟨nine, ⟨met, ⟨i, _⟩⟩⟩⟩⟩⟩⟩⟩⟩⟩⟩⟩
  show _ = (laws_FnWakes_l1 (satellite, (parent, (four, (depth, (pair, (seven, (due, (eight, (orbit, (nine, (met, (i, ()))))))))))))).bind fun r : (Ctl (Bool × (((Int × (Int × Unit)) × ((Int × (Int × Unit)) × Unit))) × Int × Int × (((Int × (Int × Unit)) × ((Int × (Int × Unit)) × Unit))) × Int × ((Int × (Int × Unit))) × Int × (List (Int × (Int × Unit))) × Int × Bool × Int × Unit) ((Bool × (((Int × (Int × Unit)) × ((Int × (Int × Unit)) × Unit))) × Int × Int × (((Int × (Int × Unit)) × ((Int × (Int × Unit)) × Unit))) × Int × ((Int × (Int × Unit))) × Int × Int × Bool × Unit))) => some (ctlVal laws_FnWakes_l1_s r)
  simp only [laws_FnWakes_l1, kb_ite, kb_some, kb_none, kb_bind, kb_alt]
  kernel_rfl
theorem laws_FnWakes_rs : RoundsOK (mkCtx Go.K.Link.seat laws_FnWakes_c laws_FnWakes_tab) (sums laws_FnWakes_ls) (loopsOf 0 laws_FnWakes_code) laws_FnWakes_ls := ⟨⟨rfl, rfl, laws_FnWakes_l0_r⟩, ⟨⟨rfl, rfl, laws_FnWakes_l1_r⟩, trivial⟩⟩
theorem laws_FnWakes_e : ∀ v, (evFn (mkCtx Go.K.Link.seat laws_FnWakes_c laws_FnWakes_tab) (sums laws_FnWakes_ls) 11 Go.Proofs.Tryz.f11 (encL laws_FnWakes_s.a v)).run = (laws_FnWakes_s.gen v).bind fun y => some (laws_FnWakes_s.out y) := by
  rintro ⟨code, _⟩
  show _ = (laws_FnWakes code).bind fun y : Bool => some (laws_FnWakes_s.out y)
  simp only [laws_FnWakes, kb_ite, kb_some, kb_none, kb_bind, kb_alt]
  kernel_rfl
theorem laws_FnWakes_is : FnIs Go.Proofs.Tryz.prog 11 (modeOf []) (phi [laws_FnWakes_s]) := spec_is (c := laws_FnWakes_c) seatOK laws_FnWakes_t Go.Proofs.Tryz.func11 rfl (code := laws_FnWakes_code) rfl rfl laws_FnWakes_rs laws_FnWakes_e
end Go.K.Link
namespace Go.Proofs.YtgeageanmhpfjaaGreat
open Go.K Go.K.Link Go.RowKit
theorem Tryz.own : ownKnob Tryz.prog.godebug = none := by kernel_rfl
theorem Tryz.laidOut : laidOutB Tryz.prog = true := by kernel_rfl
end Go.Proofs.YtgeageanmhpfjaaGreat

