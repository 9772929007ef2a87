/- What each function of the program gives, as a plain function, with the proof that it gives it; no condition. -/
import Derived.Test.YtjpkedcnfhflpaaP1
import Derived.Test.YtjpkedcnfhflpaaS1
import Derived.Test.YtjpkedcnfhflpaaK3
import Derived.Test.YtjpkedcnfhflpaaRows
import Derived.Shelf.Lay
import Derived.Ground.SlsfProg
set_option linter.all false
set_option maxRecDepth 100000
set_option maxHeartbeats 4000000
set_option linter.all false
namespace Go.Proofs
open Go.Shelf
def Try.sortL55_ren : Go.Shelf.Ren := ⟨fun | 6 => 55 | 15 => 71 | 14 => 70 | 28 => 90 | 29 => 91 | 20 => 82 | 21 => 83 | 22 => 84 | 23 => 85 | 24 => 86 | 25 => 87 | 26 => 88 | 27 => 89 | 46 => 95 | 47 => 96 | 48 => 97 | 49 => 98 | 50 => 99 | 57 => 100 | n => n, fun | 22 => 26 | 24 => 32 | 25 => 66 | 3 => 3 | 39 => 70 | 0 => 0 | 53 => 99 | 55 => 59 | 4 => 4 | 46 => 92 | 45 => 91 | 50 => 96 | 5 => 5 | 9 => 9 | 66 => 104 | 70 => 108 | 76 => 110 | 77 => 87 | n => n, fun | n => n⟩
theorem Try.sortL55 : Go.Proofs.SlLaysF0.n6 Try.prog Try.sortL55_ren := {
  mixed := by kernel_rfl
  f6 := ⟨ "slices.SortFunc[[]loop.example/g01234/impl.Angle,loop.example/g01234/impl.Angle]", by decide, Try.func55.trans (congrArg some (by kernel_rfl))⟩
  f14 := ⟨ "slices.pdqsortCmpFunc[loop.example/g01234/impl.Angle]", by decide, Try.func70.trans (congrArg some (by kernel_rfl))⟩
  f15 := Try.func71.trans (congrArg some (by kernel_rfl))
  f20 := ⟨ "slices.insertionSortCmpFunc[loop.example/g01234/impl.Angle]", by decide, Try.func82.trans (congrArg some (by kernel_rfl))⟩
  f21 := ⟨ "slices.heapSortCmpFunc[loop.example/g01234/impl.Angle]", by decide, Try.func83.trans (congrArg some (by kernel_rfl))⟩
  f22 := ⟨ "slices.breakPatternsCmpFunc[loop.example/g01234/impl.Angle]", by decide, Try.func84.trans (congrArg some (by kernel_rfl))⟩
  f23 := ⟨ "slices.choosePivotCmpFunc[loop.example/g01234/impl.Angle]", by decide, Try.func85.trans (congrArg some (by kernel_rfl))⟩
  f24 := ⟨ "slices.reverseRangeCmpFunc[loop.example/g01234/impl.Angle]", by decide, Try.func86.trans (congrArg some (by kernel_rfl))⟩
  f25 := ⟨ "slices.partialInsertionSortCmpFunc[loop.example/g01234/impl.Angle]", by decide, Try.func87.trans (congrArg some (by kernel_rfl))⟩
  f26 := ⟨ "slices.partitionEqualCmpFunc[loop.example/g01234/impl.Angle]", by decide, Try.func88.trans (congrArg some (by kernel_rfl))⟩
  f27 := ⟨ "slices.partitionCmpFunc[loop.example/g01234/impl.Angle]", by decide, Try.func89.trans (congrArg some (by kernel_rfl))⟩
  f28 := Try.func90.trans (congrArg some (by kernel_rfl))
  f29 := Try.func91.trans (congrArg some (by kernel_rfl))
  f46 := ⟨ "slices.siftDownCmpFunc[loop.example/g01234/impl.Angle]", by decide, Try.func95.trans (congrArg some (by kernel_rfl))⟩
  f47 := Try.func96.trans (congrArg some (by kernel_rfl))
  f48 := Try.func97.trans (congrArg some (by kernel_rfl))
  f49 := ⟨ "slices.medianAdjacentCmpFunc[loop.example/g01234/impl.Angle]", by decide, Try.func98.trans (congrArg some (by kernel_rfl))⟩
  f50 := ⟨ "slices.medianCmpFunc[loop.example/g01234/impl.Angle]", by decide, Try.func99.trans (congrArg some (by kernel_rfl))⟩
  f57 := ⟨ "slices.order2CmpFunc[loop.example/g01234/impl.Angle]", by decide, Try.func100.trans (congrArg some (by kernel_rfl))⟩
  t0 := Try.underlying0
  a0 := Try.isAgg0
  z0 := Try.sizeOf0
  v0 := Try.zeroValue0
  t3 := Try.underlying3
  a3 := Try.isAgg3
  z3 := Try.sizeOf3
  v3 := Try.zeroValue3
  t4 := Try.underlying4
  a4 := Try.isAgg4
  z4 := Try.sizeOf4
  v4 := Try.zeroValue4
  t5 := Try.underlying5
  a5 := Try.isAgg5
  z5 := Try.sizeOf5
  v5 := Try.zeroValue5
  t9 := Try.underlying9
  a9 := Try.isAgg9
  z9 := Try.sizeOf9
  v9 := Try.zeroValue9
  t22 := Try.underlying26
  a22 := Try.isAgg26
  z22 := Try.sizeOf26
  v22 := Try.zeroValue26
  t25 := Try.underlying66
  a25 := Try.isAgg66
  z25 := Try.sizeOf66
  v25 := Try.zeroValue66
  t39 := Try.underlying70
  a39 := Try.isAgg70
  z39 := Try.sizeOf70
  v39 := Try.zeroValue70
  t45 := Try.underlying91
  a45 := Try.isAgg91
  z45 := Try.sizeOf91
  v45 := Try.zeroValue91
  t46 := Try.underlying92
  a46 := Try.isAgg92
  z46 := Try.sizeOf92
  v46 := Try.zeroValue92
  t50 := Try.underlying96
  a50 := Try.isAgg96
  z50 := Try.sizeOf96
  v50 := Try.zeroValue96
  t53 := Try.underlying99
  a53 := Try.isAgg99
  z53 := Try.sizeOf99
  v53 := Try.zeroValue99
  t55 := Try.underlying59
  a55 := Try.isAgg59
  z55 := Try.sizeOf59
  v55 := Try.zeroValue59
  t66 := Try.underlying104
  a66 := Try.isAgg104
  z66 := Try.sizeOf104
  v66 := Try.zeroValue104
  t70 := Try.underlying108
  a70 := Try.isAgg108
  z70 := Try.sizeOf108
  v70 := Try.zeroValue108
  t76 := Try.underlying110
  a76 := Try.isAgg110
  z76 := Try.sizeOf110
  v76 := Try.zeroValue110
  t77 := Try.underlying87
  a77 := Try.isAgg87
  z77 := Try.sizeOf87
  v77 := Try.zeroValue87 }
end Go.Proofs
namespace Go.K.Link
open Go.K.Pure
def tyList : List (Nat × Ty) := [(2, .int .i64), (3, .int .i64), (4, .bool), (5, .int .u8), (6, .int .u8), (7, .pair (.int .i64) (.pair (.int .i64) (.pair (.bool) (.pair (.int .u8) (.unit))))), (8, .pair (.int .i64) (.pair (.int .i64) (.pair (.bool) (.pair (.int .u8) (.unit))))), (9, .str), (10, .str), (11, .str), (12, .int .u64), (21, .int .i32), (22, .sl 5 (.int .u8)), (26, .sl 32 (.pair (.int .i64) (.pair (.int .i64) (.unit)))), (31, .pair (.int .i64) (.pair (.int .i64) (.unit))), (32, .pair (.int .i64) (.pair (.int .i64) (.unit))), (35, .sl 26 (.sl 32 (.pair (.int .i64) (.pair (.int .i64) (.unit))))), (38, .ptr (.pair (.sl 5 (.int .u8)) (.pair (.int .i64) (.pair (.int .u64) (.unit))))), (59, .int .u64), (60, .pair (.sl 5 (.int .u8)) (.pair (.int .i64) (.pair (.int .u64) (.unit)))), (61, .pair (.sl 5 (.int .u8)) (.pair (.int .i64) (.pair (.int .u64) (.unit)))), (70, .int .u64), (71, .sl 2 (.int .i64)), (74, .sl 4 (.bool)), (91, .int .i64), (99, .int .u32), (104, .int .u64), (108, .ptr (.int .i64)), (110, .ptr (.int .u64)), (119, .int .u8), (120, .int .u8), (122, .ptr (.int .u8)), (123, .int .i32), (124, .int .i32)]
def byList : List (Nat × Nat) := [(22, 1), (26, 16), (35, 24), (71, 8), (74, 1)]
def ftyList : List Nat := [1, 23, 25, 28, 29, 30, 34, 36, 37, 39, 40, 41, 42, 43, 44, 45, 46, 47, 48, 49, 50, 51, 52, 53, 54, 55, 56, 57, 58, 62, 63, 64, 65, 66, 67, 68, 69, 72, 73, 75, 76, 77, 78, 79, 80, 81, 82, 83, 84, 85, 86, 88, 89, 90, 93, 94, 95, 97, 98, 100, 101, 103, 105, 106, 107, 109, 111, 112, 118, 121]
def etList : List (Nat × Nat) := [(22, 5), (26, 32), (35, 26), (71, 2), (74, 4)]
def fieldList : List (Nat × List Nat) := [(7, [2, 3, 4, 6]), (8, [2, 3, 4, 6]), (13, [9, 12]), (14, [9, 12]), (18, [17]), (19, [17]), (31, [2, 2]), (32, [2, 2]), (60, [22, 3, 59]), (61, [22, 3, 59]), (113, [17, 17, 17, 9]), (114, [17, 17, 17, 9]), (116, [115]), (117, [115]), (125, [12, 12, 99, 119, 5, 5, 120, 121, 122, 123, 124]), (126, [12, 12, 99, 119, 5, 5, 120, 121, 122, 123, 124])]
def seat : Seat := seatOf tyList byList ftyList fieldList etList
theorem seatOK : SeatOK Go.Proofs.Try.prog seat := seat_ok (by kernel_rfl) (by kernel_rfl) (by kernel_rfl) (by kernel_rfl)
noncomputable def laws_FnRotations_code : Code := (Go.Proofs.Try.f3.body).getD .skip
def laws_FnRotations_c : Cfg := ⟨3, [], [], [], []⟩
noncomputable def laws_big_code : Code := (Go.Proofs.Try.f4.body).getD .skip
def laws_big_c : Cfg := ⟨4, [], [], [], []⟩
noncomputable def laws_big_s : Spec := ⟨[.v (.sl 5 (.int .u8)) .fr], Bool, fun v => laws_big v.1, fun r => ([.v (.bool) .fr r], [])⟩
noncomputable def laws_big_ls : List LSum := []
noncomputable def laws_big_tab : List Row := []
theorem laws_big_t : ∀ r, r ∈ laws_big_tab → RowIs Go.Proofs.Try.prog r := tab_nil
theorem laws_big_rs : RoundsOK (mkCtx Go.K.Link.seat laws_big_c laws_big_tab) (sums laws_big_ls) (loopsOf 0 laws_big_code) laws_big_ls := trivial
theorem laws_big_e : ∀ v, (evFn (mkCtx Go.K.Link.seat laws_big_c laws_big_tab) (sums laws_big_ls) 4 Go.Proofs.Try.f4 (encL laws_big_s.a v)).run = (laws_big_s.gen v).bind fun y => some (laws_big_s.out y) := by
  rintro ⟨code, _⟩
  show _ = (laws_big code).bind fun y : Bool => some (laws_big_s.out y)
  simp only [laws_big, kb_ite, kb_some, kb_none, kb_bind, kb_alt]
  kernel_rfl
theorem laws_big_is : FnIs Go.Proofs.Try.prog 4 (modeOf []) (phi [laws_big_s]) := spec_is (c := laws_big_c) seatOK laws_big_t Go.Proofs.Try.func4 rfl (code := laws_big_code) rfl rfl laws_big_rs laws_big_e
noncomputable def spec_DrawRotationSet_code : Code := (Go.Proofs.Try.f5.body).getD .skip
def spec_DrawRotationSet_c : Cfg := ⟨5, [], [], [], []⟩
noncomputable def spec_l01From_code : Code := (Go.Proofs.Try.f14.body).getD .skip
def spec_l01From_c : Cfg := ⟨14, [], [[0, 3, 4, 11], [3, 11], [2, 3, 11, 37]], [], []⟩
noncomputable def spec_l01From_l0_s : LSum := ⟨0, ⟨[(0, .val (.sl 5 (.int .u8)) .fr), (2, .val (.ptr (.pair (.sl 5 (.int .u8)) (.pair (.int .i64) (.pair (.int .u64) (.unit))))) (.own .fr)), (0, .val (.int .i64) .fr)], 33⟩, (.exit 0, ⟨[(3, .val (.ptr (.pair (.sl 5 (.int .u8)) (.pair (.int .i64) (.pair (.int .u64) (.unit))))) (.own .fr))], 34⟩), [], spec_l01From_l0⟩
noncomputable def spec_l01From_s : Spec := ⟨[.v (.sl 5 (.int .u8)) .fr], (((List Int) × (Int × (Int × Unit)))), fun v => spec_l01From v.1, fun r => ([.v (.ptr (.pair (.sl 5 (.int .u8)) (.pair (.int .i64) (.pair (.int .u64) (.unit))))) (.own .fr) r], [])⟩
noncomputable def spec_l01From_ls : List LSum := [spec_l01From_l0_s]
noncomputable def spec_l01From_tab : List Row := []
theorem spec_l01From_t : ∀ r, r ∈ spec_l01From_tab → RowIs Go.Proofs.Try.prog r := tab_nil
theorem spec_l01From_l0_r : RoundIs (mkCtx Go.K.Link.seat spec_l01From_c spec_l01From_tab) (sums spec_l01From_ls) 0 (bodyAt (loopsOf 0 spec_l01From_code) 0) spec_l01From_l0_s := by
  rintro ⟨code, ⟨s, ⟨i, _⟩⟩⟩
  show _ = (spec_l01From_l0 (code, (s, (i, ())))).bind fun r : (Ctl ((List Int) × (((List Int) × (Int × (Int × Unit)))) × Int × Unit) (((((List Int) × (Int × (Int × Unit)))) × Unit))) => some (ctlVal spec_l01From_l0_s r)
  simp only [spec_l01From_l0, kb_ite, kb_some, kb_none, kb_bind, kb_alt]
  kernel_rfl
theorem spec_l01From_rs : RoundsOK (mkCtx Go.K.Link.seat spec_l01From_c spec_l01From_tab) (sums spec_l01From_ls) (loopsOf 0 spec_l01From_code) spec_l01From_ls := ⟨⟨rfl, rfl, spec_l01From_l0_r⟩, trivial⟩
theorem spec_l01From_e : ∀ v, (evFn (mkCtx Go.K.Link.seat spec_l01From_c spec_l01From_tab) (sums spec_l01From_ls) 14 Go.Proofs.Try.f14 (encL spec_l01From_s.a v)).run = (spec_l01From_s.gen v).bind fun y => some (spec_l01From_s.out y) := by
  rintro ⟨code, _⟩
  show _ = (spec_l01From code).bind fun y : (((List Int) × (Int × (Int × Unit)))) => some (spec_l01From_s.out y)
  simp only [spec_l01From, kb_ite, kb_some, kb_none, kb_bind, kb_alt]
  kernel_rfl
theorem spec_l01From_is : FnIs Go.Proofs.Try.prog 14 (modeOf []) (phi [spec_l01From_s]) := spec_is (c := spec_l01From_c) seatOK spec_l01From_t Go.Proofs.Try.func14 rfl (code := spec_l01From_code) rfl rfl spec_l01From_rs spec_l01From_e
noncomputable def spec_l01Near_code : Code := (Go.Proofs.Try.f15.body).getD .skip
def spec_l01Near_c : Cfg := ⟨15, [.mut], [], [], []⟩
noncomputable def spec_l01Next_code : Code := (Go.Proofs.Try.f31.body).getD .skip
def spec_l01Next_c : Cfg := ⟨31, [.mut], [], [], []⟩
noncomputable def spec_l01Next_s : Spec := ⟨[.v (.ptr (.pair (.sl 5 (.int .u8)) (.pair (.int .i64) (.pair (.int .u64) (.unit))))) (.own .fr), .v (.int .i64) .fr], Int × (((List Int) × (Int × (Int × Unit)))), fun v => spec_l01Next v.1 v.2.1, fun r => ([.v (.int .i64) .fr r.1], [.v (.ptr (.pair (.sl 5 (.int .u8)) (.pair (.int .i64) (.pair (.int .u64) (.unit))))) (.own .fr) r.2])⟩
noncomputable def spec_l01Next_ls : List LSum := []
noncomputable def spec_l01Next_tab : List Row := []
theorem spec_l01Next_t : ∀ r, r ∈ spec_l01Next_tab → RowIs Go.Proofs.Try.prog r := tab_nil
theorem spec_l01Next_rs : RoundsOK (mkCtx Go.K.Link.seat spec_l01Next_c spec_l01Next_tab) (sums spec_l01Next_ls) (loopsOf 0 spec_l01Next_code) spec_l01Next_ls := trivial
theorem spec_l01Next_e : ∀ v, (evFn (mkCtx Go.K.Link.seat spec_l01Next_c spec_l01Next_tab) (sums spec_l01Next_ls) 31 Go.Proofs.Try.f31 (encL spec_l01Next_s.a v)).run = (spec_l01Next_s.gen v).bind fun y => some (spec_l01Next_s.out y) := by
  rintro ⟨s, ⟨n, _⟩⟩
  show _ = (spec_l01Next s n).bind fun y : Int × (((List Int) × (Int × (Int × Unit)))) => some (spec_l01Next_s.out y)
  simp only [spec_l01Next, kb_ite, kb_some, kb_none, kb_bind, kb_alt]
  kernel_rfl
theorem spec_l01Next_is : FnIs Go.Proofs.Try.prog 31 (modeOf [.mut]) (phi [spec_l01Next_s]) := spec_is (c := spec_l01Next_c) seatOK spec_l01Next_t Go.Proofs.Try.func31 rfl (code := spec_l01Next_code) rfl rfl spec_l01Next_rs spec_l01Next_e
noncomputable def spec_l01Pick_code : Code := (Go.Proofs.Try.f32.body).getD .skip
def spec_l01Pick_c : Cfg := ⟨32, [.mut], [], [], []⟩
noncomputable def spec_l01Pick_s : Spec := ⟨[.v (.ptr (.pair (.sl 5 (.int .u8)) (.pair (.int .i64) (.pair (.int .u64) (.unit))))) (.own .fr), .v (.sl 2 (.int .i64)) .fr], Int × (((List Int) × (Int × (Int × Unit)))), fun v => spec_l01Pick v.1 v.2.1, fun r => ([.v (.int .i64) .fr r.1], [.v (.ptr (.pair (.sl 5 (.int .u8)) (.pair (.int .i64) (.pair (.int .u64) (.unit))))) (.own .fr) r.2])⟩
noncomputable def spec_l01Pick_ls : List LSum := []
noncomputable def spec_l01Pick_tab : List Row := [⟨31, [.mut], [spec_l01Next_s]⟩]
theorem spec_l01Pick_t : ∀ r, r ∈ spec_l01Pick_tab → RowIs Go.Proofs.Try.prog r := tab_cons (spec_l01Next_is) (tab_nil)
theorem spec_l01Pick_rs : RoundsOK (mkCtx Go.K.Link.seat spec_l01Pick_c spec_l01Pick_tab) (sums spec_l01Pick_ls) (loopsOf 0 spec_l01Pick_code) spec_l01Pick_ls := trivial
theorem spec_l01Pick_e : ∀ v, (evFn (mkCtx Go.K.Link.seat spec_l01Pick_c spec_l01Pick_tab) (sums spec_l01Pick_ls) 32 Go.Proofs.Try.f32 (encL spec_l01Pick_s.a v)).run = (spec_l01Pick_s.gen v).bind fun y => some (spec_l01Pick_s.out y) := by
  rintro ⟨s, ⟨list, _⟩⟩
  show _ = (spec_l01Pick s list).bind fun y : Int × (((List Int) × (Int × (Int × Unit)))) => some (spec_l01Pick_s.out y)
  simp only [spec_l01Pick, kb_ite, kb_some, kb_none, kb_bind, kb_alt]
  kernel_rfl
theorem spec_l01Pick_is : FnIs Go.Proofs.Try.prog 32 (modeOf [.mut]) (phi [spec_l01Pick_s]) := spec_is (c := spec_l01Pick_c) seatOK spec_l01Pick_t Go.Proofs.Try.func32 rfl (code := spec_l01Pick_code) rfl rfl spec_l01Pick_rs spec_l01Pick_e
noncomputable def spec_l01Near_s : Spec := ⟨[.v (.ptr (.pair (.sl 5 (.int .u8)) (.pair (.int .i64) (.pair (.int .u64) (.unit))))) (.own .fr), .v (.int .i64) .fr], Int × (((List Int) × (Int × (Int × Unit)))), fun v => spec_l01Near v.1 v.2.1, fun r => ([.v (.int .i64) .fr r.1], [.v (.ptr (.pair (.sl 5 (.int .u8)) (.pair (.int .i64) (.pair (.int .u64) (.unit))))) (.own .fr) r.2])⟩
noncomputable def spec_l01Near_ls : List LSum := []
noncomputable def spec_l01Near_tab : List Row := [⟨32, [.mut], [spec_l01Pick_s]⟩, ⟨31, [.mut], [spec_l01Next_s]⟩]
theorem spec_l01Near_t : ∀ r, r ∈ spec_l01Near_tab → RowIs Go.Proofs.Try.prog r := tab_cons (spec_l01Pick_is) (tab_cons (spec_l01Next_is) (tab_nil))
theorem spec_l01Near_rs : RoundsOK (mkCtx Go.K.Link.seat spec_l01Near_c spec_l01Near_tab) (sums spec_l01Near_ls) (loopsOf 0 spec_l01Near_code) spec_l01Near_ls := trivial
theorem spec_l01Near_e : ∀ v, (evFn (mkCtx Go.K.Link.seat spec_l01Near_c spec_l01Near_tab) (sums spec_l01Near_ls) 15 Go.Proofs.Try.f15 (encL spec_l01Near_s.a v)).run = (spec_l01Near_s.gen v).bind fun y => some (spec_l01Near_s.out y) := by
  rintro ⟨s, ⟨most, _⟩⟩
  show _ = (spec_l01Near s most).bind fun y : Int × (((List Int) × (Int × (Int × Unit)))) => some (spec_l01Near_s.out y)
  simp only [spec_l01Near, kb_ite, kb_some, kb_none, kb_bind, kb_alt]
  kernel_rfl
theorem spec_l01Near_is : FnIs Go.Proofs.Try.prog 15 (modeOf [.mut]) (phi [spec_l01Near_s]) := spec_is (c := spec_l01Near_c) seatOK spec_l01Near_t Go.Proofs.Try.func15 rfl (code := spec_l01Near_code) rfl rfl spec_l01Near_rs spec_l01Near_e
noncomputable def spec_DrawRotationSet_s : Spec := ⟨[.v (.sl 5 (.int .u8)) .fr], Int × Int, fun v => spec_DrawRotationSet v.1, fun r => ([.v (.int .i64) .fr r.1, .v (.int .i64) .fr r.2], [])⟩
noncomputable def spec_DrawRotationSet_ls : List LSum := []
noncomputable def spec_DrawRotationSet_tab : List Row := [⟨14, [], [spec_l01From_s]⟩, ⟨15, [.mut], [spec_l01Near_s]⟩]
theorem spec_DrawRotationSet_t : ∀ r, r ∈ spec_DrawRotationSet_tab → RowIs Go.Proofs.Try.prog r := tab_cons (spec_l01From_is) (tab_cons (spec_l01Near_is) (tab_nil))
theorem spec_DrawRotationSet_rs : RoundsOK (mkCtx Go.K.Link.seat spec_DrawRotationSet_c spec_DrawRotationSet_tab) (sums spec_DrawRotationSet_ls) (loopsOf 0 spec_DrawRotationSet_code) spec_DrawRotationSet_ls := trivial
theorem spec_DrawRotationSet_e : ∀ v, (evFn (mkCtx Go.K.Link.seat spec_DrawRotationSet_c spec_DrawRotationSet_tab) (sums spec_DrawRotationSet_ls) 5 Go.Proofs.Try.f5 (encL spec_DrawRotationSet_s.a v)).run = (spec_DrawRotationSet_s.gen v).bind fun y => some (spec_DrawRotationSet_s.out y) := by
  rintro ⟨code, _⟩
  show _ = (spec_DrawRotationSet code).bind fun y : Int × Int => some (spec_DrawRotationSet_s.out y)
  simp only [spec_DrawRotationSet, kb_ite, kb_some, kb_none, kb_bind, kb_alt]
  kernel_rfl
theorem spec_DrawRotationSet_is : FnIs Go.Proofs.Try.prog 5 (modeOf []) (phi [spec_DrawRotationSet_s]) := spec_is (c := spec_DrawRotationSet_c) seatOK spec_DrawRotationSet_t Go.Proofs.Try.func5 rfl (code := spec_DrawRotationSet_code) rfl rfl spec_DrawRotationSet_rs spec_DrawRotationSet_e
noncomputable def impl_RotationSet_code : Code := (Go.Proofs.Try.f6.body).getD .skip
def impl_RotationSet_c : Cfg := ⟨6, [], [[0, 1, 6, 26, 27, 57], [6, 57], [4, 5, 60], [], [], [], [0, 1, 6, 7, 8, 26, 27, 30, 31, 57], [0, 1, 6, 8, 26, 27, 57], [4, 5, 60]], [], []⟩
noncomputable def impl_within_code : Code := (Go.Proofs.Try.f16.body).getD .skip
def impl_within_c : Cfg := ⟨16, [], [], [], []⟩
noncomputable def impl_within_s : Spec := ⟨[.v (.int .i64) .fr, .v (.int .i64) .fr, .v (.int .i64) .fr], Bool, fun v => impl_within v.1 v.2.1 v.2.2.1, fun r => ([.v (.bool) .fr r], [])⟩
noncomputable def impl_within_ls : List LSum := []
noncomputable def impl_within_tab : List Row := []
theorem impl_within_t : ∀ r, r ∈ impl_within_tab → RowIs Go.Proofs.Try.prog r := tab_nil
theorem impl_within_rs : RoundsOK (mkCtx Go.K.Link.seat impl_within_c impl_within_tab) (sums impl_within_ls) (loopsOf 0 impl_within_code) impl_within_ls := trivial
theorem impl_within_e : ∀ v, (evFn (mkCtx Go.K.Link.seat impl_within_c impl_within_tab) (sums impl_within_ls) 16 Go.Proofs.Try.f16 (encL impl_within_s.a v)).run = (impl_within_s.gen v).bind fun y => some (impl_within_s.out y) := by
  rintro ⟨n, ⟨low, ⟨high, _⟩⟩⟩
  show _ = (impl_within n low high).bind fun y : Bool => some (impl_within_s.out y)
  simp only [impl_within, kb_ite, kb_some, kb_none, kb_bind, kb_alt]
  kernel_rfl
theorem impl_within_is : FnIs Go.Proofs.Try.prog 16 (modeOf []) (phi [impl_within_s]) := spec_is (c := impl_within_c) seatOK impl_within_t Go.Proofs.Try.func16 rfl (code := impl_within_code) rfl rfl impl_within_rs impl_within_e
noncomputable def impl_divisor_code : Code := (Go.Proofs.Try.f17.body).getD .skip
def impl_divisor_c : Cfg := ⟨17, [], [[0, 1], [0], [4]], [], []⟩
noncomputable def impl_divisor_l0_s : LSum := ⟨0, ⟨[(0, .val (.int .i64) .fr), (0, .val (.int .i64) .fr)], 10⟩, (.exit 0, ⟨[(0, .val (.int .i64) .fr)], 11⟩), [], impl_divisor_l0⟩
noncomputable def impl_divisor_s : Spec := ⟨[.v (.int .i64) .fr, .v (.int .i64) .fr], Int, fun v => impl_divisor v.1 v.2.1, fun r => ([.v (.int .i64) .fr r], [])⟩
noncomputable def impl_divisor_ls : List LSum := [impl_divisor_l0_s]
noncomputable def impl_divisor_tab : List Row := []
theorem impl_divisor_t : ∀ r, r ∈ impl_divisor_tab → RowIs Go.Proofs.Try.prog r := tab_nil
theorem impl_divisor_l0_r : RoundIs (mkCtx Go.K.Link.seat impl_divisor_c impl_divisor_tab) (sums impl_divisor_ls) 0 (bodyAt (loopsOf 0 impl_divisor_code) 0) impl_divisor_l0_s := by
  rintro ⟨a, ⟨b, _⟩⟩
  show _ = (impl_divisor_l0 (a, (b, ()))).bind fun r : (Ctl (Int × Int × Unit) ((Int × Unit))) => some (ctlVal impl_divisor_l0_s r)
  simp only [impl_divisor_l0, kb_ite, kb_some, kb_none, kb_bind, kb_alt]
  kernel_rfl
theorem impl_divisor_rs : RoundsOK (mkCtx Go.K.Link.seat impl_divisor_c impl_divisor_tab) (sums impl_divisor_ls) (loopsOf 0 impl_divisor_code) impl_divisor_ls := ⟨⟨rfl, rfl, impl_divisor_l0_r⟩, trivial⟩
theorem impl_divisor_e : ∀ v, (evFn (mkCtx Go.K.Link.seat impl_divisor_c impl_divisor_tab) (sums impl_divisor_ls) 17 Go.Proofs.Try.f17 (encL impl_divisor_s.a v)).run = (impl_divisor_s.gen v).bind fun y => some (impl_divisor_s.out y) := by
  rintro ⟨a, ⟨b, _⟩⟩
  show _ = (impl_divisor a b).bind fun y : Int => some (impl_divisor_s.out y)
  simp only [impl_divisor, kb_ite, kb_some, kb_none, kb_bind, kb_alt]
  kernel_rfl
theorem impl_divisor_is : FnIs Go.Proofs.Try.prog 17 (modeOf []) (phi [impl_divisor_s]) := spec_is (c := impl_divisor_c) seatOK impl_divisor_t Go.Proofs.Try.func17 rfl (code := impl_divisor_code) rfl rfl impl_divisor_rs impl_divisor_e
noncomputable def impl_RotationSet_l1_s : LSum := ⟨2, ⟨[(0, .val (.int .i64) .fr), (0, .val (.int .i64) .fr), (4, .val (.sl 32 (.pair (.int .i64) (.pair (.int .i64) (.unit)))) (.own .fr)), (0, .val (.int .i64) .fr), (0, .val (.int .i64) .fr), (17, .val (.int .i64) .fr), (0, .val (.int .i64) .fr), (2, .val (.int .i64) .fr), (0, .val (.int .i64) .fr)], 29⟩, (.exit 2, ⟨[(0, .val (.int .i64) .fr), (0, .val (.int .i64) .fr), (4, .val (.sl 32 (.pair (.int .i64) (.pair (.int .i64) (.unit)))) (.own .fr)), (1, .val (.int .i64) .fr), (17, .val (.int .i64) .fr), (0, .val (.int .i64) .fr)], 33⟩), [], impl_RotationSet_l1⟩
noncomputable def impl_angle_code : Code := (Go.Proofs.Try.f18.body).getD .skip
def impl_angle_c : Cfg := ⟨18, [], [], [], []⟩
noncomputable def impl_angle_s : Spec := ⟨[.v (.int .i64) .fr, .v (.int .i64) .fr], (Int × (Int × Unit)), fun v => impl_angle v.1 v.2.1, fun r => ([.v (.pair (.int .i64) (.pair (.int .i64) (.unit))) .fr r], [])⟩
noncomputable def impl_angle_ls : List LSum := []
noncomputable def impl_angle_tab : List Row := [⟨17, [], [impl_divisor_s]⟩]
theorem impl_angle_t : ∀ r, r ∈ impl_angle_tab → RowIs Go.Proofs.Try.prog r := tab_cons (impl_divisor_is) (tab_nil)
theorem impl_angle_rs : RoundsOK (mkCtx Go.K.Link.seat impl_angle_c impl_angle_tab) (sums impl_angle_ls) (loopsOf 0 impl_angle_code) impl_angle_ls := trivial
theorem impl_angle_e : ∀ v, (evFn (mkCtx Go.K.Link.seat impl_angle_c impl_angle_tab) (sums impl_angle_ls) 18 Go.Proofs.Try.f18 (encL impl_angle_s.a v)).run = (impl_angle_s.gen v).bind fun y => some (impl_angle_s.out y) := by
  rintro ⟨num, ⟨den, _⟩⟩
  show _ = (impl_angle num den).bind fun y : (Int × (Int × Unit)) => some (impl_angle_s.out y)
  simp only [impl_angle, kb_ite, kb_some, kb_none, kb_bind, kb_alt]
  kernel_rfl
theorem impl_angle_is : FnIs Go.Proofs.Try.prog 18 (modeOf []) (phi [impl_angle_s]) := spec_is (c := impl_angle_c) seatOK impl_angle_t Go.Proofs.Try.func18 rfl (code := impl_angle_code) rfl rfl impl_angle_rs impl_angle_e
noncomputable def impl_RotationSet_l0_s : LSum := ⟨0, ⟨[(0, .val (.int .i64) .fr), (0, .val (.int .i64) .fr), (4, .val (.sl 32 (.pair (.int .i64) (.pair (.int .i64) (.unit)))) (.own .fr)), (19, .val (.int .i64) .fr), (0, .val (.int .i64) .fr)], 33⟩, (.exit 0, ⟨[(6, .val (.sl 32 (.pair (.int .i64) (.pair (.int .i64) (.unit)))) (.own .fr))], 54⟩), [], impl_RotationSet_l0⟩
noncomputable def impl_sorted_code : Code := (Go.Proofs.Try.f19.body).getD .skip
def impl_sorted_c : Cfg := ⟨19, [], [], [], []⟩
noncomputable def slices_Values__impl_Angle_impl_Angle_code : Code := (Go.Proofs.Try.f44.body).getD .skip
def slices_Values__impl_Angle_impl_Angle_c : Cfg := ⟨44, [], [], [], []⟩
noncomputable def slices_Values__impl_Angle_impl_Angle_s : Spec := ⟨[.v (.sl 32 (.pair (.int .i64) (.pair (.int .i64) (.unit)))) .fr], (List (Int × (Int × Unit))), fun v => slices_Values__impl_Angle_impl_Angle v.1, fun r => ([.fn 56 [] [.v (.ptr (.sl 32 (.pair (.int .i64) (.pair (.int .i64) (.unit))))) .fr r]], [])⟩
noncomputable def slices_Values__impl_Angle_impl_Angle_ls : List LSum := []
noncomputable def slices_Values__impl_Angle_impl_Angle_tab : List Row := []
theorem slices_Values__impl_Angle_impl_Angle_t : ∀ r, r ∈ slices_Values__impl_Angle_impl_Angle_tab → RowIs Go.Proofs.Try.prog r := tab_nil
theorem slices_Values__impl_Angle_impl_Angle_rs : RoundsOK (mkCtx Go.K.Link.seat slices_Values__impl_Angle_impl_Angle_c slices_Values__impl_Angle_impl_Angle_tab) (sums slices_Values__impl_Angle_impl_Angle_ls) (loopsOf 0 slices_Values__impl_Angle_impl_Angle_code) slices_Values__impl_Angle_impl_Angle_ls := trivial
theorem slices_Values__impl_Angle_impl_Angle_e : ∀ v, (evFn (mkCtx Go.K.Link.seat slices_Values__impl_Angle_impl_Angle_c slices_Values__impl_Angle_impl_Angle_tab) (sums slices_Values__impl_Angle_impl_Angle_ls) 44 Go.Proofs.Try.f44 (encL slices_Values__impl_Angle_impl_Angle_s.a v)).run = (slices_Values__impl_Angle_impl_Angle_s.gen v).bind fun y => some (slices_Values__impl_Angle_impl_Angle_s.out y) := by
  rintro ⟨s, _⟩
  show _ = (slices_Values__impl_Angle_impl_Angle s).bind fun y : (List (Int × (Int × Unit))) => some (slices_Values__impl_Angle_impl_Angle_s.out y)
  simp only [slices_Values__impl_Angle_impl_Angle, kb_ite, kb_some, kb_none, kb_bind, kb_alt]
  kernel_rfl
theorem slices_Values__impl_Angle_impl_Angle_is : FnIs Go.Proofs.Try.prog 44 (modeOf []) (phi [slices_Values__impl_Angle_impl_Angle_s]) := spec_is (c := slices_Values__impl_Angle_impl_Angle_c) seatOK slices_Values__impl_Angle_impl_Angle_t Go.Proofs.Try.func44 rfl (code := slices_Values__impl_Angle_impl_Angle_code) rfl rfl slices_Values__impl_Angle_impl_Angle_rs slices_Values__impl_Angle_impl_Angle_e
noncomputable def slices_SortedFunc_impl_Angle_code : Code := (Go.Proofs.Try.f43.body).getD .skip
def slices_SortedFunc_impl_Angle_c : Cfg := ⟨43, [], [], [], []⟩
noncomputable def slices_Collect_impl_Angle_s : Spec := ⟨[.fn 56 [] [.v (.ptr (.sl 32 (.pair (.int .i64) (.pair (.int .i64) (.unit))))) .fr]], List (Int × (Int × Unit)), fun v => slices_Collect_impl_Angle v.1.2.1, fun r => ([.v (.sl 32 (.pair (.int .i64) (.pair (.int .i64) (.unit)))) (.own .fr) r], [])⟩
theorem slices_Collect_impl_Angle_is : FnIs Go.Proofs.Try.prog 54 (modeOf []) (phi [slices_Collect_impl_Angle_s]) := collect_is ⟨Go.Proofs.Try.underlying26, by kernel_rfl, Go.Proofs.Try.isAgg26, Go.Proofs.Try.sizeOf26, Go.Proofs.Try.isAgg32, Go.Proofs.Try.sizeOf32, Go.Proofs.Try.zeroValue32⟩ (by decide) Go.Proofs.Try.underlying3 Go.Proofs.Try.underlying4 Go.Proofs.Try.func54 rfl rfl rfl rfl Go.Proofs.Try.func69 rfl rfl rfl rfl Go.Proofs.Try.func56 rfl rfl rfl rfl
noncomputable def impl_Angle_compare_code : Code := (Go.Proofs.Try.f45.body).getD .skip
def impl_Angle_compare_c : Cfg := ⟨45, [], [], [], []⟩
noncomputable def cmp_Compare_int64_code : Code := (Go.Proofs.Try.f57.body).getD .skip
def cmp_Compare_int64_c : Cfg := ⟨57, [], [], [], []⟩
noncomputable def cmp_isNaN_int64_code : Code := (Go.Proofs.Try.f72.body).getD .skip
def cmp_isNaN_int64_c : Cfg := ⟨72, [], [], [], []⟩
noncomputable def cmp_isNaN_int64_s : Spec := ⟨[.v (.int .i64) .fr], Bool, fun v => cmp_isNaN_int64 v.1, fun r => ([.v (.bool) .fr r], [])⟩
noncomputable def cmp_isNaN_int64_ls : List LSum := []
noncomputable def cmp_isNaN_int64_tab : List Row := []
theorem cmp_isNaN_int64_t : ∀ r, r ∈ cmp_isNaN_int64_tab → RowIs Go.Proofs.Try.prog r := tab_nil
theorem cmp_isNaN_int64_rs : RoundsOK (mkCtx Go.K.Link.seat cmp_isNaN_int64_c cmp_isNaN_int64_tab) (sums cmp_isNaN_int64_ls) (loopsOf 0 cmp_isNaN_int64_code) cmp_isNaN_int64_ls := trivial
theorem cmp_isNaN_int64_e : ∀ v, (evFn (mkCtx Go.K.Link.seat cmp_isNaN_int64_c cmp_isNaN_int64_tab) (sums cmp_isNaN_int64_ls) 72 Go.Proofs.Try.f72 (encL cmp_isNaN_int64_s.a v)).run = (cmp_isNaN_int64_s.gen v).bind fun y => some (cmp_isNaN_int64_s.out y) := by
  rintro ⟨x, _⟩
  show _ = (cmp_isNaN_int64 x).bind fun y : Bool => some (cmp_isNaN_int64_s.out y)
  simp only [cmp_isNaN_int64, kb_ite, kb_some, kb_none, kb_bind, kb_alt]
  kernel_rfl
theorem cmp_isNaN_int64_is : FnIs Go.Proofs.Try.prog 72 (modeOf []) (phi [cmp_isNaN_int64_s]) := spec_is (c := cmp_isNaN_int64_c) seatOK cmp_isNaN_int64_t Go.Proofs.Try.func72 rfl (code := cmp_isNaN_int64_code) rfl rfl cmp_isNaN_int64_rs cmp_isNaN_int64_e
noncomputable def cmp_Compare_int64_s : Spec := ⟨[.v (.int .i64) .fr, .v (.int .i64) .fr], Int, fun v => cmp_Compare_int64 v.1 v.2.1, fun r => ([.v (.int .i64) .fr r], [])⟩
noncomputable def cmp_Compare_int64_ls : List LSum := []
noncomputable def cmp_Compare_int64_tab : List Row := [⟨72, [], [cmp_isNaN_int64_s]⟩]
theorem cmp_Compare_int64_t : ∀ r, r ∈ cmp_Compare_int64_tab → RowIs Go.Proofs.Try.prog r := tab_cons (cmp_isNaN_int64_is) (tab_nil)
theorem cmp_Compare_int64_rs : RoundsOK (mkCtx Go.K.Link.seat cmp_Compare_int64_c cmp_Compare_int64_tab) (sums cmp_Compare_int64_ls) (loopsOf 0 cmp_Compare_int64_code) cmp_Compare_int64_ls := trivial
theorem cmp_Compare_int64_e : ∀ v, (evFn (mkCtx Go.K.Link.seat cmp_Compare_int64_c cmp_Compare_int64_tab) (sums cmp_Compare_int64_ls) 57 Go.Proofs.Try.f57 (encL cmp_Compare_int64_s.a v)).run = (cmp_Compare_int64_s.gen v).bind fun y => some (cmp_Compare_int64_s.out y) := by
  rintro ⟨x, ⟨y, _⟩⟩
  show _ = (cmp_Compare_int64 x y).bind fun y : Int => some (cmp_Compare_int64_s.out y)
  simp only [cmp_Compare_int64, kb_ite, kb_some, kb_none, kb_bind, kb_alt]
  kernel_rfl
theorem cmp_Compare_int64_is : FnIs Go.Proofs.Try.prog 57 (modeOf []) (phi [cmp_Compare_int64_s]) := spec_is (c := cmp_Compare_int64_c) seatOK cmp_Compare_int64_t Go.Proofs.Try.func57 rfl (code := cmp_Compare_int64_code) rfl rfl cmp_Compare_int64_rs cmp_Compare_int64_e
noncomputable def impl_Angle_compare_s : Spec := ⟨[.v (.pair (.int .i64) (.pair (.int .i64) (.unit))) .fr, .v (.pair (.int .i64) (.pair (.int .i64) (.unit))) .fr], Int, fun v => impl_Angle_compare v.1 v.2.1, fun r => ([.v (.int .i64) .fr r], [])⟩
noncomputable def impl_Angle_compare_ls : List LSum := []
noncomputable def impl_Angle_compare_tab : List Row := [⟨57, [], [cmp_Compare_int64_s]⟩]
theorem impl_Angle_compare_t : ∀ r, r ∈ impl_Angle_compare_tab → RowIs Go.Proofs.Try.prog r := tab_cons (cmp_Compare_int64_is) (tab_nil)
theorem impl_Angle_compare_rs : RoundsOK (mkCtx Go.K.Link.seat impl_Angle_compare_c impl_Angle_compare_tab) (sums impl_Angle_compare_ls) (loopsOf 0 impl_Angle_compare_code) impl_Angle_compare_ls := trivial
theorem impl_Angle_compare_e : ∀ v, (evFn (mkCtx Go.K.Link.seat impl_Angle_compare_c impl_Angle_compare_tab) (sums impl_Angle_compare_ls) 45 Go.Proofs.Try.f45 (encL impl_Angle_compare_s.a v)).run = (impl_Angle_compare_s.gen v).bind fun y => some (impl_Angle_compare_s.out y) := by
  rintro ⟨a, ⟨b, _⟩⟩
  show _ = (impl_Angle_compare a b).bind fun y : Int => some (impl_Angle_compare_s.out y)
  simp only [impl_Angle_compare, kb_ite, kb_some, kb_none, kb_bind, kb_alt]
  kernel_rfl
theorem impl_Angle_compare_is : FnIs Go.Proofs.Try.prog 45 (modeOf []) (phi [impl_Angle_compare_s]) := spec_is (c := impl_Angle_compare_c) seatOK impl_Angle_compare_t Go.Proofs.Try.func45 rfl (code := impl_Angle_compare_code) rfl rfl impl_Angle_compare_rs impl_Angle_compare_e
noncomputable def slices_SortFunc__impl_Angle_impl_Angle_s : Spec := ⟨[.v (.sl 32 (.pair (.int .i64) (.pair (.int .i64) (.unit)))) (.own .fr), .fn 45 [] []], List (Int × (Int × Unit)), fun v => slices_SortFunc__impl_Angle_impl_Angle v.1, fun r => ([], [.v (.sl 32 (.pair (.int .i64) (.pair (.int .i64) (.unit)))) (.own .fr) r])⟩
theorem slices_SortFunc__impl_Angle_impl_Angle_is : FnIs Go.Proofs.Try.prog 55 (modeOf [.mut]) (phi [slices_SortFunc__impl_Angle_impl_Angle_s]) := sortFunc_is (cs := []) (cf := fun c x y => impl_Angle_compare x y ) Go.Proofs.Try.sortL55 ⟨_, Go.Proofs.Try.func55, rfl, rfl⟩ (T := 32) (e := (.pair (.int .i64) (.pair (.int .i64) (.unit)))) rfl rfl Go.Proofs.Try.isAgg32 Go.Proofs.Try.sizeOf32 impl_Angle_compare_is (fun c x y r h => by
  have e : (phi [impl_Angle_compare_s] (.v (.pair (.int .i64) (.pair (.int .i64) (.unit))) .fr x :: .v (.pair (.int .i64) (.pair (.int .i64) (.unit))) .fr y :: encL [] c)).run = (impl_Angle_compare x y ).bind fun r => some ([.v (.int .i64) .fr r], []) := by kernel_rfl
  rw [e]
  show (impl_Angle_compare x y ).bind _ = _
  rw [show impl_Angle_compare x y  = some r from h]
  rfl)
noncomputable def slices_SortedFunc_impl_Angle_s : Spec := ⟨[.fn 56 [] [.v (.ptr (.sl 32 (.pair (.int .i64) (.pair (.int .i64) (.unit))))) .fr], .fn 45 [] []], (List (Int × (Int × Unit))), fun v => slices_SortedFunc_impl_Angle v.1.2.1, fun r => ([.v (.sl 32 (.pair (.int .i64) (.pair (.int .i64) (.unit)))) (.own .fr) r], [])⟩
noncomputable def slices_SortedFunc_impl_Angle_ls : List LSum := []
noncomputable def slices_SortedFunc_impl_Angle_tab : List Row := [⟨54, [], [slices_Collect_impl_Angle_s]⟩, ⟨55, [.mut], [slices_SortFunc__impl_Angle_impl_Angle_s]⟩]
theorem slices_SortedFunc_impl_Angle_t : ∀ r, r ∈ slices_SortedFunc_impl_Angle_tab → RowIs Go.Proofs.Try.prog r := tab_cons (slices_Collect_impl_Angle_is) (tab_cons (slices_SortFunc__impl_Angle_impl_Angle_is) (tab_nil))
theorem slices_SortedFunc_impl_Angle_rs : RoundsOK (mkCtx Go.K.Link.seat slices_SortedFunc_impl_Angle_c slices_SortedFunc_impl_Angle_tab) (sums slices_SortedFunc_impl_Angle_ls) (loopsOf 0 slices_SortedFunc_impl_Angle_code) slices_SortedFunc_impl_Angle_ls := trivial
theorem slices_SortedFunc_impl_Angle_e : ∀ v, (evFn (mkCtx Go.K.Link.seat slices_SortedFunc_impl_Angle_c slices_SortedFunc_impl_Angle_tab) (sums slices_SortedFunc_impl_Angle_ls) 43 Go.Proofs.Try.f43 (encL slices_SortedFunc_impl_Angle_s.a v)).run = (slices_SortedFunc_impl_Angle_s.gen v).bind fun y => some (slices_SortedFunc_impl_Angle_s.out y) := by
  rintro ⟨⟨_, ⟨seq_0, _⟩⟩, ⟨⟨_, _⟩, _⟩⟩
  show _ = (slices_SortedFunc_impl_Angle seq_0).bind fun y : (List (Int × (Int × Unit))) => some (slices_SortedFunc_impl_Angle_s.out y)
  simp only [slices_SortedFunc_impl_Angle, kb_ite, kb_some, kb_none, kb_bind, kb_alt]
  kernel_rfl
theorem slices_SortedFunc_impl_Angle_is : FnIs Go.Proofs.Try.prog 43 (modeOf []) (phi [slices_SortedFunc_impl_Angle_s]) := spec_is (c := slices_SortedFunc_impl_Angle_c) seatOK slices_SortedFunc_impl_Angle_t Go.Proofs.Try.func43 rfl (code := slices_SortedFunc_impl_Angle_code) rfl rfl slices_SortedFunc_impl_Angle_rs slices_SortedFunc_impl_Angle_e
noncomputable def slices_Compact__impl_Angle_impl_Angle_code : Code := (Go.Proofs.Try.f42.body).getD .skip
def slices_Compact__impl_Angle_impl_Angle_c : Cfg := ⟨42, [.own], [[0, 3, 9, 57, 59, 60], [0, 9, 57, 59], [0, 2, 9, 57, 59, 60], [], [], [], [0, 3, 4, 5, 9, 26, 28, 60], [0, 3, 9, 60], [0, 2, 9, 57, 59, 60]], [], []⟩
noncomputable def slices_Compact__impl_Angle_impl_Angle_l1_s : LSum := ⟨2, ⟨[(0, .val (.sl 32 (.pair (.int .i64) (.pair (.int .i64) (.unit)))) (.own .fr)), (2, .val (.int .i64) .fr), (0, .win 0 []), (0, .val (.int .i64) .fr), (20, .sref 0 []), (1, .win 0 [])], 32⟩, (.exit 2, ⟨[(0, .val (.sl 32 (.pair (.int .i64) (.pair (.int .i64) (.unit)))) (.own .fr)), (2, .val (.int .i64) .fr)], 57⟩), [], slices_Compact__impl_Angle_impl_Angle_l1⟩
noncomputable def slices_Compact__impl_Angle_impl_Angle_l0_s : LSum := ⟨0, ⟨[(0, .val (.sl 32 (.pair (.int .i64) (.pair (.int .i64) (.unit)))) (.own .fr)), (2, .val (.int .i64) .fr)], 57⟩, (.ret, ⟨[(0, .val (.sl 32 (.pair (.int .i64) (.pair (.int .i64) (.unit)))) (.own .fr)), (1, .win 0 []), (54, .sref 0 []), (1, .win 0 [])], 1⟩), [(.exit 0, ⟨[(0, .val (.sl 32 (.pair (.int .i64) (.pair (.int .i64) (.unit)))) (.own .fr))], 60⟩)], slices_Compact__impl_Angle_impl_Angle_l0⟩
noncomputable def slices_Compact__impl_Angle_impl_Angle_s : Spec := ⟨[.v (.sl 32 (.pair (.int .i64) (.pair (.int .i64) (.unit)))) (.own .fr)], (List (Int × (Int × Unit))), fun v => slices_Compact__impl_Angle_impl_Angle v.1, fun r => ([.v (.sl 32 (.pair (.int .i64) (.pair (.int .i64) (.unit)))) (.own .fr) r], [])⟩
noncomputable def slices_Compact__impl_Angle_impl_Angle_ls : List LSum := [slices_Compact__impl_Angle_impl_Angle_l0_s, slices_Compact__impl_Angle_impl_Angle_l1_s]
noncomputable def slices_Compact__impl_Angle_impl_Angle_tab : List Row := []
theorem slices_Compact__impl_Angle_impl_Angle_t : ∀ r, r ∈ slices_Compact__impl_Angle_impl_Angle_tab → RowIs Go.Proofs.Try.prog r := tab_nil
theorem slices_Compact__impl_Angle_impl_Angle_l0_r : RoundIs (mkCtx Go.K.Link.seat slices_Compact__impl_Angle_impl_Angle_c slices_Compact__impl_Angle_impl_Angle_tab) (sums slices_Compact__impl_Angle_impl_Angle_ls) 0 (bodyAt (loopsOf 0 slices_Compact__impl_Angle_impl_Angle_code) 0) slices_Compact__impl_Angle_impl_Angle_l0_s := by
  rintro ⟨s, ⟨k, _⟩⟩
  show _ = (slices_Compact__impl_Angle_impl_Angle_l0 (s, (k, ()))).bind fun r : (Ctl ((List (Int × (Int × Unit))) × Int × Unit) (((List (Int × (Int × Unit))) × Nat × Nat × Nat × Nat × Unit) ⊕ ((List (Int × (Int × Unit))) × Unit))) => some (ctlVal slices_Compact__impl_Angle_impl_Angle_l0_s r)
  simp only [slices_Compact__impl_Angle_impl_Angle_l0, kb_ite, kb_some, kb_none, kb_bind, kb_alt]
  kernel_rfl
theorem slices_Compact__impl_Angle_impl_Angle_l1_r : RoundIs (mkCtx Go.K.Link.seat slices_Compact__impl_Angle_impl_Angle_c slices_Compact__impl_Angle_impl_Angle_tab) (sums slices_Compact__impl_Angle_impl_Angle_ls) 2 (bodyAt (loopsOf 0 slices_Compact__impl_Angle_impl_Angle_code) 1) slices_Compact__impl_Angle_impl_Angle_l1_s := by
  rintro ⟨s, ⟨k, ⟨s2_0, s2_1, ⟨k2, ⟨t28_0, t28_1, _⟩⟩⟩⟩⟩
  show _ = (slices_Compact__impl_Angle_impl_Angle_l1 (s, (k, (s2_0, s2_1, (k2, (t28_0, t28_1, ())))))).bind fun r : (Ctl ((List (Int × (Int × Unit))) × Int × Nat × Nat × Int × Nat × Nat × Unit) (((List (Int × (Int × Unit))) × Int × Unit))) => some (ctlVal slices_Compact__impl_Angle_impl_Angle_l1_s r)
  simp only [slices_Compact__impl_Angle_impl_Angle_l1, kb_ite, kb_some, kb_none, kb_bind, kb_alt]
  kernel_rfl
theorem slices_Compact__impl_Angle_impl_Angle_rs : RoundsOK (mkCtx Go.K.Link.seat slices_Compact__impl_Angle_impl_Angle_c slices_Compact__impl_Angle_impl_Angle_tab) (sums slices_Compact__impl_Angle_impl_Angle_ls) (loopsOf 0 slices_Compact__impl_Angle_impl_Angle_code) slices_Compact__impl_Angle_impl_Angle_ls := ⟨⟨rfl, rfl, slices_Compact__impl_Angle_impl_Angle_l0_r⟩, ⟨⟨rfl, rfl, slices_Compact__impl_Angle_impl_Angle_l1_r⟩, trivial⟩⟩
theorem slices_Compact__impl_Angle_impl_Angle_e : ∀ v, (evFn (mkCtx Go.K.Link.seat slices_Compact__impl_Angle_impl_Angle_c slices_Compact__impl_Angle_impl_Angle_tab) (sums slices_Compact__impl_Angle_impl_Angle_ls) 42 Go.Proofs.Try.f42 (encL slices_Compact__impl_Angle_impl_Angle_s.a v)).run = (slices_Compact__impl_Angle_impl_Angle_s.gen v).bind fun y => some (slices_Compact__impl_Angle_impl_Angle_s.out y) := by
  rintro ⟨s, _⟩
  show _ = (slices_Compact__impl_Angle_impl_Angle s).bind fun y : (List (Int × (Int × Unit))) => some (slices_Compact__impl_Angle_impl_Angle_s.out y)
  simp only [slices_Compact__impl_Angle_impl_Angle, kb_ite, kb_some, kb_none, kb_bind, kb_alt]
  kernel_rfl
theorem slices_Compact__impl_Angle_impl_Angle_is : FnIs Go.Proofs.Try.prog 42 (modeOf [.own]) (phi [slices_Compact__impl_Angle_impl_Angle_s]) := spec_is (c := slices_Compact__impl_Angle_impl_Angle_c) seatOK slices_Compact__impl_Angle_impl_Angle_t Go.Proofs.Try.func42 rfl (code := slices_Compact__impl_Angle_impl_Angle_code) rfl rfl slices_Compact__impl_Angle_impl_Angle_rs slices_Compact__impl_Angle_impl_Angle_e
noncomputable def impl_sorted_s : Spec := ⟨[.v (.sl 32 (.pair (.int .i64) (.pair (.int .i64) (.unit)))) .fr], (List (Int × (Int × Unit))), fun v => impl_sorted v.1, fun r => ([.v (.sl 32 (.pair (.int .i64) (.pair (.int .i64) (.unit)))) (.own .fr) r], [])⟩
noncomputable def impl_sorted_ls : List LSum := []
noncomputable def impl_sorted_tab : List Row := [⟨42, [.own], [slices_Compact__impl_Angle_impl_Angle_s]⟩, ⟨43, [], [slices_SortedFunc_impl_Angle_s]⟩, ⟨44, [], [slices_Values__impl_Angle_impl_Angle_s]⟩]
theorem impl_sorted_t : ∀ r, r ∈ impl_sorted_tab → RowIs Go.Proofs.Try.prog r := tab_cons (slices_Compact__impl_Angle_impl_Angle_is) (tab_cons (slices_SortedFunc_impl_Angle_is) (tab_cons (slices_Values__impl_Angle_impl_Angle_is) (tab_nil)))
theorem impl_sorted_rs : RoundsOK (mkCtx Go.K.Link.seat impl_sorted_c impl_sorted_tab) (sums impl_sorted_ls) (loopsOf 0 impl_sorted_code) impl_sorted_ls := trivial
theorem impl_sorted_e : ∀ v, (evFn (mkCtx Go.K.Link.seat impl_sorted_c impl_sorted_tab) (sums impl_sorted_ls) 19 Go.Proofs.Try.f19 (encL impl_sorted_s.a v)).run = (impl_sorted_s.gen v).bind fun y => some (impl_sorted_s.out y) := by
  rintro ⟨list, _⟩
  show _ = (impl_sorted list).bind fun y : (List (Int × (Int × Unit))) => some (impl_sorted_s.out y)
  simp only [impl_sorted, kb_ite, kb_some, kb_none, kb_bind, kb_alt]
  kernel_rfl
theorem impl_sorted_is : FnIs Go.Proofs.Try.prog 19 (modeOf []) (phi [impl_sorted_s]) := spec_is (c := impl_sorted_c) seatOK impl_sorted_t Go.Proofs.Try.func19 rfl (code := impl_sorted_code) rfl rfl impl_sorted_rs impl_sorted_e
noncomputable def impl_RotationSet_s : Spec := ⟨[.v (.int .i64) .fr, .v (.int .i64) .fr], (List (Int × (Int × Unit))) × Int, fun v => impl_RotationSet v.1 v.2.1, fun r => ([.v (.sl 32 (.pair (.int .i64) (.pair (.int .i64) (.unit)))) (.own .fr) r.1, .v (.int .i64) .fr r.2], [])⟩
noncomputable def impl_RotationSet_ls : List LSum := [impl_RotationSet_l0_s, impl_RotationSet_l1_s]
noncomputable def impl_RotationSet_tab : List Row := [⟨16, [], [impl_within_s]⟩, ⟨17, [], [impl_divisor_s]⟩, ⟨18, [], [impl_angle_s]⟩, ⟨19, [], [impl_sorted_s]⟩]
theorem impl_RotationSet_t : ∀ r, r ∈ impl_RotationSet_tab → RowIs Go.Proofs.Try.prog r := tab_cons (impl_within_is) (tab_cons (impl_divisor_is) (tab_cons (impl_angle_is) (tab_cons (impl_sorted_is) (tab_nil))))
theorem impl_RotationSet_l0_r : RoundIs (mkCtx Go.K.Link.seat impl_RotationSet_c impl_RotationSet_tab) (sums impl_RotationSet_ls) 0 (bodyAt (loopsOf 0 impl_RotationSet_code) 0) impl_RotationSet_l0_s := by
  rintro ⟨q, ⟨v, ⟨out, ⟨t26, ⟨t27, _⟩⟩⟩⟩⟩
  show _ = (impl_RotationSet_l0 (q, (v, (out, (t26, (t27, ())))))).bind fun r : (Ctl (Int × Int × (List (Int × (Int × Unit))) × Int × Int × Unit) (((List (Int × (Int × Unit))) × Unit))) => some (ctlVal impl_RotationSet_l0_s r)
  simp only [impl_RotationSet_l0, kb_ite, kb_some, kb_none, kb_bind, kb_alt]
  kernel_rfl
theorem impl_RotationSet_l1_r : RoundIs (mkCtx Go.K.Link.seat impl_RotationSet_c impl_RotationSet_tab) (sums impl_RotationSet_ls) 2 (bodyAt (loopsOf 0 impl_RotationSet_code) 1) impl_RotationSet_l1_s := by
  rintro ⟨q, ⟨v, ⟨out, ⟨k, ⟨num, ⟨t26, ⟨t27, ⟨t30, ⟨t31, _⟩⟩⟩⟩⟩⟩⟩⟩⟩
  show _ = (impl_RotationSet_l1 (q, (v, (out, (k, (num, (t26, (t27, (t30, (t31, ())))))))))).bind fun r : (Ctl (Int × Int × (List (Int × (Int × Unit))) × Int × Int × Int × Int × Int × Int × Unit) ((Int × Int × (List (Int × (Int × Unit))) × Int × Int × Int × Unit))) => some (ctlVal impl_RotationSet_l1_s r)
  simp only [impl_RotationSet_l1, kb_ite, kb_some, kb_none, kb_bind, kb_alt]
  kernel_rfl
theorem impl_RotationSet_rs : RoundsOK (mkCtx Go.K.Link.seat impl_RotationSet_c impl_RotationSet_tab) (sums impl_RotationSet_ls) (loopsOf 0 impl_RotationSet_code) impl_RotationSet_ls := ⟨⟨rfl, rfl, impl_RotationSet_l0_r⟩, ⟨⟨rfl, rfl, impl_RotationSet_l1_r⟩, trivial⟩⟩
theorem impl_RotationSet_e : ∀ v, (evFn (mkCtx Go.K.Link.seat impl_RotationSet_c impl_RotationSet_tab) (sums impl_RotationSet_ls) 6 Go.Proofs.Try.f6 (encL impl_RotationSet_s.a v)).run = (impl_RotationSet_s.gen v).bind fun y => some (impl_RotationSet_s.out y) := by
  rintro ⟨q, ⟨v, _⟩⟩
  show _ = (impl_RotationSet q v).bind fun y : (List (Int × (Int × Unit))) × Int => some (impl_RotationSet_s.out y)
  simp only [impl_RotationSet, kb_ite, kb_some, kb_none, kb_bind, kb_alt]
  kernel_rfl
theorem impl_RotationSet_is : FnIs Go.Proofs.Try.prog 6 (modeOf []) (phi [impl_RotationSet_s]) := spec_is (c := impl_RotationSet_c) seatOK impl_RotationSet_t Go.Proofs.Try.func6 rfl (code := impl_RotationSet_code) rfl rfl impl_RotationSet_rs impl_RotationSet_e
noncomputable def spec_RotationSet_code : Code := (Go.Proofs.Try.f7.body).getD .skip
def spec_RotationSet_c : Cfg := ⟨7, [], [], [], []⟩
noncomputable def spec_l01In_code : Code := (Go.Proofs.Try.f20.body).getD .skip
def spec_l01In_c : Cfg := ⟨20, [], [], [], []⟩
noncomputable def spec_l01In_s : Spec := ⟨[.v (.int .i64) .fr, .v (.int .i64) .fr, .v (.int .i64) .fr], Bool, fun v => spec_l01In v.1 v.2.1 v.2.2.1, fun r => ([.v (.bool) .fr r], [])⟩
noncomputable def spec_l01In_ls : List LSum := []
noncomputable def spec_l01In_tab : List Row := []
theorem spec_l01In_t : ∀ r, r ∈ spec_l01In_tab → RowIs Go.Proofs.Try.prog r := tab_nil
theorem spec_l01In_rs : RoundsOK (mkCtx Go.K.Link.seat spec_l01In_c spec_l01In_tab) (sums spec_l01In_ls) (loopsOf 0 spec_l01In_code) spec_l01In_ls := trivial
theorem spec_l01In_e : ∀ v, (evFn (mkCtx Go.K.Link.seat spec_l01In_c spec_l01In_tab) (sums spec_l01In_ls) 20 Go.Proofs.Try.f20 (encL spec_l01In_s.a v)).run = (spec_l01In_s.gen v).bind fun y => some (spec_l01In_s.out y) := by
  rintro ⟨n, ⟨low, ⟨high, _⟩⟩⟩
  show _ = (spec_l01In n low high).bind fun y : Bool => some (spec_l01In_s.out y)
  simp only [spec_l01In, kb_ite, kb_some, kb_none, kb_bind, kb_alt]
  kernel_rfl
theorem spec_l01In_is : FnIs Go.Proofs.Try.prog 20 (modeOf []) (phi [spec_l01In_s]) := spec_is (c := spec_l01In_c) seatOK spec_l01In_t Go.Proofs.Try.func20 rfl (code := spec_l01In_code) rfl rfl spec_l01In_rs spec_l01In_e
noncomputable def spec_l01Divisor_code : Code := (Go.Proofs.Try.f21.body).getD .skip
def spec_l01Divisor_c : Cfg := ⟨21, [], [[0, 1], [0], [4]], [], []⟩
noncomputable def spec_l01Divisor_l0_s : LSum := ⟨0, ⟨[(0, .val (.int .i64) .fr), (0, .val (.int .i64) .fr)], 12⟩, (.exit 0, ⟨[(0, .val (.int .i64) .fr)], 13⟩), [], spec_l01Divisor_l0⟩
noncomputable def spec_l01Divisor_s : Spec := ⟨[.v (.int .i64) .fr, .v (.int .i64) .fr], Int, fun v => spec_l01Divisor v.1 v.2.1, fun r => ([.v (.int .i64) .fr r], [])⟩
noncomputable def spec_l01Divisor_ls : List LSum := [spec_l01Divisor_l0_s]
noncomputable def spec_l01Divisor_tab : List Row := []
theorem spec_l01Divisor_t : ∀ r, r ∈ spec_l01Divisor_tab → RowIs Go.Proofs.Try.prog r := tab_nil
theorem spec_l01Divisor_l0_r : RoundIs (mkCtx Go.K.Link.seat spec_l01Divisor_c spec_l01Divisor_tab) (sums spec_l01Divisor_ls) 0 (bodyAt (loopsOf 0 spec_l01Divisor_code) 0) spec_l01Divisor_l0_s := by
  rintro ⟨a, ⟨b, _⟩⟩
  show _ = (spec_l01Divisor_l0 (a, (b, ()))).bind fun r : (Ctl (Int × Int × Unit) ((Int × Unit))) => some (ctlVal spec_l01Divisor_l0_s r)
  simp only [spec_l01Divisor_l0, kb_ite, kb_some, kb_none, kb_bind, kb_alt]
  kernel_rfl
theorem spec_l01Divisor_rs : RoundsOK (mkCtx Go.K.Link.seat spec_l01Divisor_c spec_l01Divisor_tab) (sums spec_l01Divisor_ls) (loopsOf 0 spec_l01Divisor_code) spec_l01Divisor_ls := ⟨⟨rfl, rfl, spec_l01Divisor_l0_r⟩, trivial⟩
theorem spec_l01Divisor_e : ∀ v, (evFn (mkCtx Go.K.Link.seat spec_l01Divisor_c spec_l01Divisor_tab) (sums spec_l01Divisor_ls) 21 Go.Proofs.Try.f21 (encL spec_l01Divisor_s.a v)).run = (spec_l01Divisor_s.gen v).bind fun y => some (spec_l01Divisor_s.out y) := by
  rintro ⟨a, ⟨b, _⟩⟩
  show _ = (spec_l01Divisor a b).bind fun y : Int => some (spec_l01Divisor_s.out y)
  simp only [spec_l01Divisor, kb_ite, kb_some, kb_none, kb_bind, kb_alt]
  kernel_rfl
theorem spec_l01Divisor_is : FnIs Go.Proofs.Try.prog 21 (modeOf []) (phi [spec_l01Divisor_s]) := spec_is (c := spec_l01Divisor_c) seatOK spec_l01Divisor_t Go.Proofs.Try.func21 rfl (code := spec_l01Divisor_code) rfl rfl spec_l01Divisor_rs spec_l01Divisor_e
noncomputable def spec_l07Rotation_code : Code := (Go.Proofs.Try.f22.body).getD .skip
def spec_l07Rotation_c : Cfg := ⟨22, [], [[0, 1, 5, 6, 10, 43], [5, 10, 43], [4, 5, 10, 43, 44], [], [], [], [0, 1, 5, 6, 7, 8, 9, 10, 43], [0, 1, 5, 6, 7, 8, 10, 43], [4, 5, 10, 43, 44]], [], []⟩
noncomputable def spec_l07Rotation_l1_s : LSum := ⟨2, ⟨[(0, .val (.int .i64) .fr), (0, .val (.int .i64) .fr), (3, .val (.sl 32 (.pair (.int .i64) (.pair (.int .i64) (.unit)))) (.own .fr)), (0, .val (.int .i64) .fr), (0, .val (.int .i64) .fr), (0, .val (.int .i64) .fr), (0, .val (.int .i64) .fr)], 35⟩, (.exit 2, ⟨[(0, .val (.int .i64) .fr), (0, .val (.int .i64) .fr), (3, .val (.sl 32 (.pair (.int .i64) (.pair (.int .i64) (.unit)))) (.own .fr)), (0, .val (.int .i64) .fr), (0, .val (.int .i64) .fr), (0, .val (.int .i64) .fr)], 36⟩), [], spec_l07Rotation_l1⟩
noncomputable def spec_l01Of_code : Code := (Go.Proofs.Try.f46.body).getD .skip
def spec_l01Of_c : Cfg := ⟨46, [], [], [], []⟩
noncomputable def spec_l01Of_s : Spec := ⟨[.v (.int .i64) .fr, .v (.int .i64) .fr], (Int × (Int × Unit)), fun v => spec_l01Of v.1 v.2.1, fun r => ([.v (.pair (.int .i64) (.pair (.int .i64) (.unit))) .fr r], [])⟩
noncomputable def spec_l01Of_ls : List LSum := []
noncomputable def spec_l01Of_tab : List Row := [⟨21, [], [spec_l01Divisor_s]⟩]
theorem spec_l01Of_t : ∀ r, r ∈ spec_l01Of_tab → RowIs Go.Proofs.Try.prog r := tab_cons (spec_l01Divisor_is) (tab_nil)
theorem spec_l01Of_rs : RoundsOK (mkCtx Go.K.Link.seat spec_l01Of_c spec_l01Of_tab) (sums spec_l01Of_ls) (loopsOf 0 spec_l01Of_code) spec_l01Of_ls := trivial
theorem spec_l01Of_e : ∀ v, (evFn (mkCtx Go.K.Link.seat spec_l01Of_c spec_l01Of_tab) (sums spec_l01Of_ls) 46 Go.Proofs.Try.f46 (encL spec_l01Of_s.a v)).run = (spec_l01Of_s.gen v).bind fun y => some (spec_l01Of_s.out y) := by
  rintro ⟨num, ⟨den, _⟩⟩
  show _ = (spec_l01Of num den).bind fun y : (Int × (Int × Unit)) => some (spec_l01Of_s.out y)
  simp only [spec_l01Of, kb_ite, kb_some, kb_none, kb_bind, kb_alt]
  kernel_rfl
theorem spec_l01Of_is : FnIs Go.Proofs.Try.prog 46 (modeOf []) (phi [spec_l01Of_s]) := spec_is (c := spec_l01Of_c) seatOK spec_l01Of_t Go.Proofs.Try.func46 rfl (code := spec_l01Of_code) rfl rfl spec_l01Of_rs spec_l01Of_e
noncomputable def spec_l01Insert_code : Code := (Go.Proofs.Try.f33.body).getD .skip
def spec_l01Insert_c : Cfg := ⟨33, [.own], [[0, 3, 5, 33, 46], [0, 3, 5, 33, 46], [0, 4, 33, 46]], [], []⟩
noncomputable def spec_l01Less_code : Code := (Go.Proofs.Try.f52.body).getD .skip
def spec_l01Less_c : Cfg := ⟨52, [], [], [], []⟩
noncomputable def spec_l01Less_s : Spec := ⟨[.v (.pair (.int .i64) (.pair (.int .i64) (.unit))) .fr, .v (.pair (.int .i64) (.pair (.int .i64) (.unit))) .fr], Bool, fun v => spec_l01Less v.1 v.2.1, fun r => ([.v (.bool) .fr r], [])⟩
noncomputable def spec_l01Less_ls : List LSum := []
noncomputable def spec_l01Less_tab : List Row := []
theorem spec_l01Less_t : ∀ r, r ∈ spec_l01Less_tab → RowIs Go.Proofs.Try.prog r := tab_nil
theorem spec_l01Less_rs : RoundsOK (mkCtx Go.K.Link.seat spec_l01Less_c spec_l01Less_tab) (sums spec_l01Less_ls) (loopsOf 0 spec_l01Less_code) spec_l01Less_ls := trivial
theorem spec_l01Less_e : ∀ v, (evFn (mkCtx Go.K.Link.seat spec_l01Less_c spec_l01Less_tab) (sums spec_l01Less_ls) 52 Go.Proofs.Try.f52 (encL spec_l01Less_s.a v)).run = (spec_l01Less_s.gen v).bind fun y => some (spec_l01Less_s.out y) := by
  rintro ⟨a, ⟨b, _⟩⟩
  show _ = (spec_l01Less a b).bind fun y : Bool => some (spec_l01Less_s.out y)
  simp only [spec_l01Less, kb_ite, kb_some, kb_none, kb_bind, kb_alt]
  kernel_rfl
theorem spec_l01Less_is : FnIs Go.Proofs.Try.prog 52 (modeOf []) (phi [spec_l01Less_s]) := spec_is (c := spec_l01Less_c) seatOK spec_l01Less_t Go.Proofs.Try.func52 rfl (code := spec_l01Less_code) rfl rfl spec_l01Less_rs spec_l01Less_e
noncomputable def spec_l01Insert_l0_s : LSum := ⟨0, ⟨[(0, .val (.sl 32 (.pair (.int .i64) (.pair (.int .i64) (.unit)))) (.own .fr)), (2, .val (.ptr (.pair (.int .i64) (.pair (.int .i64) (.unit)))) (.own .fr)), (1, .val (.int .i64) .fr)], 41⟩, (.exit 0, ⟨[(0, .val (.sl 32 (.pair (.int .i64) (.pair (.int .i64) (.unit)))) (.own .fr)), (2, .val (.ptr (.pair (.int .i64) (.pair (.int .i64) (.unit)))) (.own .fr)), (1, .val (.int .i64) .fr)], 41⟩), [], spec_l01Insert_l0⟩
noncomputable def spec_l01Insert_s : Spec := ⟨[.v (.sl 32 (.pair (.int .i64) (.pair (.int .i64) (.unit)))) (.own .fr), .v (.pair (.int .i64) (.pair (.int .i64) (.unit))) .fr], (List (Int × (Int × Unit))), fun v => spec_l01Insert v.1 v.2.1, fun r => ([.v (.sl 32 (.pair (.int .i64) (.pair (.int .i64) (.unit)))) (.own .fr) r], [])⟩
noncomputable def spec_l01Insert_ls : List LSum := [spec_l01Insert_l0_s]
noncomputable def spec_l01Insert_tab : List Row := [⟨52, [], [spec_l01Less_s]⟩]
theorem spec_l01Insert_t : ∀ r, r ∈ spec_l01Insert_tab → RowIs Go.Proofs.Try.prog r := tab_cons (spec_l01Less_is) (tab_nil)
theorem spec_l01Insert_l0_r : RoundIs (mkCtx Go.K.Link.seat spec_l01Insert_c spec_l01Insert_tab) (sums spec_l01Insert_ls) 0 (bodyAt (loopsOf 0 spec_l01Insert_code) 0) spec_l01Insert_l0_s := by
  rintro ⟨list, ⟨a, ⟨at', _⟩⟩⟩
  show _ = (spec_l01Insert_l0 (list, (a, (at', ())))).bind fun r : (Ctl ((List (Int × (Int × Unit))) × ((Int × (Int × Unit))) × Int × Unit) (((List (Int × (Int × Unit))) × ((Int × (Int × Unit))) × Int × Unit))) => some (ctlVal spec_l01Insert_l0_s r)
  simp only [spec_l01Insert_l0, kb_ite, kb_some, kb_none, kb_bind, kb_alt]
  kernel_rfl
theorem spec_l01Insert_rs : RoundsOK (mkCtx Go.K.Link.seat spec_l01Insert_c spec_l01Insert_tab) (sums spec_l01Insert_ls) (loopsOf 0 spec_l01Insert_code) spec_l01Insert_ls := ⟨⟨rfl, rfl, spec_l01Insert_l0_r⟩, trivial⟩
theorem spec_l01Insert_e : ∀ v, (evFn (mkCtx Go.K.Link.seat spec_l01Insert_c spec_l01Insert_tab) (sums spec_l01Insert_ls) 33 Go.Proofs.Try.f33 (encL spec_l01Insert_s.a v)).run = (spec_l01Insert_s.gen v).bind fun y => some (spec_l01Insert_s.out y) := by
  rintro ⟨list, ⟨a, _⟩⟩
  show _ = (spec_l01Insert list a).bind fun y : (List (Int × (Int × Unit))) => some (spec_l01Insert_s.out y)
  simp only [spec_l01Insert, kb_ite, kb_some, kb_none, kb_bind, kb_alt]
  kernel_rfl
theorem spec_l01Insert_is : FnIs Go.Proofs.Try.prog 33 (modeOf [.own]) (phi [spec_l01Insert_s]) := spec_is (c := spec_l01Insert_c) seatOK spec_l01Insert_t Go.Proofs.Try.func33 rfl (code := spec_l01Insert_code) rfl rfl spec_l01Insert_rs spec_l01Insert_e
noncomputable def spec_l07Rotation_l0_s : LSum := ⟨0, ⟨[(0, .val (.int .i64) .fr), (0, .val (.int .i64) .fr), (3, .val (.sl 32 (.pair (.int .i64) (.pair (.int .i64) (.unit)))) (.own .fr)), (0, .val (.int .i64) .fr)], 38⟩, (.exit 0, ⟨[(5, .val (.sl 32 (.pair (.int .i64) (.pair (.int .i64) (.unit)))) (.own .fr))], 39⟩), [], spec_l07Rotation_l0⟩
noncomputable def spec_l07Rotation_s : Spec := ⟨[.v (.int .i64) .fr, .v (.int .i64) .fr], (List (Int × (Int × Unit))), fun v => spec_l07Rotation v.1 v.2.1, fun r => ([.v (.sl 32 (.pair (.int .i64) (.pair (.int .i64) (.unit)))) (.own .fr) r], [])⟩
noncomputable def spec_l07Rotation_ls : List LSum := [spec_l07Rotation_l0_s, spec_l07Rotation_l1_s]
noncomputable def spec_l07Rotation_tab : List Row := [⟨33, [.own], [spec_l01Insert_s]⟩, ⟨46, [], [spec_l01Of_s]⟩]
theorem spec_l07Rotation_t : ∀ r, r ∈ spec_l07Rotation_tab → RowIs Go.Proofs.Try.prog r := tab_cons (spec_l01Insert_is) (tab_cons (spec_l01Of_is) (tab_nil))
theorem spec_l07Rotation_l0_r : RoundIs (mkCtx Go.K.Link.seat spec_l07Rotation_c spec_l07Rotation_tab) (sums spec_l07Rotation_ls) 0 (bodyAt (loopsOf 0 spec_l07Rotation_code) 0) spec_l07Rotation_l0_s := by
  rintro ⟨q, ⟨v, ⟨out, ⟨k, _⟩⟩⟩⟩
  show _ = (spec_l07Rotation_l0 (q, (v, (out, (k, ()))))).bind fun r : (Ctl (Int × Int × (List (Int × (Int × Unit))) × Int × Unit) (((List (Int × (Int × Unit))) × Unit))) => some (ctlVal spec_l07Rotation_l0_s r)
  simp only [spec_l07Rotation_l0, kb_ite, kb_some, kb_none, kb_bind, kb_alt]
  kernel_rfl
theorem spec_l07Rotation_l1_r : RoundIs (mkCtx Go.K.Link.seat spec_l07Rotation_c spec_l07Rotation_tab) (sums spec_l07Rotation_ls) 2 (bodyAt (loopsOf 0 spec_l07Rotation_code) 1) spec_l07Rotation_l1_s := by
  rintro ⟨q, ⟨v, ⟨out, ⟨k, ⟨num, ⟨den, ⟨i, _⟩⟩⟩⟩⟩⟩⟩
  show _ = (spec_l07Rotation_l1 (q, (v, (out, (k, (num, (den, (i, ())))))))).bind fun r : (Ctl (Int × Int × (List (Int × (Int × Unit))) × Int × Int × Int × Int × Unit) ((Int × Int × (List (Int × (Int × Unit))) × Int × Int × Int × Unit))) => some (ctlVal spec_l07Rotation_l1_s r)
  simp only [spec_l07Rotation_l1, kb_ite, kb_some, kb_none, kb_bind, kb_alt]
  kernel_rfl
theorem spec_l07Rotation_rs : RoundsOK (mkCtx Go.K.Link.seat spec_l07Rotation_c spec_l07Rotation_tab) (sums spec_l07Rotation_ls) (loopsOf 0 spec_l07Rotation_code) spec_l07Rotation_ls := ⟨⟨rfl, rfl, spec_l07Rotation_l0_r⟩, ⟨⟨rfl, rfl, spec_l07Rotation_l1_r⟩, trivial⟩⟩
theorem spec_l07Rotation_e : ∀ v, (evFn (mkCtx Go.K.Link.seat spec_l07Rotation_c spec_l07Rotation_tab) (sums spec_l07Rotation_ls) 22 Go.Proofs.Try.f22 (encL spec_l07Rotation_s.a v)).run = (spec_l07Rotation_s.gen v).bind fun y => some (spec_l07Rotation_s.out y) := by
  rintro ⟨q, ⟨v, _⟩⟩
  show _ = (spec_l07Rotation q v).bind fun y : (List (Int × (Int × Unit))) => some (spec_l07Rotation_s.out y)
  simp only [spec_l07Rotation, kb_ite, kb_some, kb_none, kb_bind, kb_alt]
  kernel_rfl
theorem spec_l07Rotation_is : FnIs Go.Proofs.Try.prog 22 (modeOf []) (phi [spec_l07Rotation_s]) := spec_is (c := spec_l07Rotation_c) seatOK spec_l07Rotation_t Go.Proofs.Try.func22 rfl (code := spec_l07Rotation_code) rfl rfl spec_l07Rotation_rs spec_l07Rotation_e
noncomputable def spec_RotationSet_s : Spec := ⟨[.v (.int .i64) .fr, .v (.int .i64) .fr], (List (Int × (Int × Unit))) × Int, fun v => spec_RotationSet v.1 v.2.1, fun r => ([.v (.sl 32 (.pair (.int .i64) (.pair (.int .i64) (.unit)))) (.own .fr) r.1, .v (.int .i64) .fr r.2], [])⟩
noncomputable def spec_RotationSet_ls : List LSum := []
noncomputable def spec_RotationSet_tab : List Row := [⟨20, [], [spec_l01In_s]⟩, ⟨21, [], [spec_l01Divisor_s]⟩, ⟨22, [], [spec_l07Rotation_s]⟩]
theorem spec_RotationSet_t : ∀ r, r ∈ spec_RotationSet_tab → RowIs Go.Proofs.Try.prog r := tab_cons (spec_l01In_is) (tab_cons (spec_l01Divisor_is) (tab_cons (spec_l07Rotation_is) (tab_nil)))
theorem spec_RotationSet_rs : RoundsOK (mkCtx Go.K.Link.seat spec_RotationSet_c spec_RotationSet_tab) (sums spec_RotationSet_ls) (loopsOf 0 spec_RotationSet_code) spec_RotationSet_ls := trivial
theorem spec_RotationSet_e : ∀ v, (evFn (mkCtx Go.K.Link.seat spec_RotationSet_c spec_RotationSet_tab) (sums spec_RotationSet_ls) 7 Go.Proofs.Try.f7 (encL spec_RotationSet_s.a v)).run = (spec_RotationSet_s.gen v).bind fun y => some (spec_RotationSet_s.out y) := by
  rintro ⟨q, ⟨v, _⟩⟩
  show _ = (spec_RotationSet q v).bind fun y : (List (Int × (Int × Unit))) × Int => some (spec_RotationSet_s.out y)
  simp only [spec_RotationSet, kb_ite, kb_some, kb_none, kb_bind, kb_alt]
  kernel_rfl
theorem spec_RotationSet_is : FnIs Go.Proofs.Try.prog 7 (modeOf []) (phi [spec_RotationSet_s]) := spec_is (c := spec_RotationSet_c) seatOK spec_RotationSet_t Go.Proofs.Try.func7 rfl (code := spec_RotationSet_code) rfl rfl spec_RotationSet_rs spec_RotationSet_e
noncomputable def laws_angles5_code : Code := (Go.Proofs.Try.f8.body).getD .skip
def laws_angles5_c : Cfg := ⟨8, [], [[0, 1, 5], [], [4]], [], []⟩
noncomputable def laws_angles5_l0_s : LSum := ⟨0, ⟨[(0, .val (.sl 32 (.pair (.int .i64) (.pair (.int .i64) (.unit)))) .fr), (0, .val (.sl 32 (.pair (.int .i64) (.pair (.int .i64) (.unit)))) .fr), (3, .val (.int .i64) .fr)], 20⟩, (.ret, ⟨[(4, .val (.bool) .fr)], 21⟩), [(.exit 0, ⟨[], 26⟩)], laws_angles5_l0⟩
noncomputable def laws_angles5_s : Spec := ⟨[.v (.sl 32 (.pair (.int .i64) (.pair (.int .i64) (.unit)))) .fr, .v (.sl 32 (.pair (.int .i64) (.pair (.int .i64) (.unit)))) .fr], Bool, fun v => laws_angles5 v.1 v.2.1, fun r => ([.v (.bool) .fr r], [])⟩
noncomputable def laws_angles5_ls : List LSum := [laws_angles5_l0_s]
noncomputable def laws_angles5_tab : List Row := []
theorem laws_angles5_t : ∀ r, r ∈ laws_angles5_tab → RowIs Go.Proofs.Try.prog r := tab_nil
theorem laws_angles5_l0_r : RoundIs (mkCtx Go.K.Link.seat laws_angles5_c laws_angles5_tab) (sums laws_angles5_ls) 0 (bodyAt (loopsOf 0 laws_angles5_code) 0) laws_angles5_l0_s := by
  rintro ⟨a, ⟨b, ⟨i, _⟩⟩⟩
  show _ = (laws_angles5_l0 (a, (b, (i, ())))).bind fun r : (Ctl ((List (Int × (Int × Unit))) × (List (Int × (Int × Unit))) × Int × Unit) ((Bool × Unit) ⊕ (Unit))) => some (ctlVal laws_angles5_l0_s r)
  simp only [laws_angles5_l0, kb_ite, kb_some, kb_none, kb_bind, kb_alt]
  kernel_rfl
theorem laws_angles5_rs : RoundsOK (mkCtx Go.K.Link.seat laws_angles5_c laws_angles5_tab) (sums laws_angles5_ls) (loopsOf 0 laws_angles5_code) laws_angles5_ls := ⟨⟨rfl, rfl, laws_angles5_l0_r⟩, trivial⟩
theorem laws_angles5_e : ∀ v, (evFn (mkCtx Go.K.Link.seat laws_angles5_c laws_angles5_tab) (sums laws_angles5_ls) 8 Go.Proofs.Try.f8 (encL laws_angles5_s.a v)).run = (laws_angles5_s.gen v).bind fun y => some (laws_angles5_s.out y) := by
  rintro ⟨a, ⟨b, _⟩⟩
  show _ = (laws_angles5 a b).bind fun y : Bool => some (laws_angles5_s.out y)
  simp only [laws_angles5, kb_ite, kb_some, kb_none, kb_bind, kb_alt]
  kernel_rfl
theorem laws_angles5_is : FnIs Go.Proofs.Try.prog 8 (modeOf []) (phi [laws_angles5_s]) := spec_is (c := laws_angles5_c) seatOK laws_angles5_t Go.Proofs.Try.func8 rfl (code := laws_angles5_code) rfl rfl laws_angles5_rs laws_angles5_e
noncomputable def impl_RotationOfSet_code : Code := (Go.Proofs.Try.f9.body).getD .skip
def impl_RotationOfSet_c : Cfg := ⟨9, [], [[0, 5, 30, 31, 32], [5], [2, 3]], [], []⟩
noncomputable def impl_anglesCode_code : Code := (Go.Proofs.Try.f23.body).getD .skip
def impl_anglesCode_c : Cfg := ⟨23, [], [], [], []⟩
noncomputable def impl_areAll_impl_Angle_code : Code := (Go.Proofs.Try.f47.body).getD .skip
def impl_areAll_impl_Angle_c : Cfg := ⟨47, [], [], [], []⟩
noncomputable def slices_ContainsFunc__impl_Angle_impl_Angle_code : Code := (Go.Proofs.Try.f58.body).getD .skip
def slices_ContainsFunc__impl_Angle_impl_Angle_c : Cfg := ⟨58, [], [], [], []⟩
noncomputable def slices_IndexFunc__impl_Angle_impl_Angle_code : Code := (Go.Proofs.Try.f73.body).getD .skip
def slices_IndexFunc__impl_Angle_impl_Angle_c : Cfg := ⟨73, [], [[0, 1, 7, 8], [], [4]], [], []⟩
noncomputable def impl_areAll_impl_Angle_f1_code : Code := (Go.Proofs.Try.f59.body).getD .skip
def impl_areAll_impl_Angle_f1_c : Cfg := ⟨59, [], [], [], []⟩
noncomputable def impl_IsAngle_code : Code := (Go.Proofs.Try.f48.body).getD .skip
def impl_IsAngle_c : Cfg := ⟨48, [], [], [], []⟩
noncomputable def impl_IsAngle_s : Spec := ⟨[.v (.pair (.int .i64) (.pair (.int .i64) (.unit))) .fr], Bool, fun v => impl_IsAngle v.1, fun r => ([.v (.bool) .fr r], [])⟩
noncomputable def impl_IsAngle_ls : List LSum := []
noncomputable def impl_IsAngle_tab : List Row := [⟨16, [], [impl_within_s]⟩, ⟨17, [], [impl_divisor_s]⟩]
theorem impl_IsAngle_t : ∀ r, r ∈ impl_IsAngle_tab → RowIs Go.Proofs.Try.prog r := tab_cons (impl_within_is) (tab_cons (impl_divisor_is) (tab_nil))
theorem impl_IsAngle_rs : RoundsOK (mkCtx Go.K.Link.seat impl_IsAngle_c impl_IsAngle_tab) (sums impl_IsAngle_ls) (loopsOf 0 impl_IsAngle_code) impl_IsAngle_ls := trivial
theorem impl_IsAngle_e : ∀ v, (evFn (mkCtx Go.K.Link.seat impl_IsAngle_c impl_IsAngle_tab) (sums impl_IsAngle_ls) 48 Go.Proofs.Try.f48 (encL impl_IsAngle_s.a v)).run = (impl_IsAngle_s.gen v).bind fun y => some (impl_IsAngle_s.out y) := by
  rintro ⟨a, _⟩
  show _ = (impl_IsAngle a).bind fun y : Bool => some (impl_IsAngle_s.out y)
  simp only [impl_IsAngle, kb_ite, kb_some, kb_none, kb_bind, kb_alt]
  kernel_rfl
theorem impl_IsAngle_is : FnIs Go.Proofs.Try.prog 48 (modeOf []) (phi [impl_IsAngle_s]) := spec_is (c := impl_IsAngle_c) seatOK impl_IsAngle_t Go.Proofs.Try.func48 rfl (code := impl_IsAngle_code) rfl rfl impl_IsAngle_rs impl_IsAngle_e
noncomputable def impl_areAll_impl_Angle_f1_s : Spec := ⟨[.v (.pair (.int .i64) (.pair (.int .i64) (.unit))) .fr, .pfn 48 [] []], Bool, fun v => impl_areAll_impl_Angle_f1 v.1, fun r => ([.v (.bool) .fr r], [])⟩
noncomputable def impl_areAll_impl_Angle_f1_ls : List LSum := []
noncomputable def impl_areAll_impl_Angle_f1_tab : List Row := [⟨48, [], [impl_IsAngle_s]⟩]
theorem impl_areAll_impl_Angle_f1_t : ∀ r, r ∈ impl_areAll_impl_Angle_f1_tab → RowIs Go.Proofs.Try.prog r := tab_cons (impl_IsAngle_is) (tab_nil)
theorem impl_areAll_impl_Angle_f1_rs : RoundsOK (mkCtx Go.K.Link.seat impl_areAll_impl_Angle_f1_c impl_areAll_impl_Angle_f1_tab) (sums impl_areAll_impl_Angle_f1_ls) (loopsOf 0 impl_areAll_impl_Angle_f1_code) impl_areAll_impl_Angle_f1_ls := trivial
theorem impl_areAll_impl_Angle_f1_e : ∀ v, (evFn (mkCtx Go.K.Link.seat impl_areAll_impl_Angle_f1_c impl_areAll_impl_Angle_f1_tab) (sums impl_areAll_impl_Angle_f1_ls) 59 Go.Proofs.Try.f59 (encL impl_areAll_impl_Angle_f1_s.a v)).run = (impl_areAll_impl_Angle_f1_s.gen v).bind fun y => some (impl_areAll_impl_Angle_f1_s.out y) := by
  rintro ⟨x, ⟨⟨_, _⟩, _⟩⟩
  show _ = (impl_areAll_impl_Angle_f1 x).bind fun y : Bool => some (impl_areAll_impl_Angle_f1_s.out y)
  simp only [impl_areAll_impl_Angle_f1, kb_ite, kb_some, kb_none, kb_bind, kb_alt]
  kernel_rfl
theorem impl_areAll_impl_Angle_f1_is : FnIs Go.Proofs.Try.prog 59 (modeOf []) (phi [impl_areAll_impl_Angle_f1_s]) := spec_is (c := impl_areAll_impl_Angle_f1_c) seatOK impl_areAll_impl_Angle_f1_t Go.Proofs.Try.func59 rfl (code := impl_areAll_impl_Angle_f1_code) rfl rfl impl_areAll_impl_Angle_f1_rs impl_areAll_impl_Angle_f1_e
noncomputable def slices_IndexFunc__impl_Angle_impl_Angle_l0_s : LSum := ⟨0, ⟨[(0, .val (.sl 32 (.pair (.int .i64) (.pair (.int .i64) (.unit)))) .fr), (0, .fnl 59 [] [.arg (.pfn 48 [] [])]), (5, .val (.int .i64) .fr), (0, .val (.int .i64) .fr)], 10⟩, (.ret, ⟨[(4, .val (.int .i64) .fr)], 14⟩), [(.exit 0, ⟨[], 19⟩)], slices_IndexFunc__impl_Angle_impl_Angle_l0⟩
noncomputable def slices_IndexFunc__impl_Angle_impl_Angle_s : Spec := ⟨[.v (.sl 32 (.pair (.int .i64) (.pair (.int .i64) (.unit)))) .fr, .fn 59 [] [.pfn 48 [] []]], Int, fun v => slices_IndexFunc__impl_Angle_impl_Angle v.1, fun r => ([.v (.int .i64) .fr r], [])⟩
noncomputable def slices_IndexFunc__impl_Angle_impl_Angle_ls : List LSum := [slices_IndexFunc__impl_Angle_impl_Angle_l0_s]
noncomputable def slices_IndexFunc__impl_Angle_impl_Angle_tab : List Row := [⟨59, [], [impl_areAll_impl_Angle_f1_s]⟩]
theorem slices_IndexFunc__impl_Angle_impl_Angle_t : ∀ r, r ∈ slices_IndexFunc__impl_Angle_impl_Angle_tab → RowIs Go.Proofs.Try.prog r := tab_cons (impl_areAll_impl_Angle_f1_is) (tab_nil)
theorem slices_IndexFunc__impl_Angle_impl_Angle_l0_r : RoundIs (mkCtx Go.K.Link.seat slices_IndexFunc__impl_Angle_impl_Angle_c slices_IndexFunc__impl_Angle_impl_Angle_tab) (sums slices_IndexFunc__impl_Angle_impl_Angle_ls) 0 (bodyAt (loopsOf 0 slices_IndexFunc__impl_Angle_impl_Angle_code) 0) slices_IndexFunc__impl_Angle_impl_Angle_l0_s := by
  rintro ⟨s, ⟨_, ⟨⟨_, _⟩, _⟩, ⟨t7, ⟨t8, _⟩⟩⟩⟩
  show _ = (slices_IndexFunc__impl_Angle_impl_Angle_l0 (s, ((), (((), ()), ()), (t7, (t8, ()))))).bind fun r : (Ctl ((List (Int × (Int × Unit))) × Unit × ((Unit × Unit) × Unit) × Int × Int × Unit) ((Int × Unit) ⊕ (Unit))) => some (ctlVal slices_IndexFunc__impl_Angle_impl_Angle_l0_s r)
  simp only [slices_IndexFunc__impl_Angle_impl_Angle_l0, kb_ite, kb_some, kb_none, kb_bind, kb_alt]
  kernel_rfl
theorem slices_IndexFunc__impl_Angle_impl_Angle_rs : RoundsOK (mkCtx Go.K.Link.seat slices_IndexFunc__impl_Angle_impl_Angle_c slices_IndexFunc__impl_Angle_impl_Angle_tab) (sums slices_IndexFunc__impl_Angle_impl_Angle_ls) (loopsOf 0 slices_IndexFunc__impl_Angle_impl_Angle_code) slices_IndexFunc__impl_Angle_impl_Angle_ls := ⟨⟨rfl, rfl, slices_IndexFunc__impl_Angle_impl_Angle_l0_r⟩, trivial⟩
theorem slices_IndexFunc__impl_Angle_impl_Angle_e : ∀ v, (evFn (mkCtx Go.K.Link.seat slices_IndexFunc__impl_Angle_impl_Angle_c slices_IndexFunc__impl_Angle_impl_Angle_tab) (sums slices_IndexFunc__impl_Angle_impl_Angle_ls) 73 Go.Proofs.Try.f73 (encL slices_IndexFunc__impl_Angle_impl_Angle_s.a v)).run = (slices_IndexFunc__impl_Angle_impl_Angle_s.gen v).bind fun y => some (slices_IndexFunc__impl_Angle_impl_Angle_s.out y) := by
  rintro ⟨s, ⟨⟨_, ⟨⟨_, _⟩, _⟩⟩, _⟩⟩
  show _ = (slices_IndexFunc__impl_Angle_impl_Angle s).bind fun y : Int => some (slices_IndexFunc__impl_Angle_impl_Angle_s.out y)
  simp only [slices_IndexFunc__impl_Angle_impl_Angle, kb_ite, kb_some, kb_none, kb_bind, kb_alt]
  kernel_rfl
theorem slices_IndexFunc__impl_Angle_impl_Angle_is : FnIs Go.Proofs.Try.prog 73 (modeOf []) (phi [slices_IndexFunc__impl_Angle_impl_Angle_s]) := spec_is (c := slices_IndexFunc__impl_Angle_impl_Angle_c) seatOK slices_IndexFunc__impl_Angle_impl_Angle_t Go.Proofs.Try.func73 rfl (code := slices_IndexFunc__impl_Angle_impl_Angle_code) rfl rfl slices_IndexFunc__impl_Angle_impl_Angle_rs slices_IndexFunc__impl_Angle_impl_Angle_e
noncomputable def slices_ContainsFunc__impl_Angle_impl_Angle_s : Spec := ⟨[.v (.sl 32 (.pair (.int .i64) (.pair (.int .i64) (.unit)))) .fr, .fn 59 [] [.pfn 48 [] []]], Bool, fun v => slices_ContainsFunc__impl_Angle_impl_Angle v.1, fun r => ([.v (.bool) .fr r], [])⟩
noncomputable def slices_ContainsFunc__impl_Angle_impl_Angle_ls : List LSum := []
noncomputable def slices_ContainsFunc__impl_Angle_impl_Angle_tab : List Row := [⟨73, [], [slices_IndexFunc__impl_Angle_impl_Angle_s]⟩]
theorem slices_ContainsFunc__impl_Angle_impl_Angle_t : ∀ r, r ∈ slices_ContainsFunc__impl_Angle_impl_Angle_tab → RowIs Go.Proofs.Try.prog r := tab_cons (slices_IndexFunc__impl_Angle_impl_Angle_is) (tab_nil)
theorem slices_ContainsFunc__impl_Angle_impl_Angle_rs : RoundsOK (mkCtx Go.K.Link.seat slices_ContainsFunc__impl_Angle_impl_Angle_c slices_ContainsFunc__impl_Angle_impl_Angle_tab) (sums slices_ContainsFunc__impl_Angle_impl_Angle_ls) (loopsOf 0 slices_ContainsFunc__impl_Angle_impl_Angle_code) slices_ContainsFunc__impl_Angle_impl_Angle_ls := trivial
theorem slices_ContainsFunc__impl_Angle_impl_Angle_e : ∀ v, (evFn (mkCtx Go.K.Link.seat slices_ContainsFunc__impl_Angle_impl_Angle_c slices_ContainsFunc__impl_Angle_impl_Angle_tab) (sums slices_ContainsFunc__impl_Angle_impl_Angle_ls) 58 Go.Proofs.Try.f58 (encL slices_ContainsFunc__impl_Angle_impl_Angle_s.a v)).run = (slices_ContainsFunc__impl_Angle_impl_Angle_s.gen v).bind fun y => some (slices_ContainsFunc__impl_Angle_impl_Angle_s.out y) := by
  rintro ⟨s, ⟨⟨_, ⟨⟨_, _⟩, _⟩⟩, _⟩⟩
  show _ = (slices_ContainsFunc__impl_Angle_impl_Angle s).bind fun y : Bool => some (slices_ContainsFunc__impl_Angle_impl_Angle_s.out y)
  simp only [slices_ContainsFunc__impl_Angle_impl_Angle, kb_ite, kb_some, kb_none, kb_bind, kb_alt]
  kernel_rfl
theorem slices_ContainsFunc__impl_Angle_impl_Angle_is : FnIs Go.Proofs.Try.prog 58 (modeOf []) (phi [slices_ContainsFunc__impl_Angle_impl_Angle_s]) := spec_is (c := slices_ContainsFunc__impl_Angle_impl_Angle_c) seatOK slices_ContainsFunc__impl_Angle_impl_Angle_t Go.Proofs.Try.func58 rfl (code := slices_ContainsFunc__impl_Angle_impl_Angle_code) rfl rfl slices_ContainsFunc__impl_Angle_impl_Angle_rs slices_ContainsFunc__impl_Angle_impl_Angle_e
noncomputable def impl_areAll_impl_Angle_s : Spec := ⟨[.v (.sl 32 (.pair (.int .i64) (.pair (.int .i64) (.unit)))) .fr, .fn 48 [] []], Bool, fun v => impl_areAll_impl_Angle v.1, fun r => ([.v (.bool) .fr r], [])⟩
noncomputable def impl_areAll_impl_Angle_ls : List LSum := []
noncomputable def impl_areAll_impl_Angle_tab : List Row := [⟨58, [], [slices_ContainsFunc__impl_Angle_impl_Angle_s]⟩]
theorem impl_areAll_impl_Angle_t : ∀ r, r ∈ impl_areAll_impl_Angle_tab → RowIs Go.Proofs.Try.prog r := tab_cons (slices_ContainsFunc__impl_Angle_impl_Angle_is) (tab_nil)
theorem impl_areAll_impl_Angle_rs : RoundsOK (mkCtx Go.K.Link.seat impl_areAll_impl_Angle_c impl_areAll_impl_Angle_tab) (sums impl_areAll_impl_Angle_ls) (loopsOf 0 impl_areAll_impl_Angle_code) impl_areAll_impl_Angle_ls := trivial
theorem impl_areAll_impl_Angle_e : ∀ v, (evFn (mkCtx Go.K.Link.seat impl_areAll_impl_Angle_c impl_areAll_impl_Angle_tab) (sums impl_areAll_impl_Angle_ls) 47 Go.Proofs.Try.f47 (encL impl_areAll_impl_Angle_s.a v)).run = (impl_areAll_impl_Angle_s.gen v).bind fun y => some (impl_areAll_impl_Angle_s.out y) := by
  rintro ⟨list, ⟨⟨_, _⟩, _⟩⟩
  show _ = (impl_areAll_impl_Angle list).bind fun y : Bool => some (impl_areAll_impl_Angle_s.out y)
  simp only [impl_areAll_impl_Angle, kb_ite, kb_some, kb_none, kb_bind, kb_alt]
  kernel_rfl
theorem impl_areAll_impl_Angle_is : FnIs Go.Proofs.Try.prog 47 (modeOf []) (phi [impl_areAll_impl_Angle_s]) := spec_is (c := impl_areAll_impl_Angle_c) seatOK impl_areAll_impl_Angle_t Go.Proofs.Try.func47 rfl (code := impl_areAll_impl_Angle_code) rfl rfl impl_areAll_impl_Angle_rs impl_areAll_impl_Angle_e
noncomputable def impl_anglesCode_s : Spec := ⟨[.v (.sl 32 (.pair (.int .i64) (.pair (.int .i64) (.unit)))) .fr], Int, fun v => impl_anglesCode v.1, fun r => ([.v (.int .i64) .fr r], [])⟩
noncomputable def impl_anglesCode_ls : List LSum := []
noncomputable def impl_anglesCode_tab : List Row := [⟨47, [], [impl_areAll_impl_Angle_s]⟩]
theorem impl_anglesCode_t : ∀ r, r ∈ impl_anglesCode_tab → RowIs Go.Proofs.Try.prog r := tab_cons (impl_areAll_impl_Angle_is) (tab_nil)
theorem impl_anglesCode_rs : RoundsOK (mkCtx Go.K.Link.seat impl_anglesCode_c impl_anglesCode_tab) (sums impl_anglesCode_ls) (loopsOf 0 impl_anglesCode_code) impl_anglesCode_ls := trivial
theorem impl_anglesCode_e : ∀ v, (evFn (mkCtx Go.K.Link.seat impl_anglesCode_c impl_anglesCode_tab) (sums impl_anglesCode_ls) 23 Go.Proofs.Try.f23 (encL impl_anglesCode_s.a v)).run = (impl_anglesCode_s.gen v).bind fun y => some (impl_anglesCode_s.out y) := by
  rintro ⟨list, _⟩
  show _ = (impl_anglesCode list).bind fun y : Int => some (impl_anglesCode_s.out y)
  simp only [impl_anglesCode, kb_ite, kb_some, kb_none, kb_bind, kb_alt]
  kernel_rfl
theorem impl_anglesCode_is : FnIs Go.Proofs.Try.prog 23 (modeOf []) (phi [impl_anglesCode_s]) := spec_is (c := impl_anglesCode_c) seatOK impl_anglesCode_t Go.Proofs.Try.func23 rfl (code := impl_anglesCode_code) rfl rfl impl_anglesCode_rs impl_anglesCode_e
noncomputable def impl_length_impl_Angle_code : Code := (Go.Proofs.Try.f24.body).getD .skip
def impl_length_impl_Angle_c : Cfg := ⟨24, [], [], [], []⟩
noncomputable def impl_length_impl_Angle_s : Spec := ⟨[.v (.sl 32 (.pair (.int .i64) (.pair (.int .i64) (.unit)))) .fr], Int, fun v => impl_length_impl_Angle v.1, fun r => ([.v (.int .i64) .fr r], [])⟩
noncomputable def impl_length_impl_Angle_ls : List LSum := []
noncomputable def impl_length_impl_Angle_tab : List Row := []
theorem impl_length_impl_Angle_t : ∀ r, r ∈ impl_length_impl_Angle_tab → RowIs Go.Proofs.Try.prog r := tab_nil
theorem impl_length_impl_Angle_rs : RoundsOK (mkCtx Go.K.Link.seat impl_length_impl_Angle_c impl_length_impl_Angle_tab) (sums impl_length_impl_Angle_ls) (loopsOf 0 impl_length_impl_Angle_code) impl_length_impl_Angle_ls := trivial
theorem impl_length_impl_Angle_e : ∀ v, (evFn (mkCtx Go.K.Link.seat impl_length_impl_Angle_c impl_length_impl_Angle_tab) (sums impl_length_impl_Angle_ls) 24 Go.Proofs.Try.f24 (encL impl_length_impl_Angle_s.a v)).run = (impl_length_impl_Angle_s.gen v).bind fun y => some (impl_length_impl_Angle_s.out y) := by
  rintro ⟨list, _⟩
  show _ = (impl_length_impl_Angle list).bind fun y : Int => some (impl_length_impl_Angle_s.out y)
  simp only [impl_length_impl_Angle, kb_ite, kb_some, kb_none, kb_bind, kb_alt]
  kernel_rfl
theorem impl_length_impl_Angle_is : FnIs Go.Proofs.Try.prog 24 (modeOf []) (phi [impl_length_impl_Angle_s]) := spec_is (c := impl_length_impl_Angle_c) seatOK impl_length_impl_Angle_t Go.Proofs.Try.func24 rfl (code := impl_length_impl_Angle_code) rfl rfl impl_length_impl_Angle_rs impl_length_impl_Angle_e
noncomputable def impl_areAscending_code : Code := (Go.Proofs.Try.f25.body).getD .skip
def impl_areAscending_c : Cfg := ⟨25, [], [[0, 3], [], [2]], [], []⟩
noncomputable def impl_areAscending_l0_s : LSum := ⟨0, ⟨[(0, .val (.sl 32 (.pair (.int .i64) (.pair (.int .i64) (.unit)))) .fr), (2, .val (.int .i64) .fr)], 17⟩, (.ret, ⟨[(2, .val (.bool) .fr)], 18⟩), [(.exit 0, ⟨[], 21⟩)], impl_areAscending_l0⟩
noncomputable def impl_areAscending_s : Spec := ⟨[.v (.sl 32 (.pair (.int .i64) (.pair (.int .i64) (.unit)))) .fr], Bool, fun v => impl_areAscending v.1, fun r => ([.v (.bool) .fr r], [])⟩
noncomputable def impl_areAscending_ls : List LSum := [impl_areAscending_l0_s]
noncomputable def impl_areAscending_tab : List Row := [⟨45, [], [impl_Angle_compare_s]⟩]
theorem impl_areAscending_t : ∀ r, r ∈ impl_areAscending_tab → RowIs Go.Proofs.Try.prog r := tab_cons (impl_Angle_compare_is) (tab_nil)
theorem impl_areAscending_l0_r : RoundIs (mkCtx Go.K.Link.seat impl_areAscending_c impl_areAscending_tab) (sums impl_areAscending_ls) 0 (bodyAt (loopsOf 0 impl_areAscending_code) 0) impl_areAscending_l0_s := by
  rintro ⟨list, ⟨i, _⟩⟩
  show _ = (impl_areAscending_l0 (list, (i, ()))).bind fun r : (Ctl ((List (Int × (Int × Unit))) × Int × Unit) ((Bool × Unit) ⊕ (Unit))) => some (ctlVal impl_areAscending_l0_s r)
  simp only [impl_areAscending_l0, kb_ite, kb_some, kb_none, kb_bind, kb_alt]
  kernel_rfl
theorem impl_areAscending_rs : RoundsOK (mkCtx Go.K.Link.seat impl_areAscending_c impl_areAscending_tab) (sums impl_areAscending_ls) (loopsOf 0 impl_areAscending_code) impl_areAscending_ls := ⟨⟨rfl, rfl, impl_areAscending_l0_r⟩, trivial⟩
theorem impl_areAscending_e : ∀ v, (evFn (mkCtx Go.K.Link.seat impl_areAscending_c impl_areAscending_tab) (sums impl_areAscending_ls) 25 Go.Proofs.Try.f25 (encL impl_areAscending_s.a v)).run = (impl_areAscending_s.gen v).bind fun y => some (impl_areAscending_s.out y) := by
  rintro ⟨list, _⟩
  show _ = (impl_areAscending list).bind fun y : Bool => some (impl_areAscending_s.out y)
  simp only [impl_areAscending, kb_ite, kb_some, kb_none, kb_bind, kb_alt]
  kernel_rfl
theorem impl_areAscending_is : FnIs Go.Proofs.Try.prog 25 (modeOf []) (phi [impl_areAscending_s]) := spec_is (c := impl_areAscending_c) seatOK impl_areAscending_t Go.Proofs.Try.func25 rfl (code := impl_areAscending_code) rfl rfl impl_areAscending_rs impl_areAscending_e
noncomputable def impl_Angle_double_code : Code := (Go.Proofs.Try.f27.body).getD .skip
def impl_Angle_double_c : Cfg := ⟨27, [], [], [], []⟩
noncomputable def impl_Angle_double_s : Spec := ⟨[.v (.pair (.int .i64) (.pair (.int .i64) (.unit))) .fr], (Int × (Int × Unit)), fun v => impl_Angle_double v.1, fun r => ([.v (.pair (.int .i64) (.pair (.int .i64) (.unit))) .fr r], [])⟩
noncomputable def impl_Angle_double_ls : List LSum := []
noncomputable def impl_Angle_double_tab : List Row := [⟨18, [], [impl_angle_s]⟩]
theorem impl_Angle_double_t : ∀ r, r ∈ impl_Angle_double_tab → RowIs Go.Proofs.Try.prog r := tab_cons (impl_angle_is) (tab_nil)
theorem impl_Angle_double_rs : RoundsOK (mkCtx Go.K.Link.seat impl_Angle_double_c impl_Angle_double_tab) (sums impl_Angle_double_ls) (loopsOf 0 impl_Angle_double_code) impl_Angle_double_ls := trivial
theorem impl_Angle_double_e : ∀ v, (evFn (mkCtx Go.K.Link.seat impl_Angle_double_c impl_Angle_double_tab) (sums impl_Angle_double_ls) 27 Go.Proofs.Try.f27 (encL impl_Angle_double_s.a v)).run = (impl_Angle_double_s.gen v).bind fun y => some (impl_Angle_double_s.out y) := by
  rintro ⟨a, _⟩
  show _ = (impl_Angle_double a).bind fun y : (Int × (Int × Unit)) => some (impl_Angle_double_s.out y)
  simp only [impl_Angle_double, kb_ite, kb_some, kb_none, kb_bind, kb_alt]
  kernel_rfl
theorem impl_Angle_double_is : FnIs Go.Proofs.Try.prog 27 (modeOf []) (phi [impl_Angle_double_s]) := spec_is (c := impl_Angle_double_c) seatOK impl_Angle_double_t Go.Proofs.Try.func27 rfl (code := impl_Angle_double_code) rfl rfl impl_Angle_double_rs impl_Angle_double_e
noncomputable def slices_Index__impl_Angle_impl_Angle_code : Code := (Go.Proofs.Try.f26.body).getD .skip
def slices_Index__impl_Angle_impl_Angle_c : Cfg := ⟨26, [], [[0, 3, 7, 8], [], [4]], [], []⟩
noncomputable def slices_Index__impl_Angle_impl_Angle_l0_s : LSum := ⟨0, ⟨[(0, .val (.sl 32 (.pair (.int .i64) (.pair (.int .i64) (.unit)))) .fr), (2, .val (.ptr (.pair (.int .i64) (.pair (.int .i64) (.unit)))) (.own .fr)), (3, .val (.int .i64) .fr), (0, .val (.int .i64) .fr)], 10⟩, (.ret, ⟨[(4, .val (.int .i64) .fr)], 14⟩), [(.exit 0, ⟨[], 19⟩)], slices_Index__impl_Angle_impl_Angle_l0⟩
noncomputable def slices_Index__impl_Angle_impl_Angle_s : Spec := ⟨[.v (.sl 32 (.pair (.int .i64) (.pair (.int .i64) (.unit)))) .fr, .v (.pair (.int .i64) (.pair (.int .i64) (.unit))) .fr], Int, fun v => slices_Index__impl_Angle_impl_Angle v.1 v.2.1, fun r => ([.v (.int .i64) .fr r], [])⟩
noncomputable def slices_Index__impl_Angle_impl_Angle_ls : List LSum := [slices_Index__impl_Angle_impl_Angle_l0_s]
noncomputable def slices_Index__impl_Angle_impl_Angle_tab : List Row := []
theorem slices_Index__impl_Angle_impl_Angle_t : ∀ r, r ∈ slices_Index__impl_Angle_impl_Angle_tab → RowIs Go.Proofs.Try.prog r := tab_nil
theorem slices_Index__impl_Angle_impl_Angle_l0_r : RoundIs (mkCtx Go.K.Link.seat slices_Index__impl_Angle_impl_Angle_c slices_Index__impl_Angle_impl_Angle_tab) (sums slices_Index__impl_Angle_impl_Angle_ls) 0 (bodyAt (loopsOf 0 slices_Index__impl_Angle_impl_Angle_code) 0) slices_Index__impl_Angle_impl_Angle_l0_s := by
  rintro ⟨s, ⟨v, ⟨t7, ⟨t8, _⟩⟩⟩⟩
  show _ = (slices_Index__impl_Angle_impl_Angle_l0 (s, (v, (t7, (t8, ()))))).bind fun r : (Ctl ((List (Int × (Int × Unit))) × ((Int × (Int × Unit))) × Int × Int × Unit) ((Int × Unit) ⊕ (Unit))) => some (ctlVal slices_Index__impl_Angle_impl_Angle_l0_s r)
  simp only [slices_Index__impl_Angle_impl_Angle_l0, kb_ite, kb_some, kb_none, kb_bind, kb_alt]
  kernel_rfl
theorem slices_Index__impl_Angle_impl_Angle_rs : RoundsOK (mkCtx Go.K.Link.seat slices_Index__impl_Angle_impl_Angle_c slices_Index__impl_Angle_impl_Angle_tab) (sums slices_Index__impl_Angle_impl_Angle_ls) (loopsOf 0 slices_Index__impl_Angle_impl_Angle_code) slices_Index__impl_Angle_impl_Angle_ls := ⟨⟨rfl, rfl, slices_Index__impl_Angle_impl_Angle_l0_r⟩, trivial⟩
theorem slices_Index__impl_Angle_impl_Angle_e : ∀ v, (evFn (mkCtx Go.K.Link.seat slices_Index__impl_Angle_impl_Angle_c slices_Index__impl_Angle_impl_Angle_tab) (sums slices_Index__impl_Angle_impl_Angle_ls) 26 Go.Proofs.Try.f26 (encL slices_Index__impl_Angle_impl_Angle_s.a v)).run = (slices_Index__impl_Angle_impl_Angle_s.gen v).bind fun y => some (slices_Index__impl_Angle_impl_Angle_s.out y) := by
  rintro ⟨s, ⟨v, _⟩⟩
  show _ = (slices_Index__impl_Angle_impl_Angle s v).bind fun y : Int => some (slices_Index__impl_Angle_impl_Angle_s.out y)
  simp only [slices_Index__impl_Angle_impl_Angle, kb_ite, kb_some, kb_none, kb_bind, kb_alt]
  kernel_rfl
theorem slices_Index__impl_Angle_impl_Angle_is : FnIs Go.Proofs.Try.prog 26 (modeOf []) (phi [slices_Index__impl_Angle_impl_Angle_s]) := spec_is (c := slices_Index__impl_Angle_impl_Angle_c) seatOK slices_Index__impl_Angle_impl_Angle_t Go.Proofs.Try.func26 rfl (code := slices_Index__impl_Angle_impl_Angle_code) rfl rfl slices_Index__impl_Angle_impl_Angle_rs slices_Index__impl_Angle_impl_Angle_e
noncomputable def impl_at_code : Code := (Go.Proofs.Try.f28.body).getD .skip
def impl_at_c : Cfg := ⟨28, [], [], [], []⟩
noncomputable def impl_at_s : Spec := ⟨[.v (.sl 32 (.pair (.int .i64) (.pair (.int .i64) (.unit)))) .fr, .v (.int .i64) .fr], (Int × (Int × Unit)), fun v => impl_at v.1 v.2.1, fun r => ([.v (.pair (.int .i64) (.pair (.int .i64) (.unit))) .fr r], [])⟩
noncomputable def impl_at_ls : List LSum := []
noncomputable def impl_at_tab : List Row := []
theorem impl_at_t : ∀ r, r ∈ impl_at_tab → RowIs Go.Proofs.Try.prog r := tab_nil
theorem impl_at_rs : RoundsOK (mkCtx Go.K.Link.seat impl_at_c impl_at_tab) (sums impl_at_ls) (loopsOf 0 impl_at_code) impl_at_ls := trivial
theorem impl_at_e : ∀ v, (evFn (mkCtx Go.K.Link.seat impl_at_c impl_at_tab) (sums impl_at_ls) 28 Go.Proofs.Try.f28 (encL impl_at_s.a v)).run = (impl_at_s.gen v).bind fun y => some (impl_at_s.out y) := by
  rintro ⟨set, ⟨i, _⟩⟩
  show _ = (impl_at set i).bind fun y : (Int × (Int × Unit)) => some (impl_at_s.out y)
  simp only [impl_at, kb_ite, kb_some, kb_none, kb_bind, kb_alt]
  kernel_rfl
theorem impl_at_is : FnIs Go.Proofs.Try.prog 28 (modeOf []) (phi [impl_at_s]) := spec_is (c := impl_at_c) seatOK impl_at_t Go.Proofs.Try.func28 rfl (code := impl_at_code) rfl rfl impl_at_rs impl_at_e
noncomputable def impl_RotationOfSet_l0_s : LSum := ⟨0, ⟨[(0, .val (.sl 32 (.pair (.int .i64) (.pair (.int .i64) (.unit)))) .fr), (4, .val (.int .i64) .fr), (24, .val (.sl 32 (.pair (.int .i64) (.pair (.int .i64) (.unit)))) .fr), (0, .val (.int .i64) .fr), (0, .val (.int .i64) .fr)], 14⟩, (.ret, ⟨[(2, .val (.int .i64) .fr), (0, .val (.int .i64) .fr)], 43⟩), [(.exit 0, ⟨[(5, .val (.int .i64) .fr)], 41⟩)], impl_RotationOfSet_l0⟩
noncomputable def impl_RotationOfSet_s : Spec := ⟨[.v (.sl 32 (.pair (.int .i64) (.pair (.int .i64) (.unit)))) .fr], Int × Int, fun v => impl_RotationOfSet v.1, fun r => ([.v (.int .i64) .fr r.1, .v (.int .i64) .fr r.2], [])⟩
noncomputable def impl_RotationOfSet_ls : List LSum := [impl_RotationOfSet_l0_s]
noncomputable def impl_RotationOfSet_tab : List Row := [⟨16, [], [impl_within_s]⟩, ⟨23, [], [impl_anglesCode_s]⟩, ⟨24, [], [impl_length_impl_Angle_s]⟩, ⟨25, [], [impl_areAscending_s]⟩, ⟨26, [], [slices_Index__impl_Angle_impl_Angle_s]⟩, ⟨27, [], [impl_Angle_double_s]⟩, ⟨28, [], [impl_at_s]⟩]
theorem impl_RotationOfSet_t : ∀ r, r ∈ impl_RotationOfSet_tab → RowIs Go.Proofs.Try.prog r := tab_cons (impl_within_is) (tab_cons (impl_anglesCode_is) (tab_cons (impl_length_impl_Angle_is) (tab_cons (impl_areAscending_is) (tab_cons (slices_Index__impl_Angle_impl_Angle_is) (tab_cons (impl_Angle_double_is) (tab_cons (impl_at_is) (tab_nil)))))))
theorem impl_RotationOfSet_l0_r : RoundIs (mkCtx Go.K.Link.seat impl_RotationOfSet_c impl_RotationOfSet_tab) (sums impl_RotationOfSet_ls) 0 (bodyAt (loopsOf 0 impl_RotationOfSet_code) 0) impl_RotationOfSet_l0_s := by
  rintro ⟨set, ⟨q, ⟨t30, ⟨t31, ⟨t32, _⟩⟩⟩⟩⟩
  show _ = (impl_RotationOfSet_l0 (set, (q, (t30, (t31, (t32, ())))))).bind fun r : (Ctl ((List (Int × (Int × Unit))) × Int × (List (Int × (Int × Unit))) × Int × Int × Unit) ((Int × Int × Unit) ⊕ (Int × Unit))) => some (ctlVal impl_RotationOfSet_l0_s r)
  simp only [impl_RotationOfSet_l0, kb_ite, kb_some, kb_none, kb_bind, kb_alt]
  kernel_rfl
theorem impl_RotationOfSet_rs : RoundsOK (mkCtx Go.K.Link.seat impl_RotationOfSet_c impl_RotationOfSet_tab) (sums impl_RotationOfSet_ls) (loopsOf 0 impl_RotationOfSet_code) impl_RotationOfSet_ls := ⟨⟨rfl, rfl, impl_RotationOfSet_l0_r⟩, trivial⟩
theorem impl_RotationOfSet_e : ∀ v, (evFn (mkCtx Go.K.Link.seat impl_RotationOfSet_c impl_RotationOfSet_tab) (sums impl_RotationOfSet_ls) 9 Go.Proofs.Try.f9 (encL impl_RotationOfSet_s.a v)).run = (impl_RotationOfSet_s.gen v).bind fun y => some (impl_RotationOfSet_s.out y) := by
  rintro ⟨set, _⟩
  show _ = (impl_RotationOfSet set).bind fun y : Int × Int => some (impl_RotationOfSet_s.out y)
  simp only [impl_RotationOfSet, kb_ite, kb_some, kb_none, kb_bind, kb_alt]
  kernel_rfl
theorem impl_RotationOfSet_is : FnIs Go.Proofs.Try.prog 9 (modeOf []) (phi [impl_RotationOfSet_s]) := spec_is (c := impl_RotationOfSet_c) seatOK impl_RotationOfSet_t Go.Proofs.Try.func9 rfl (code := impl_RotationOfSet_code) rfl rfl impl_RotationOfSet_rs impl_RotationOfSet_e
noncomputable def impl_RotationNumber_code : Code := (Go.Proofs.Try.f10.body).getD .skip
def impl_RotationNumber_c : Cfg := ⟨10, [], [[0, 2, 5, 18, 19], [0, 2, 5], [2, 3]], [], []⟩
noncomputable def impl_portraitCode_code : Code := (Go.Proofs.Try.f29.body).getD .skip
def impl_portraitCode_c : Cfg := ⟨29, [], [], [], []⟩
noncomputable def impl_PortraitThatFails_code : Code := (Go.Proofs.Try.f30.body).getD .skip
def impl_PortraitThatFails_c : Cfg := ⟨30, [], [], [], []⟩
noncomputable def slices_Concat__impl_Angle_impl_Angle_code : Code := (Go.Proofs.Try.f49.body).getD .skip
def slices_Concat__impl_Angle_impl_Angle_c : Cfg := ⟨49, [], [[0, 3, 9, 10, 11, 33], [0, 3, 33], [2, 6, 24, 33, 35], [], [], [], [0, 6, 24, 25, 26, 27, 33], [6, 24, 33], [2, 6, 24, 33, 35]], [], []⟩
noncomputable def slices_Concat__impl_Angle_impl_Angle_l0_s : LSum := ⟨0, ⟨[(0, .val (.sl 26 (.sl 32 (.pair (.int .i64) (.pair (.int .i64) (.unit))))) .fr), (2, .val (.int .i64) .fr), (5, .val (.sl 26 (.sl 32 (.pair (.int .i64) (.pair (.int .i64) (.unit))))) .fr), (0, .val (.int .i64) .fr), (0, .val (.int .i64) .fr)], 24⟩, (.exit 0, ⟨[(0, .val (.sl 26 (.sl 32 (.pair (.int .i64) (.pair (.int .i64) (.unit))))) .fr), (2, .val (.int .i64) .fr)], 32⟩), [], slices_Concat__impl_Angle_impl_Angle_l0⟩
noncomputable def slices_Grow__impl_Angle_impl_Angle_s : Spec := ⟨[.v (.sl 32 (.pair (.int .i64) (.pair (.int .i64) (.unit)))) (.own .fr), .v (.int .i64) .fr], List (Int × (Int × Unit)), fun v => slices_Grow__impl_Angle_impl_Angle v.1 v.2.1, fun r => ([.v (.sl 32 (.pair (.int .i64) (.pair (.int .i64) (.unit)))) (.own .fr) r], [])⟩
theorem slices_Grow__impl_Angle_impl_Angle_is : FnIs Go.Proofs.Try.prog 60 (modeOf [.own]) (phi [slices_Grow__impl_Angle_impl_Angle_s]) := grow_is (TS := 26) (TE := 32) (e := (.pair (.int .i64) (.pair (.int .i64) (.unit)))) (q := .fr) (bytes := 16) ⟨Go.Proofs.Try.underlying26, by kernel_rfl, Go.Proofs.Try.isAgg26, Go.Proofs.Try.sizeOf26, Go.Proofs.Try.sizeOf32, by decide, by decide⟩ Go.Proofs.Try.underlying3 Go.Proofs.Try.func60 rfl rfl rfl rfl
noncomputable def slices_Concat__impl_Angle_impl_Angle_l1_s : LSum := ⟨2, ⟨[(0, .val (.sl 26 (.sl 32 (.pair (.int .i64) (.pair (.int .i64) (.unit))))) .fr), (5, .val (.sl 32 (.pair (.int .i64) (.pair (.int .i64) (.unit)))) (.own .fr)), (18, .val (.sl 26 (.sl 32 (.pair (.int .i64) (.pair (.int .i64) (.unit))))) .fr), (0, .val (.int .i64) .fr), (0, .val (.int .i64) .fr)], 8⟩, (.exit 2, ⟨[(6, .val (.sl 32 (.pair (.int .i64) (.pair (.int .i64) (.unit)))) (.own .fr))], 29⟩), [], slices_Concat__impl_Angle_impl_Angle_l1⟩
noncomputable def slices_Concat__impl_Angle_impl_Angle_s : Spec := ⟨[.v (.sl 26 (.sl 32 (.pair (.int .i64) (.pair (.int .i64) (.unit))))) .fr], (List (Int × (Int × Unit))), fun v => slices_Concat__impl_Angle_impl_Angle v.1, fun r => ([.v (.sl 32 (.pair (.int .i64) (.pair (.int .i64) (.unit)))) (.own .fr) r], [])⟩
noncomputable def slices_Concat__impl_Angle_impl_Angle_ls : List LSum := [slices_Concat__impl_Angle_impl_Angle_l0_s, slices_Concat__impl_Angle_impl_Angle_l1_s]
noncomputable def slices_Concat__impl_Angle_impl_Angle_tab : List Row := [⟨60, [.own], [slices_Grow__impl_Angle_impl_Angle_s]⟩]
theorem slices_Concat__impl_Angle_impl_Angle_t : ∀ r, r ∈ slices_Concat__impl_Angle_impl_Angle_tab → RowIs Go.Proofs.Try.prog r := tab_cons (slices_Grow__impl_Angle_impl_Angle_is) (tab_nil)
theorem slices_Concat__impl_Angle_impl_Angle_l0_r : RoundIs (mkCtx Go.K.Link.seat slices_Concat__impl_Angle_impl_Angle_c slices_Concat__impl_Angle_impl_Angle_tab) (sums slices_Concat__impl_Angle_impl_Angle_ls) 0 (bodyAt (loopsOf 0 slices_Concat__impl_Angle_impl_Angle_code) 0) slices_Concat__impl_Angle_impl_Angle_l0_s := by
  rintro ⟨slices, ⟨size, ⟨t9, ⟨t10, ⟨t11, _⟩⟩⟩⟩⟩
  show _ = (slices_Concat__impl_Angle_impl_Angle_l0 (slices, (size, (t9, (t10, (t11, ())))))).bind fun r : (Ctl ((List (List (Int × (Int × Unit)))) × Int × (List (List (Int × (Int × Unit)))) × Int × Int × Unit) (((List (List (Int × (Int × Unit)))) × Int × Unit))) => some (ctlVal slices_Concat__impl_Angle_impl_Angle_l0_s r)
  simp only [slices_Concat__impl_Angle_impl_Angle_l0, kb_ite, kb_some, kb_none, kb_bind, kb_alt]
  kernel_rfl
theorem slices_Concat__impl_Angle_impl_Angle_l1_r : RoundIs (mkCtx Go.K.Link.seat slices_Concat__impl_Angle_impl_Angle_c slices_Concat__impl_Angle_impl_Angle_tab) (sums slices_Concat__impl_Angle_impl_Angle_ls) 2 (bodyAt (loopsOf 0 slices_Concat__impl_Angle_impl_Angle_code) 1) slices_Concat__impl_Angle_impl_Angle_l1_s := by
  rintro ⟨slices, ⟨newslice, ⟨t25, ⟨t26, ⟨t27, _⟩⟩⟩⟩⟩
  show _ = (slices_Concat__impl_Angle_impl_Angle_l1 (slices, (newslice, (t25, (t26, (t27, ())))))).bind fun r : (Ctl ((List (List (Int × (Int × Unit)))) × (List (Int × (Int × Unit))) × (List (List (Int × (Int × Unit)))) × Int × Int × Unit) (((List (Int × (Int × Unit))) × Unit))) => some (ctlVal slices_Concat__impl_Angle_impl_Angle_l1_s r)
  simp only [slices_Concat__impl_Angle_impl_Angle_l1, kb_ite, kb_some, kb_none, kb_bind, kb_alt]
  kernel_rfl
theorem slices_Concat__impl_Angle_impl_Angle_rs : RoundsOK (mkCtx Go.K.Link.seat slices_Concat__impl_Angle_impl_Angle_c slices_Concat__impl_Angle_impl_Angle_tab) (sums slices_Concat__impl_Angle_impl_Angle_ls) (loopsOf 0 slices_Concat__impl_Angle_impl_Angle_code) slices_Concat__impl_Angle_impl_Angle_ls := ⟨⟨rfl, rfl, slices_Concat__impl_Angle_impl_Angle_l0_r⟩, ⟨⟨rfl, rfl, slices_Concat__impl_Angle_impl_Angle_l1_r⟩, trivial⟩⟩
theorem slices_Concat__impl_Angle_impl_Angle_e : ∀ v, (evFn (mkCtx Go.K.Link.seat slices_Concat__impl_Angle_impl_Angle_c slices_Concat__impl_Angle_impl_Angle_tab) (sums slices_Concat__impl_Angle_impl_Angle_ls) 49 Go.Proofs.Try.f49 (encL slices_Concat__impl_Angle_impl_Angle_s.a v)).run = (slices_Concat__impl_Angle_impl_Angle_s.gen v).bind fun y => some (slices_Concat__impl_Angle_impl_Angle_s.out y) := by
  rintro ⟨slices, _⟩
  show _ = (slices_Concat__impl_Angle_impl_Angle slices).bind fun y : (List (Int × (Int × Unit))) => some (slices_Concat__impl_Angle_impl_Angle_s.out y)
  simp only [slices_Concat__impl_Angle_impl_Angle, kb_ite, kb_some, kb_none, kb_bind, kb_alt]
  kernel_rfl
theorem slices_Concat__impl_Angle_impl_Angle_is : FnIs Go.Proofs.Try.prog 49 (modeOf []) (phi [slices_Concat__impl_Angle_impl_Angle_s]) := spec_is (c := slices_Concat__impl_Angle_impl_Angle_c) seatOK slices_Concat__impl_Angle_impl_Angle_t Go.Proofs.Try.func49 rfl (code := slices_Concat__impl_Angle_impl_Angle_code) rfl rfl slices_Concat__impl_Angle_impl_Angle_rs slices_Concat__impl_Angle_impl_Angle_e
noncomputable def impl_areSets_code : Code := (Go.Proofs.Try.f50.body).getD .skip
def impl_areSets_c : Cfg := ⟨50, [], [[0, 3, 6, 7, 8], [0, 3], [2]], [], []⟩
noncomputable def impl_areSets_l0_s : LSum := ⟨0, ⟨[(0, .val (.sl 26 (.sl 32 (.pair (.int .i64) (.pair (.int .i64) (.unit))))) .fr), (2, .val (.int .i64) .fr), (2, .val (.sl 26 (.sl 32 (.pair (.int .i64) (.pair (.int .i64) (.unit))))) .fr), (0, .val (.int .i64) .fr), (0, .val (.int .i64) .fr)], 19⟩, (.exit 0, ⟨[(0, .val (.sl 26 (.sl 32 (.pair (.int .i64) (.pair (.int .i64) (.unit))))) .fr), (2, .val (.int .i64) .fr)], 24⟩), [], impl_areSets_l0⟩
noncomputable def impl_length__impl_Angle_code : Code := (Go.Proofs.Try.f61.body).getD .skip
def impl_length__impl_Angle_c : Cfg := ⟨61, [], [], [], []⟩
noncomputable def impl_length__impl_Angle_s : Spec := ⟨[.v (.sl 26 (.sl 32 (.pair (.int .i64) (.pair (.int .i64) (.unit))))) .fr], Int, fun v => impl_length__impl_Angle v.1, fun r => ([.v (.int .i64) .fr r], [])⟩
noncomputable def impl_length__impl_Angle_ls : List LSum := []
noncomputable def impl_length__impl_Angle_tab : List Row := []
theorem impl_length__impl_Angle_t : ∀ r, r ∈ impl_length__impl_Angle_tab → RowIs Go.Proofs.Try.prog r := tab_nil
theorem impl_length__impl_Angle_rs : RoundsOK (mkCtx Go.K.Link.seat impl_length__impl_Angle_c impl_length__impl_Angle_tab) (sums impl_length__impl_Angle_ls) (loopsOf 0 impl_length__impl_Angle_code) impl_length__impl_Angle_ls := trivial
theorem impl_length__impl_Angle_e : ∀ v, (evFn (mkCtx Go.K.Link.seat impl_length__impl_Angle_c impl_length__impl_Angle_tab) (sums impl_length__impl_Angle_ls) 61 Go.Proofs.Try.f61 (encL impl_length__impl_Angle_s.a v)).run = (impl_length__impl_Angle_s.gen v).bind fun y => some (impl_length__impl_Angle_s.out y) := by
  rintro ⟨list, _⟩
  show _ = (impl_length__impl_Angle list).bind fun y : Int => some (impl_length__impl_Angle_s.out y)
  simp only [impl_length__impl_Angle, kb_ite, kb_some, kb_none, kb_bind, kb_alt]
  kernel_rfl
theorem impl_length__impl_Angle_is : FnIs Go.Proofs.Try.prog 61 (modeOf []) (phi [impl_length__impl_Angle_s]) := spec_is (c := impl_length__impl_Angle_c) seatOK impl_length__impl_Angle_t Go.Proofs.Try.func61 rfl (code := impl_length__impl_Angle_code) rfl rfl impl_length__impl_Angle_rs impl_length__impl_Angle_e
noncomputable def impl_areAll__impl_Angle_code : Code := (Go.Proofs.Try.f62.body).getD .skip
def impl_areAll__impl_Angle_c : Cfg := ⟨62, [], [], [], []⟩
noncomputable def slices_ContainsFunc___impl_Angle__impl_Angle_code : Code := (Go.Proofs.Try.f74.body).getD .skip
def slices_ContainsFunc___impl_Angle__impl_Angle_c : Cfg := ⟨74, [], [], [], []⟩
noncomputable def slices_IndexFunc___impl_Angle__impl_Angle_code : Code := (Go.Proofs.Try.f92.body).getD .skip
def slices_IndexFunc___impl_Angle__impl_Angle_c : Cfg := ⟨92, [], [[0, 1, 7, 8], [], [4]], [], []⟩
noncomputable def impl_areAll__impl_Angle_f1_code : Code := (Go.Proofs.Try.f75.body).getD .skip
def impl_areAll__impl_Angle_f1_c : Cfg := ⟨75, [], [], [], []⟩
noncomputable def impl_areSets_f1_code : Code := (Go.Proofs.Try.f63.body).getD .skip
def impl_areSets_f1_c : Cfg := ⟨63, [], [], [], []⟩
noncomputable def impl_areSets_f1_s : Spec := ⟨[.v (.sl 32 (.pair (.int .i64) (.pair (.int .i64) (.unit)))) .fr], Bool, fun v => impl_areSets_f1 v.1, fun r => ([.v (.bool) .fr r], [])⟩
noncomputable def impl_areSets_f1_ls : List LSum := []
noncomputable def impl_areSets_f1_tab : List Row := [⟨25, [], [impl_areAscending_s]⟩]
theorem impl_areSets_f1_t : ∀ r, r ∈ impl_areSets_f1_tab → RowIs Go.Proofs.Try.prog r := tab_cons (impl_areAscending_is) (tab_nil)
theorem impl_areSets_f1_rs : RoundsOK (mkCtx Go.K.Link.seat impl_areSets_f1_c impl_areSets_f1_tab) (sums impl_areSets_f1_ls) (loopsOf 0 impl_areSets_f1_code) impl_areSets_f1_ls := trivial
theorem impl_areSets_f1_e : ∀ v, (evFn (mkCtx Go.K.Link.seat impl_areSets_f1_c impl_areSets_f1_tab) (sums impl_areSets_f1_ls) 63 Go.Proofs.Try.f63 (encL impl_areSets_f1_s.a v)).run = (impl_areSets_f1_s.gen v).bind fun y => some (impl_areSets_f1_s.out y) := by
  rintro ⟨set, _⟩
  show _ = (impl_areSets_f1 set).bind fun y : Bool => some (impl_areSets_f1_s.out y)
  simp only [impl_areSets_f1, kb_ite, kb_some, kb_none, kb_bind, kb_alt]
  kernel_rfl
theorem impl_areSets_f1_is : FnIs Go.Proofs.Try.prog 63 (modeOf []) (phi [impl_areSets_f1_s]) := spec_is (c := impl_areSets_f1_c) seatOK impl_areSets_f1_t Go.Proofs.Try.func63 rfl (code := impl_areSets_f1_code) rfl rfl impl_areSets_f1_rs impl_areSets_f1_e
noncomputable def impl_areAll__impl_Angle_f1_s : Spec := ⟨[.v (.sl 32 (.pair (.int .i64) (.pair (.int .i64) (.unit)))) .fr, .pfn 63 [] []], Bool, fun v => impl_areAll__impl_Angle_f1 v.1, fun r => ([.v (.bool) .fr r], [])⟩
noncomputable def impl_areAll__impl_Angle_f1_ls : List LSum := []
noncomputable def impl_areAll__impl_Angle_f1_tab : List Row := [⟨63, [], [impl_areSets_f1_s]⟩]
theorem impl_areAll__impl_Angle_f1_t : ∀ r, r ∈ impl_areAll__impl_Angle_f1_tab → RowIs Go.Proofs.Try.prog r := tab_cons (impl_areSets_f1_is) (tab_nil)
theorem impl_areAll__impl_Angle_f1_rs : RoundsOK (mkCtx Go.K.Link.seat impl_areAll__impl_Angle_f1_c impl_areAll__impl_Angle_f1_tab) (sums impl_areAll__impl_Angle_f1_ls) (loopsOf 0 impl_areAll__impl_Angle_f1_code) impl_areAll__impl_Angle_f1_ls := trivial
theorem impl_areAll__impl_Angle_f1_e : ∀ v, (evFn (mkCtx Go.K.Link.seat impl_areAll__impl_Angle_f1_c impl_areAll__impl_Angle_f1_tab) (sums impl_areAll__impl_Angle_f1_ls) 75 Go.Proofs.Try.f75 (encL impl_areAll__impl_Angle_f1_s.a v)).run = (impl_areAll__impl_Angle_f1_s.gen v).bind fun y => some (impl_areAll__impl_Angle_f1_s.out y) := by
  rintro ⟨x, ⟨⟨_, _⟩, _⟩⟩
  show _ = (impl_areAll__impl_Angle_f1 x).bind fun y : Bool => some (impl_areAll__impl_Angle_f1_s.out y)
  simp only [impl_areAll__impl_Angle_f1, kb_ite, kb_some, kb_none, kb_bind, kb_alt]
  kernel_rfl
theorem impl_areAll__impl_Angle_f1_is : FnIs Go.Proofs.Try.prog 75 (modeOf []) (phi [impl_areAll__impl_Angle_f1_s]) := spec_is (c := impl_areAll__impl_Angle_f1_c) seatOK impl_areAll__impl_Angle_f1_t Go.Proofs.Try.func75 rfl (code := impl_areAll__impl_Angle_f1_code) rfl rfl impl_areAll__impl_Angle_f1_rs impl_areAll__impl_Angle_f1_e
noncomputable def slices_IndexFunc___impl_Angle__impl_Angle_l0_s : LSum := ⟨0, ⟨[(0, .val (.sl 26 (.sl 32 (.pair (.int .i64) (.pair (.int .i64) (.unit))))) .fr), (0, .fnl 75 [] [.arg (.pfn 63 [] [])]), (5, .val (.int .i64) .fr), (0, .val (.int .i64) .fr)], 10⟩, (.ret, ⟨[(4, .val (.int .i64) .fr)], 14⟩), [(.exit 0, ⟨[], 19⟩)], slices_IndexFunc___impl_Angle__impl_Angle_l0⟩
noncomputable def slices_IndexFunc___impl_Angle__impl_Angle_s : Spec := ⟨[.v (.sl 26 (.sl 32 (.pair (.int .i64) (.pair (.int .i64) (.unit))))) .fr, .fn 75 [] [.pfn 63 [] []]], Int, fun v => slices_IndexFunc___impl_Angle__impl_Angle v.1, fun r => ([.v (.int .i64) .fr r], [])⟩
noncomputable def slices_IndexFunc___impl_Angle__impl_Angle_ls : List LSum := [slices_IndexFunc___impl_Angle__impl_Angle_l0_s]
noncomputable def slices_IndexFunc___impl_Angle__impl_Angle_tab : List Row := [⟨75, [], [impl_areAll__impl_Angle_f1_s]⟩]
theorem slices_IndexFunc___impl_Angle__impl_Angle_t : ∀ r, r ∈ slices_IndexFunc___impl_Angle__impl_Angle_tab → RowIs Go.Proofs.Try.prog r := tab_cons (impl_areAll__impl_Angle_f1_is) (tab_nil)
theorem slices_IndexFunc___impl_Angle__impl_Angle_l0_r : RoundIs (mkCtx Go.K.Link.seat slices_IndexFunc___impl_Angle__impl_Angle_c slices_IndexFunc___impl_Angle__impl_Angle_tab) (sums slices_IndexFunc___impl_Angle__impl_Angle_ls) 0 (bodyAt (loopsOf 0 slices_IndexFunc___impl_Angle__impl_Angle_code) 0) slices_IndexFunc___impl_Angle__impl_Angle_l0_s := by
  rintro ⟨s, ⟨_, ⟨⟨_, _⟩, _⟩, ⟨t7, ⟨t8, _⟩⟩⟩⟩
  show _ = (slices_IndexFunc___impl_Angle__impl_Angle_l0 (s, ((), (((), ()), ()), (t7, (t8, ()))))).bind fun r : (Ctl ((List (List (Int × (Int × Unit)))) × Unit × ((Unit × Unit) × Unit) × Int × Int × Unit) ((Int × Unit) ⊕ (Unit))) => some (ctlVal slices_IndexFunc___impl_Angle__impl_Angle_l0_s r)
  simp only [slices_IndexFunc___impl_Angle__impl_Angle_l0, kb_ite, kb_some, kb_none, kb_bind, kb_alt]
  kernel_rfl
theorem slices_IndexFunc___impl_Angle__impl_Angle_rs : RoundsOK (mkCtx Go.K.Link.seat slices_IndexFunc___impl_Angle__impl_Angle_c slices_IndexFunc___impl_Angle__impl_Angle_tab) (sums slices_IndexFunc___impl_Angle__impl_Angle_ls) (loopsOf 0 slices_IndexFunc___impl_Angle__impl_Angle_code) slices_IndexFunc___impl_Angle__impl_Angle_ls := ⟨⟨rfl, rfl, slices_IndexFunc___impl_Angle__impl_Angle_l0_r⟩, trivial⟩
theorem slices_IndexFunc___impl_Angle__impl_Angle_e : ∀ v, (evFn (mkCtx Go.K.Link.seat slices_IndexFunc___impl_Angle__impl_Angle_c slices_IndexFunc___impl_Angle__impl_Angle_tab) (sums slices_IndexFunc___impl_Angle__impl_Angle_ls) 92 Go.Proofs.Try.f92 (encL slices_IndexFunc___impl_Angle__impl_Angle_s.a v)).run = (slices_IndexFunc___impl_Angle__impl_Angle_s.gen v).bind fun y => some (slices_IndexFunc___impl_Angle__impl_Angle_s.out y) := by
  rintro ⟨s, ⟨⟨_, ⟨⟨_, _⟩, _⟩⟩, _⟩⟩
  show _ = (slices_IndexFunc___impl_Angle__impl_Angle s).bind fun y : Int => some (slices_IndexFunc___impl_Angle__impl_Angle_s.out y)
  simp only [slices_IndexFunc___impl_Angle__impl_Angle, kb_ite, kb_some, kb_none, kb_bind, kb_alt]
  kernel_rfl
theorem slices_IndexFunc___impl_Angle__impl_Angle_is : FnIs Go.Proofs.Try.prog 92 (modeOf []) (phi [slices_IndexFunc___impl_Angle__impl_Angle_s]) := spec_is (c := slices_IndexFunc___impl_Angle__impl_Angle_c) seatOK slices_IndexFunc___impl_Angle__impl_Angle_t Go.Proofs.Try.func92 rfl (code := slices_IndexFunc___impl_Angle__impl_Angle_code) rfl rfl slices_IndexFunc___impl_Angle__impl_Angle_rs slices_IndexFunc___impl_Angle__impl_Angle_e
noncomputable def slices_ContainsFunc___impl_Angle__impl_Angle_s : Spec := ⟨[.v (.sl 26 (.sl 32 (.pair (.int .i64) (.pair (.int .i64) (.unit))))) .fr, .fn 75 [] [.pfn 63 [] []]], Bool, fun v => slices_ContainsFunc___impl_Angle__impl_Angle v.1, fun r => ([.v (.bool) .fr r], [])⟩
noncomputable def slices_ContainsFunc___impl_Angle__impl_Angle_ls : List LSum := []
noncomputable def slices_ContainsFunc___impl_Angle__impl_Angle_tab : List Row := [⟨92, [], [slices_IndexFunc___impl_Angle__impl_Angle_s]⟩]
theorem slices_ContainsFunc___impl_Angle__impl_Angle_t : ∀ r, r ∈ slices_ContainsFunc___impl_Angle__impl_Angle_tab → RowIs Go.Proofs.Try.prog r := tab_cons (slices_IndexFunc___impl_Angle__impl_Angle_is) (tab_nil)
theorem slices_ContainsFunc___impl_Angle__impl_Angle_rs : RoundsOK (mkCtx Go.K.Link.seat slices_ContainsFunc___impl_Angle__impl_Angle_c slices_ContainsFunc___impl_Angle__impl_Angle_tab) (sums slices_ContainsFunc___impl_Angle__impl_Angle_ls) (loopsOf 0 slices_ContainsFunc___impl_Angle__impl_Angle_code) slices_ContainsFunc___impl_Angle__impl_Angle_ls := trivial
theorem slices_ContainsFunc___impl_Angle__impl_Angle_e : ∀ v, (evFn (mkCtx Go.K.Link.seat slices_ContainsFunc___impl_Angle__impl_Angle_c slices_ContainsFunc___impl_Angle__impl_Angle_tab) (sums slices_ContainsFunc___impl_Angle__impl_Angle_ls) 74 Go.Proofs.Try.f74 (encL slices_ContainsFunc___impl_Angle__impl_Angle_s.a v)).run = (slices_ContainsFunc___impl_Angle__impl_Angle_s.gen v).bind fun y => some (slices_ContainsFunc___impl_Angle__impl_Angle_s.out y) := by
  rintro ⟨s, ⟨⟨_, ⟨⟨_, _⟩, _⟩⟩, _⟩⟩
  show _ = (slices_ContainsFunc___impl_Angle__impl_Angle s).bind fun y : Bool => some (slices_ContainsFunc___impl_Angle__impl_Angle_s.out y)
  simp only [slices_ContainsFunc___impl_Angle__impl_Angle, kb_ite, kb_some, kb_none, kb_bind, kb_alt]
  kernel_rfl
theorem slices_ContainsFunc___impl_Angle__impl_Angle_is : FnIs Go.Proofs.Try.prog 74 (modeOf []) (phi [slices_ContainsFunc___impl_Angle__impl_Angle_s]) := spec_is (c := slices_ContainsFunc___impl_Angle__impl_Angle_c) seatOK slices_ContainsFunc___impl_Angle__impl_Angle_t Go.Proofs.Try.func74 rfl (code := slices_ContainsFunc___impl_Angle__impl_Angle_code) rfl rfl slices_ContainsFunc___impl_Angle__impl_Angle_rs slices_ContainsFunc___impl_Angle__impl_Angle_e
noncomputable def impl_areAll__impl_Angle_s : Spec := ⟨[.v (.sl 26 (.sl 32 (.pair (.int .i64) (.pair (.int .i64) (.unit))))) .fr, .fn 63 [] []], Bool, fun v => impl_areAll__impl_Angle v.1, fun r => ([.v (.bool) .fr r], [])⟩
noncomputable def impl_areAll__impl_Angle_ls : List LSum := []
noncomputable def impl_areAll__impl_Angle_tab : List Row := [⟨74, [], [slices_ContainsFunc___impl_Angle__impl_Angle_s]⟩]
theorem impl_areAll__impl_Angle_t : ∀ r, r ∈ impl_areAll__impl_Angle_tab → RowIs Go.Proofs.Try.prog r := tab_cons (slices_ContainsFunc___impl_Angle__impl_Angle_is) (tab_nil)
theorem impl_areAll__impl_Angle_rs : RoundsOK (mkCtx Go.K.Link.seat impl_areAll__impl_Angle_c impl_areAll__impl_Angle_tab) (sums impl_areAll__impl_Angle_ls) (loopsOf 0 impl_areAll__impl_Angle_code) impl_areAll__impl_Angle_ls := trivial
theorem impl_areAll__impl_Angle_e : ∀ v, (evFn (mkCtx Go.K.Link.seat impl_areAll__impl_Angle_c impl_areAll__impl_Angle_tab) (sums impl_areAll__impl_Angle_ls) 62 Go.Proofs.Try.f62 (encL impl_areAll__impl_Angle_s.a v)).run = (impl_areAll__impl_Angle_s.gen v).bind fun y => some (impl_areAll__impl_Angle_s.out y) := by
  rintro ⟨list, ⟨⟨_, _⟩, _⟩⟩
  show _ = (impl_areAll__impl_Angle list).bind fun y : Bool => some (impl_areAll__impl_Angle_s.out y)
  simp only [impl_areAll__impl_Angle, kb_ite, kb_some, kb_none, kb_bind, kb_alt]
  kernel_rfl
theorem impl_areAll__impl_Angle_is : FnIs Go.Proofs.Try.prog 62 (modeOf []) (phi [impl_areAll__impl_Angle_s]) := spec_is (c := impl_areAll__impl_Angle_c) seatOK impl_areAll__impl_Angle_t Go.Proofs.Try.func62 rfl (code := impl_areAll__impl_Angle_code) rfl rfl impl_areAll__impl_Angle_rs impl_areAll__impl_Angle_e
noncomputable def impl_areSets_s : Spec := ⟨[.v (.sl 26 (.sl 32 (.pair (.int .i64) (.pair (.int .i64) (.unit))))) .fr], Bool, fun v => impl_areSets v.1, fun r => ([.v (.bool) .fr r], [])⟩
noncomputable def impl_areSets_ls : List LSum := [impl_areSets_l0_s]
noncomputable def impl_areSets_tab : List Row := [⟨16, [], [impl_within_s]⟩, ⟨61, [], [impl_length__impl_Angle_s]⟩, ⟨62, [], [impl_areAll__impl_Angle_s]⟩]
theorem impl_areSets_t : ∀ r, r ∈ impl_areSets_tab → RowIs Go.Proofs.Try.prog r := tab_cons (impl_within_is) (tab_cons (impl_length__impl_Angle_is) (tab_cons (impl_areAll__impl_Angle_is) (tab_nil)))
theorem impl_areSets_l0_r : RoundIs (mkCtx Go.K.Link.seat impl_areSets_c impl_areSets_tab) (sums impl_areSets_ls) 0 (bodyAt (loopsOf 0 impl_areSets_code) 0) impl_areSets_l0_s := by
  rintro ⟨sets, ⟨all, ⟨t6, ⟨t7, ⟨t8, _⟩⟩⟩⟩⟩
  show _ = (impl_areSets_l0 (sets, (all, (t6, (t7, (t8, ())))))).bind fun r : (Ctl ((List (List (Int × (Int × Unit)))) × Int × (List (List (Int × (Int × Unit)))) × Int × Int × Unit) (((List (List (Int × (Int × Unit)))) × Int × Unit))) => some (ctlVal impl_areSets_l0_s r)
  simp only [impl_areSets_l0, kb_ite, kb_some, kb_none, kb_bind, kb_alt]
  kernel_rfl
theorem impl_areSets_rs : RoundsOK (mkCtx Go.K.Link.seat impl_areSets_c impl_areSets_tab) (sums impl_areSets_ls) (loopsOf 0 impl_areSets_code) impl_areSets_ls := ⟨⟨rfl, rfl, impl_areSets_l0_r⟩, trivial⟩
theorem impl_areSets_e : ∀ v, (evFn (mkCtx Go.K.Link.seat impl_areSets_c impl_areSets_tab) (sums impl_areSets_ls) 50 Go.Proofs.Try.f50 (encL impl_areSets_s.a v)).run = (impl_areSets_s.gen v).bind fun y => some (impl_areSets_s.out y) := by
  rintro ⟨sets, _⟩
  show _ = (impl_areSets sets).bind fun y : Bool => some (impl_areSets_s.out y)
  simp only [impl_areSets, kb_ite, kb_some, kb_none, kb_bind, kb_alt]
  kernel_rfl
theorem impl_areSets_is : FnIs Go.Proofs.Try.prog 50 (modeOf []) (phi [impl_areSets_s]) := spec_is (c := impl_areSets_c) seatOK impl_areSets_t Go.Proofs.Try.func50 rfl (code := impl_areSets_code) rfl rfl impl_areSets_rs impl_areSets_e
noncomputable def impl_fails_code : Code := (Go.Proofs.Try.f51.body).getD .skip
def impl_fails_c : Cfg := ⟨51, [], [[0, 3, 4, 14, 28, 29, 30, 31], [0, 3, 4, 14, 28], [2], [], [], [], [0, 3, 4, 14, 28, 44, 45, 46], [0, 3, 14], [2], [], [], [], [0, 62, 63, 64], [], [2], [], [], [], [0, 9, 10, 62, 63, 64, 67, 68, 69, 70, 71], [0, 62, 63, 64], [2]], [], []⟩
noncomputable def slices_Clone___impl_Angle__impl_Angle_s : Spec := ⟨[.v (.sl 26 (.sl 32 (.pair (.int .i64) (.pair (.int .i64) (.unit))))) .fr], List (List (Int × (Int × Unit))), fun v => slices_Clone___impl_Angle__impl_Angle v.1, fun r => ([.v (.sl 26 (.sl 32 (.pair (.int .i64) (.pair (.int .i64) (.unit))))) (.own .fr) r], [])⟩
theorem slices_Clone___impl_Angle__impl_Angle_is : FnIs Go.Proofs.Try.prog 64 (modeOf []) (phi [slices_Clone___impl_Angle__impl_Angle_s]) := clone_is (TS := 35) (TE := 26) (e := (.sl 32 (.pair (.int .i64) (.pair (.int .i64) (.unit))))) (bytes := 24) ⟨Go.Proofs.Try.underlying35, by kernel_rfl, Go.Proofs.Try.isAgg35, Go.Proofs.Try.sizeOf35, Go.Proofs.Try.sizeOf26, by decide, by decide⟩ Go.Proofs.Try.func64 rfl rfl rfl rfl
noncomputable def impl_leads_code : Code := (Go.Proofs.Try.f65.body).getD .skip
def impl_leads_c : Cfg := ⟨65, [], [[0, 3, 5, 8, 9, 10, 18], [0, 3, 5, 18], [4]], [], []⟩
noncomputable def impl_leads_l0_s : LSum := ⟨0, ⟨[(0, .val (.sl 32 (.pair (.int .i64) (.pair (.int .i64) (.unit)))) .fr), (2, .val (.ptr (.sl 32 (.pair (.int .i64) (.pair (.int .i64) (.unit))))) (.own .fr)), (1, .val (.sl 32 (.pair (.int .i64) (.pair (.int .i64) (.unit)))) (.own .fr)), (2, .val (.sl 32 (.pair (.int .i64) (.pair (.int .i64) (.unit)))) .fr), (0, .val (.int .i64) .fr), (0, .val (.int .i64) .fr)], 20⟩, (.exit 0, ⟨[(0, .val (.sl 32 (.pair (.int .i64) (.pair (.int .i64) (.unit)))) .fr), (2, .val (.ptr (.sl 32 (.pair (.int .i64) (.pair (.int .i64) (.unit))))) (.own .fr)), (1, .val (.sl 32 (.pair (.int .i64) (.pair (.int .i64) (.unit)))) (.own .fr))], 25⟩), [], impl_leads_l0⟩
noncomputable def impl_areAll_impl_Angle_v2_code : Code := (Go.Proofs.Try.f47.body).getD .skip
def impl_areAll_impl_Angle_v2_c : Cfg := ⟨47, [], [], [], []⟩
noncomputable def slices_ContainsFunc__impl_Angle_impl_Angle_v2_code : Code := (Go.Proofs.Try.f58.body).getD .skip
def slices_ContainsFunc__impl_Angle_impl_Angle_v2_c : Cfg := ⟨58, [], [], [], []⟩
noncomputable def slices_IndexFunc__impl_Angle_impl_Angle_v2_code : Code := (Go.Proofs.Try.f73.body).getD .skip
def slices_IndexFunc__impl_Angle_impl_Angle_v2_c : Cfg := ⟨73, [], [[0, 1, 7, 8], [], [4]], [], []⟩
noncomputable def impl_areAll_impl_Angle_f1_v2_code : Code := (Go.Proofs.Try.f59.body).getD .skip
def impl_areAll_impl_Angle_f1_v2_c : Cfg := ⟨59, [], [], [], []⟩
noncomputable def impl_leads_f1_code : Code := (Go.Proofs.Try.f76.body).getD .skip
def impl_leads_f1_c : Cfg := ⟨76, [], [], [], []⟩
noncomputable def slices_Contains__impl_Angle_impl_Angle_code : Code := (Go.Proofs.Try.f77.body).getD .skip
def slices_Contains__impl_Angle_impl_Angle_c : Cfg := ⟨77, [], [], [], []⟩
noncomputable def slices_Contains__impl_Angle_impl_Angle_s : Spec := ⟨[.v (.sl 32 (.pair (.int .i64) (.pair (.int .i64) (.unit)))) .fr, .v (.pair (.int .i64) (.pair (.int .i64) (.unit))) .fr], Bool, fun v => slices_Contains__impl_Angle_impl_Angle v.1 v.2.1, fun r => ([.v (.bool) .fr r], [])⟩
noncomputable def slices_Contains__impl_Angle_impl_Angle_ls : List LSum := []
noncomputable def slices_Contains__impl_Angle_impl_Angle_tab : List Row := [⟨26, [], [slices_Index__impl_Angle_impl_Angle_s]⟩]
theorem slices_Contains__impl_Angle_impl_Angle_t : ∀ r, r ∈ slices_Contains__impl_Angle_impl_Angle_tab → RowIs Go.Proofs.Try.prog r := tab_cons (slices_Index__impl_Angle_impl_Angle_is) (tab_nil)
theorem slices_Contains__impl_Angle_impl_Angle_rs : RoundsOK (mkCtx Go.K.Link.seat slices_Contains__impl_Angle_impl_Angle_c slices_Contains__impl_Angle_impl_Angle_tab) (sums slices_Contains__impl_Angle_impl_Angle_ls) (loopsOf 0 slices_Contains__impl_Angle_impl_Angle_code) slices_Contains__impl_Angle_impl_Angle_ls := trivial
theorem slices_Contains__impl_Angle_impl_Angle_e : ∀ v, (evFn (mkCtx Go.K.Link.seat slices_Contains__impl_Angle_impl_Angle_c slices_Contains__impl_Angle_impl_Angle_tab) (sums slices_Contains__impl_Angle_impl_Angle_ls) 77 Go.Proofs.Try.f77 (encL slices_Contains__impl_Angle_impl_Angle_s.a v)).run = (slices_Contains__impl_Angle_impl_Angle_s.gen v).bind fun y => some (slices_Contains__impl_Angle_impl_Angle_s.out y) := by
  rintro ⟨s, ⟨v, _⟩⟩
  show _ = (slices_Contains__impl_Angle_impl_Angle s v).bind fun y : Bool => some (slices_Contains__impl_Angle_impl_Angle_s.out y)
  simp only [slices_Contains__impl_Angle_impl_Angle, kb_ite, kb_some, kb_none, kb_bind, kb_alt]
  kernel_rfl
theorem slices_Contains__impl_Angle_impl_Angle_is : FnIs Go.Proofs.Try.prog 77 (modeOf []) (phi [slices_Contains__impl_Angle_impl_Angle_s]) := spec_is (c := slices_Contains__impl_Angle_impl_Angle_c) seatOK slices_Contains__impl_Angle_impl_Angle_t Go.Proofs.Try.func77 rfl (code := slices_Contains__impl_Angle_impl_Angle_code) rfl rfl slices_Contains__impl_Angle_impl_Angle_rs slices_Contains__impl_Angle_impl_Angle_e
noncomputable def impl_leads_f1_s : Spec := ⟨[.v (.pair (.int .i64) (.pair (.int .i64) (.unit))) .fr, .v (.ptr (.sl 32 (.pair (.int .i64) (.pair (.int .i64) (.unit))))) .fr], Bool, fun v => impl_leads_f1 v.1 v.2.1, fun r => ([.v (.bool) .fr r], [])⟩
noncomputable def impl_leads_f1_ls : List LSum := []
noncomputable def impl_leads_f1_tab : List Row := [⟨77, [], [slices_Contains__impl_Angle_impl_Angle_s]⟩]
theorem impl_leads_f1_t : ∀ r, r ∈ impl_leads_f1_tab → RowIs Go.Proofs.Try.prog r := tab_cons (slices_Contains__impl_Angle_impl_Angle_is) (tab_nil)
theorem impl_leads_f1_rs : RoundsOK (mkCtx Go.K.Link.seat impl_leads_f1_c impl_leads_f1_tab) (sums impl_leads_f1_ls) (loopsOf 0 impl_leads_f1_code) impl_leads_f1_ls := trivial
theorem impl_leads_f1_e : ∀ v, (evFn (mkCtx Go.K.Link.seat impl_leads_f1_c impl_leads_f1_tab) (sums impl_leads_f1_ls) 76 Go.Proofs.Try.f76 (encL impl_leads_f1_s.a v)).run = (impl_leads_f1_s.gen v).bind fun y => some (impl_leads_f1_s.out y) := by
  rintro ⟨a, ⟨t1, _⟩⟩
  show _ = (impl_leads_f1 a t1).bind fun y : Bool => some (impl_leads_f1_s.out y)
  simp only [impl_leads_f1, kb_ite, kb_some, kb_none, kb_bind, kb_alt]
  kernel_rfl
theorem impl_leads_f1_is : FnIs Go.Proofs.Try.prog 76 (modeOf []) (phi [impl_leads_f1_s]) := spec_is (c := impl_leads_f1_c) seatOK impl_leads_f1_t Go.Proofs.Try.func76 rfl (code := impl_leads_f1_code) rfl rfl impl_leads_f1_rs impl_leads_f1_e
noncomputable def impl_areAll_impl_Angle_f1_v2_s : Spec := ⟨[.v (.pair (.int .i64) (.pair (.int .i64) (.unit))) .fr, .pfn 76 [] [.v (.ptr (.sl 32 (.pair (.int .i64) (.pair (.int .i64) (.unit))))) .fr]], Bool, fun v => impl_areAll_impl_Angle_f1_v2 v.1 v.2.1.2.1, fun r => ([.v (.bool) .fr r], [])⟩
noncomputable def impl_areAll_impl_Angle_f1_v2_ls : List LSum := []
noncomputable def impl_areAll_impl_Angle_f1_v2_tab : List Row := [⟨76, [], [impl_leads_f1_s]⟩]
theorem impl_areAll_impl_Angle_f1_v2_t : ∀ r, r ∈ impl_areAll_impl_Angle_f1_v2_tab → RowIs Go.Proofs.Try.prog r := tab_cons (impl_leads_f1_is) (tab_nil)
theorem impl_areAll_impl_Angle_f1_v2_rs : RoundsOK (mkCtx Go.K.Link.seat impl_areAll_impl_Angle_f1_v2_c impl_areAll_impl_Angle_f1_v2_tab) (sums impl_areAll_impl_Angle_f1_v2_ls) (loopsOf 0 impl_areAll_impl_Angle_f1_v2_code) impl_areAll_impl_Angle_f1_v2_ls := trivial
theorem impl_areAll_impl_Angle_f1_v2_e : ∀ v, (evFn (mkCtx Go.K.Link.seat impl_areAll_impl_Angle_f1_v2_c impl_areAll_impl_Angle_f1_v2_tab) (sums impl_areAll_impl_Angle_f1_v2_ls) 59 Go.Proofs.Try.f59 (encL impl_areAll_impl_Angle_f1_v2_s.a v)).run = (impl_areAll_impl_Angle_f1_v2_s.gen v).bind fun y => some (impl_areAll_impl_Angle_f1_v2_s.out y) := by
  rintro ⟨x, ⟨⟨_, ⟨t1_0, _⟩⟩, _⟩⟩
  show _ = (impl_areAll_impl_Angle_f1_v2 x t1_0).bind fun y : Bool => some (impl_areAll_impl_Angle_f1_v2_s.out y)
  simp only [impl_areAll_impl_Angle_f1_v2, kb_ite, kb_some, kb_none, kb_bind, kb_alt]
  kernel_rfl
theorem impl_areAll_impl_Angle_f1_v2_is : FnIs Go.Proofs.Try.prog 59 (modeOf []) (phi [impl_areAll_impl_Angle_f1_v2_s]) := spec_is (c := impl_areAll_impl_Angle_f1_v2_c) seatOK impl_areAll_impl_Angle_f1_v2_t Go.Proofs.Try.func59 rfl (code := impl_areAll_impl_Angle_f1_v2_code) rfl rfl impl_areAll_impl_Angle_f1_v2_rs impl_areAll_impl_Angle_f1_v2_e
noncomputable def slices_IndexFunc__impl_Angle_impl_Angle_v2_l0_s : LSum := ⟨0, ⟨[(0, .val (.sl 32 (.pair (.int .i64) (.pair (.int .i64) (.unit)))) .fr), (0, .fnl 59 [] [.arg (.pfn 76 [] [.v (.ptr (.sl 32 (.pair (.int .i64) (.pair (.int .i64) (.unit))))) .fr])]), (5, .val (.int .i64) .fr), (0, .val (.int .i64) .fr)], 10⟩, (.ret, ⟨[(4, .val (.int .i64) .fr)], 14⟩), [(.exit 0, ⟨[], 19⟩)], slices_IndexFunc__impl_Angle_impl_Angle_v2_l0⟩
noncomputable def slices_IndexFunc__impl_Angle_impl_Angle_v2_s : Spec := ⟨[.v (.sl 32 (.pair (.int .i64) (.pair (.int .i64) (.unit)))) .fr, .fn 59 [] [.pfn 76 [] [.v (.ptr (.sl 32 (.pair (.int .i64) (.pair (.int .i64) (.unit))))) .fr]]], Int, fun v => slices_IndexFunc__impl_Angle_impl_Angle_v2 v.1 v.2.1.2.1.2.1, fun r => ([.v (.int .i64) .fr r], [])⟩
noncomputable def slices_IndexFunc__impl_Angle_impl_Angle_v2_ls : List LSum := [slices_IndexFunc__impl_Angle_impl_Angle_v2_l0_s]
noncomputable def slices_IndexFunc__impl_Angle_impl_Angle_v2_tab : List Row := [⟨59, [], [impl_areAll_impl_Angle_f1_v2_s]⟩]
theorem slices_IndexFunc__impl_Angle_impl_Angle_v2_t : ∀ r, r ∈ slices_IndexFunc__impl_Angle_impl_Angle_v2_tab → RowIs Go.Proofs.Try.prog r := tab_cons (impl_areAll_impl_Angle_f1_v2_is) (tab_nil)
theorem slices_IndexFunc__impl_Angle_impl_Angle_v2_l0_r : RoundIs (mkCtx Go.K.Link.seat slices_IndexFunc__impl_Angle_impl_Angle_v2_c slices_IndexFunc__impl_Angle_impl_Angle_v2_tab) (sums slices_IndexFunc__impl_Angle_impl_Angle_v2_ls) 0 (bodyAt (loopsOf 0 slices_IndexFunc__impl_Angle_impl_Angle_v2_code) 0) slices_IndexFunc__impl_Angle_impl_Angle_v2_l0_s := by
  rintro ⟨s, ⟨_, ⟨⟨_, ⟨f, _⟩⟩, _⟩, ⟨t7, ⟨t8, _⟩⟩⟩⟩
  show _ = (slices_IndexFunc__impl_Angle_impl_Angle_v2_l0 (s, ((), (((), (f, ())), ()), (t7, (t8, ()))))).bind fun r : (Ctl ((List (Int × (Int × Unit))) × Unit × ((Unit × (List (Int × (Int × Unit)) × Unit)) × Unit) × Int × Int × Unit) ((Int × Unit) ⊕ (Unit))) => some (ctlVal slices_IndexFunc__impl_Angle_impl_Angle_v2_l0_s r)
  simp only [slices_IndexFunc__impl_Angle_impl_Angle_v2_l0, kb_ite, kb_some, kb_none, kb_bind, kb_alt]
  kernel_rfl
theorem slices_IndexFunc__impl_Angle_impl_Angle_v2_rs : RoundsOK (mkCtx Go.K.Link.seat slices_IndexFunc__impl_Angle_impl_Angle_v2_c slices_IndexFunc__impl_Angle_impl_Angle_v2_tab) (sums slices_IndexFunc__impl_Angle_impl_Angle_v2_ls) (loopsOf 0 slices_IndexFunc__impl_Angle_impl_Angle_v2_code) slices_IndexFunc__impl_Angle_impl_Angle_v2_ls := ⟨⟨rfl, rfl, slices_IndexFunc__impl_Angle_impl_Angle_v2_l0_r⟩, trivial⟩
theorem slices_IndexFunc__impl_Angle_impl_Angle_v2_e : ∀ v, (evFn (mkCtx Go.K.Link.seat slices_IndexFunc__impl_Angle_impl_Angle_v2_c slices_IndexFunc__impl_Angle_impl_Angle_v2_tab) (sums slices_IndexFunc__impl_Angle_impl_Angle_v2_ls) 73 Go.Proofs.Try.f73 (encL slices_IndexFunc__impl_Angle_impl_Angle_v2_s.a v)).run = (slices_IndexFunc__impl_Angle_impl_Angle_v2_s.gen v).bind fun y => some (slices_IndexFunc__impl_Angle_impl_Angle_v2_s.out y) := by
  rintro ⟨s, ⟨⟨_, ⟨⟨_, ⟨f_0_1, _⟩⟩, _⟩⟩, _⟩⟩
  show _ = (slices_IndexFunc__impl_Angle_impl_Angle_v2 s f_0_1).bind fun y : Int => some (slices_IndexFunc__impl_Angle_impl_Angle_v2_s.out y)
  simp only [slices_IndexFunc__impl_Angle_impl_Angle_v2, kb_ite, kb_some, kb_none, kb_bind, kb_alt]
  kernel_rfl
theorem slices_IndexFunc__impl_Angle_impl_Angle_v2_is : FnIs Go.Proofs.Try.prog 73 (modeOf []) (phi [slices_IndexFunc__impl_Angle_impl_Angle_v2_s]) := spec_is (c := slices_IndexFunc__impl_Angle_impl_Angle_v2_c) seatOK slices_IndexFunc__impl_Angle_impl_Angle_v2_t Go.Proofs.Try.func73 rfl (code := slices_IndexFunc__impl_Angle_impl_Angle_v2_code) rfl rfl slices_IndexFunc__impl_Angle_impl_Angle_v2_rs slices_IndexFunc__impl_Angle_impl_Angle_v2_e
noncomputable def slices_ContainsFunc__impl_Angle_impl_Angle_v2_s : Spec := ⟨[.v (.sl 32 (.pair (.int .i64) (.pair (.int .i64) (.unit)))) .fr, .fn 59 [] [.pfn 76 [] [.v (.ptr (.sl 32 (.pair (.int .i64) (.pair (.int .i64) (.unit))))) .fr]]], Bool, fun v => slices_ContainsFunc__impl_Angle_impl_Angle_v2 v.1 v.2.1.2.1.2.1, fun r => ([.v (.bool) .fr r], [])⟩
noncomputable def slices_ContainsFunc__impl_Angle_impl_Angle_v2_ls : List LSum := []
noncomputable def slices_ContainsFunc__impl_Angle_impl_Angle_v2_tab : List Row := [⟨73, [], [slices_IndexFunc__impl_Angle_impl_Angle_v2_s]⟩]
theorem slices_ContainsFunc__impl_Angle_impl_Angle_v2_t : ∀ r, r ∈ slices_ContainsFunc__impl_Angle_impl_Angle_v2_tab → RowIs Go.Proofs.Try.prog r := tab_cons (slices_IndexFunc__impl_Angle_impl_Angle_v2_is) (tab_nil)
theorem slices_ContainsFunc__impl_Angle_impl_Angle_v2_rs : RoundsOK (mkCtx Go.K.Link.seat slices_ContainsFunc__impl_Angle_impl_Angle_v2_c slices_ContainsFunc__impl_Angle_impl_Angle_v2_tab) (sums slices_ContainsFunc__impl_Angle_impl_Angle_v2_ls) (loopsOf 0 slices_ContainsFunc__impl_Angle_impl_Angle_v2_code) slices_ContainsFunc__impl_Angle_impl_Angle_v2_ls := trivial
theorem slices_ContainsFunc__impl_Angle_impl_Angle_v2_e : ∀ v, (evFn (mkCtx Go.K.Link.seat slices_ContainsFunc__impl_Angle_impl_Angle_v2_c slices_ContainsFunc__impl_Angle_impl_Angle_v2_tab) (sums slices_ContainsFunc__impl_Angle_impl_Angle_v2_ls) 58 Go.Proofs.Try.f58 (encL slices_ContainsFunc__impl_Angle_impl_Angle_v2_s.a v)).run = (slices_ContainsFunc__impl_Angle_impl_Angle_v2_s.gen v).bind fun y => some (slices_ContainsFunc__impl_Angle_impl_Angle_v2_s.out y) := by
  rintro ⟨s, ⟨⟨_, ⟨⟨_, ⟨f_0_1, _⟩⟩, _⟩⟩, _⟩⟩
  show _ = (slices_ContainsFunc__impl_Angle_impl_Angle_v2 s f_0_1).bind fun y : Bool => some (slices_ContainsFunc__impl_Angle_impl_Angle_v2_s.out y)
  simp only [slices_ContainsFunc__impl_Angle_impl_Angle_v2, kb_ite, kb_some, kb_none, kb_bind, kb_alt]
  kernel_rfl
theorem slices_ContainsFunc__impl_Angle_impl_Angle_v2_is : FnIs Go.Proofs.Try.prog 58 (modeOf []) (phi [slices_ContainsFunc__impl_Angle_impl_Angle_v2_s]) := spec_is (c := slices_ContainsFunc__impl_Angle_impl_Angle_v2_c) seatOK slices_ContainsFunc__impl_Angle_impl_Angle_v2_t Go.Proofs.Try.func58 rfl (code := slices_ContainsFunc__impl_Angle_impl_Angle_v2_code) rfl rfl slices_ContainsFunc__impl_Angle_impl_Angle_v2_rs slices_ContainsFunc__impl_Angle_impl_Angle_v2_e
noncomputable def impl_areAll_impl_Angle_v2_s : Spec := ⟨[.v (.sl 32 (.pair (.int .i64) (.pair (.int .i64) (.unit)))) .fr, .fn 76 [] [.v (.ptr (.sl 32 (.pair (.int .i64) (.pair (.int .i64) (.unit))))) .fr]], Bool, fun v => impl_areAll_impl_Angle_v2 v.1 v.2.1.2.1, fun r => ([.v (.bool) .fr r], [])⟩
noncomputable def impl_areAll_impl_Angle_v2_ls : List LSum := []
noncomputable def impl_areAll_impl_Angle_v2_tab : List Row := [⟨58, [], [slices_ContainsFunc__impl_Angle_impl_Angle_v2_s]⟩]
theorem impl_areAll_impl_Angle_v2_t : ∀ r, r ∈ impl_areAll_impl_Angle_v2_tab → RowIs Go.Proofs.Try.prog r := tab_cons (slices_ContainsFunc__impl_Angle_impl_Angle_v2_is) (tab_nil)
theorem impl_areAll_impl_Angle_v2_rs : RoundsOK (mkCtx Go.K.Link.seat impl_areAll_impl_Angle_v2_c impl_areAll_impl_Angle_v2_tab) (sums impl_areAll_impl_Angle_v2_ls) (loopsOf 0 impl_areAll_impl_Angle_v2_code) impl_areAll_impl_Angle_v2_ls := trivial
theorem impl_areAll_impl_Angle_v2_e : ∀ v, (evFn (mkCtx Go.K.Link.seat impl_areAll_impl_Angle_v2_c impl_areAll_impl_Angle_v2_tab) (sums impl_areAll_impl_Angle_v2_ls) 47 Go.Proofs.Try.f47 (encL impl_areAll_impl_Angle_v2_s.a v)).run = (impl_areAll_impl_Angle_v2_s.gen v).bind fun y => some (impl_areAll_impl_Angle_v2_s.out y) := by
  rintro ⟨list, ⟨⟨_, ⟨is'_0, _⟩⟩, _⟩⟩
  show _ = (impl_areAll_impl_Angle_v2 list is'_0).bind fun y : Bool => some (impl_areAll_impl_Angle_v2_s.out y)
  simp only [impl_areAll_impl_Angle_v2, kb_ite, kb_some, kb_none, kb_bind, kb_alt]
  kernel_rfl
theorem impl_areAll_impl_Angle_v2_is : FnIs Go.Proofs.Try.prog 47 (modeOf []) (phi [impl_areAll_impl_Angle_v2_s]) := spec_is (c := impl_areAll_impl_Angle_v2_c) seatOK impl_areAll_impl_Angle_v2_t Go.Proofs.Try.func47 rfl (code := impl_areAll_impl_Angle_v2_code) rfl rfl impl_areAll_impl_Angle_v2_rs impl_areAll_impl_Angle_v2_e
noncomputable def impl_leads_s : Spec := ⟨[.v (.sl 32 (.pair (.int .i64) (.pair (.int .i64) (.unit)))) .fr, .v (.sl 32 (.pair (.int .i64) (.pair (.int .i64) (.unit)))) .fr], Bool, fun v => impl_leads v.1 v.2.1, fun r => ([.v (.bool) .fr r], [])⟩
noncomputable def impl_leads_ls : List LSum := [impl_leads_l0_s]
noncomputable def impl_leads_tab : List Row := [⟨19, [], [impl_sorted_s]⟩, ⟨27, [], [impl_Angle_double_s]⟩, ⟨47, [], [impl_areAll_impl_Angle_v2_s]⟩]
theorem impl_leads_t : ∀ r, r ∈ impl_leads_tab → RowIs Go.Proofs.Try.prog r := tab_cons (impl_sorted_is) (tab_cons (impl_Angle_double_is) (tab_cons (impl_areAll_impl_Angle_v2_is) (tab_nil)))
theorem impl_leads_l0_r : RoundIs (mkCtx Go.K.Link.seat impl_leads_c impl_leads_tab) (sums impl_leads_ls) 0 (bodyAt (loopsOf 0 impl_leads_code) 0) impl_leads_l0_s := by
  rintro ⟨set, ⟨next', ⟨images, ⟨t8, ⟨t9, ⟨t10, _⟩⟩⟩⟩⟩⟩
  show _ = (impl_leads_l0 (set, (next', (images, (t8, (t9, (t10, ()))))))).bind fun r : (Ctl ((List (Int × (Int × Unit))) × (List (Int × (Int × Unit))) × (List (Int × (Int × Unit))) × (List (Int × (Int × Unit))) × Int × Int × Unit) (((List (Int × (Int × Unit))) × (List (Int × (Int × Unit))) × (List (Int × (Int × Unit))) × Unit))) => some (ctlVal impl_leads_l0_s r)
  simp only [impl_leads_l0, kb_ite, kb_some, kb_none, kb_bind, kb_alt]
  kernel_rfl
theorem impl_leads_rs : RoundsOK (mkCtx Go.K.Link.seat impl_leads_c impl_leads_tab) (sums impl_leads_ls) (loopsOf 0 impl_leads_code) impl_leads_ls := ⟨⟨rfl, rfl, impl_leads_l0_r⟩, trivial⟩
theorem impl_leads_e : ∀ v, (evFn (mkCtx Go.K.Link.seat impl_leads_c impl_leads_tab) (sums impl_leads_ls) 65 Go.Proofs.Try.f65 (encL impl_leads_s.a v)).run = (impl_leads_s.gen v).bind fun y => some (impl_leads_s.out y) := by
  rintro ⟨set, ⟨next', _⟩⟩
  show _ = (impl_leads set next').bind fun y : Bool => some (impl_leads_s.out y)
  simp only [impl_leads, kb_ite, kb_some, kb_none, kb_bind, kb_alt]
  kernel_rfl
theorem impl_leads_is : FnIs Go.Proofs.Try.prog 65 (modeOf []) (phi [impl_leads_s]) := spec_is (c := impl_leads_c) seatOK impl_leads_t Go.Proofs.Try.func65 rfl (code := impl_leads_code) rfl rfl impl_leads_rs impl_leads_e
noncomputable def impl_fails_l0_s : LSum := ⟨0, ⟨[(0, .val (.sl 26 (.sl 32 (.pair (.int .i64) (.pair (.int .i64) (.unit))))) .fr), (2, .val (.sl 32 (.pair (.int .i64) (.pair (.int .i64) (.unit)))) (.own .fr)), (0, .val (.sl 26 (.sl 32 (.pair (.int .i64) (.pair (.int .i64) (.unit))))) (.own .fr)), (24, .val (.sl 26 (.sl 32 (.pair (.int .i64) (.pair (.int .i64) (.unit))))) .fr), (0, .val (.int .i64) .fr), (0, .val (.int .i64) .fr)], 55⟩, (.ret, ⟨[(2, .val (.int .i64) .fr)], 84⟩), [(.exit 0, ⟨[(0, .val (.sl 26 (.sl 32 (.pair (.int .i64) (.pair (.int .i64) (.unit))))) .fr), (2, .val (.sl 32 (.pair (.int .i64) (.pair (.int .i64) (.unit)))) (.own .fr)), (0, .val (.sl 26 (.sl 32 (.pair (.int .i64) (.pair (.int .i64) (.unit))))) (.own .fr))], 82⟩)], impl_fails_l0⟩
noncomputable def impl_keeps_code : Code := (Go.Proofs.Try.f66.body).getD .skip
def impl_keeps_c : Cfg := ⟨66, [], [[0, 1, 7, 8, 9], [], [4]], [], []⟩
noncomputable def impl_keeps_l0_s : LSum := ⟨0, ⟨[(0, .val (.sl 32 (.pair (.int .i64) (.pair (.int .i64) (.unit)))) .fr), (0, .val (.sl 32 (.pair (.int .i64) (.pair (.int .i64) (.unit)))) .fr), (5, .val (.sl 32 (.pair (.int .i64) (.pair (.int .i64) (.unit)))) .fr), (0, .val (.int .i64) .fr), (0, .val (.int .i64) .fr)], 18⟩, (.ret, ⟨[(4, .val (.bool) .fr)], 23⟩), [(.exit 0, ⟨[], 28⟩)], impl_keeps_l0⟩
noncomputable def impl_keeps_s : Spec := ⟨[.v (.sl 32 (.pair (.int .i64) (.pair (.int .i64) (.unit)))) .fr, .v (.sl 32 (.pair (.int .i64) (.pair (.int .i64) (.unit)))) .fr], Bool, fun v => impl_keeps v.1 v.2.1, fun r => ([.v (.bool) .fr r], [])⟩
noncomputable def impl_keeps_ls : List LSum := [impl_keeps_l0_s]
noncomputable def impl_keeps_tab : List Row := [⟨26, [], [slices_Index__impl_Angle_impl_Angle_s]⟩, ⟨27, [], [impl_Angle_double_s]⟩, ⟨28, [], [impl_at_s]⟩]
theorem impl_keeps_t : ∀ r, r ∈ impl_keeps_tab → RowIs Go.Proofs.Try.prog r := tab_cons (slices_Index__impl_Angle_impl_Angle_is) (tab_cons (impl_Angle_double_is) (tab_cons (impl_at_is) (tab_nil)))
theorem impl_keeps_l0_r : RoundIs (mkCtx Go.K.Link.seat impl_keeps_c impl_keeps_tab) (sums impl_keeps_ls) 0 (bodyAt (loopsOf 0 impl_keeps_code) 0) impl_keeps_l0_s := by
  rintro ⟨set, ⟨next', ⟨t7, ⟨t8, ⟨t9, _⟩⟩⟩⟩⟩
  show _ = (impl_keeps_l0 (set, (next', (t7, (t8, (t9, ())))))).bind fun r : (Ctl ((List (Int × (Int × Unit))) × (List (Int × (Int × Unit))) × (List (Int × (Int × Unit))) × Int × Int × Unit) ((Bool × Unit) ⊕ (Unit))) => some (ctlVal impl_keeps_l0_s r)
  simp only [impl_keeps_l0, kb_ite, kb_some, kb_none, kb_bind, kb_alt]
  kernel_rfl
theorem impl_keeps_rs : RoundsOK (mkCtx Go.K.Link.seat impl_keeps_c impl_keeps_tab) (sums impl_keeps_ls) (loopsOf 0 impl_keeps_code) impl_keeps_ls := ⟨⟨rfl, rfl, impl_keeps_l0_r⟩, trivial⟩
theorem impl_keeps_e : ∀ v, (evFn (mkCtx Go.K.Link.seat impl_keeps_c impl_keeps_tab) (sums impl_keeps_ls) 66 Go.Proofs.Try.f66 (encL impl_keeps_s.a v)).run = (impl_keeps_s.gen v).bind fun y => some (impl_keeps_s.out y) := by
  rintro ⟨set, ⟨next', _⟩⟩
  show _ = (impl_keeps set next').bind fun y : Bool => some (impl_keeps_s.out y)
  simp only [impl_keeps, kb_ite, kb_some, kb_none, kb_bind, kb_alt]
  kernel_rfl
theorem impl_keeps_is : FnIs Go.Proofs.Try.prog 66 (modeOf []) (phi [impl_keeps_s]) := spec_is (c := impl_keeps_c) seatOK impl_keeps_t Go.Proofs.Try.func66 rfl (code := impl_keeps_code) rfl rfl impl_keeps_rs impl_keeps_e
noncomputable def impl_fails_l1_s : LSum := ⟨2, ⟨[(0, .val (.sl 26 (.sl 32 (.pair (.int .i64) (.pair (.int .i64) (.unit))))) .fr), (2, .val (.sl 32 (.pair (.int .i64) (.pair (.int .i64) (.unit)))) (.own .fr)), (0, .val (.sl 26 (.sl 32 (.pair (.int .i64) (.pair (.int .i64) (.unit))))) (.own .fr)), (39, .val (.sl 26 (.sl 32 (.pair (.int .i64) (.pair (.int .i64) (.unit))))) .fr), (0, .val (.int .i64) .fr), (0, .val (.int .i64) .fr)], 40⟩, (.ret, ⟨[(2, .val (.int .i64) .fr)], 84⟩), [(.exit 2, ⟨[(0, .val (.sl 26 (.sl 32 (.pair (.int .i64) (.pair (.int .i64) (.unit))))) .fr), (2, .val (.sl 32 (.pair (.int .i64) (.pair (.int .i64) (.unit)))) (.own .fr))], 83⟩)], impl_fails_l1⟩
noncomputable def impl_periodic_code : Code := (Go.Proofs.Try.f67.body).getD .skip
def impl_periodic_c : Cfg := ⟨67, [], [], [], []⟩
noncomputable def impl_preperiods_code : Code := (Go.Proofs.Try.f78.body).getD .skip
def impl_preperiods_c : Cfg := ⟨78, [], [], [], []⟩
noncomputable def impl_Angle_orbit_code : Code := (Go.Proofs.Try.f93.body).getD .skip
def impl_Angle_orbit_c : Cfg := ⟨93, [], [[1, 5, 12, 20], [], [2, 3, 4, 5, 12, 20]], [], []⟩
noncomputable def impl_Angle_orbit_l0_s : LSum := ⟨0, ⟨[(1, .val (.ptr (.pair (.int .i64) (.pair (.int .i64) (.unit)))) (.own .fr)), (3, .val (.sl 32 (.pair (.int .i64) (.pair (.int .i64) (.unit)))) (.own .fr))], 17⟩, (.ret, ⟨[(2, .sref 5 []), (0, .val (.int .i64) .fr), (0, .val (.bool) .fr), (0, .val (.sl 32 (.pair (.int .i64) (.pair (.int .i64) (.unit)))) (.own .fr)), (6, .sref 5 [])], 10⟩), [(.ret, ⟨[(2, .val (.sl 32 (.pair (.int .i64) (.pair (.int .i64) (.unit)))) (.own .fr)), (0, .val (.int .i64) .fr), (0, .val (.bool) .fr), (0, .val (.sl 32 (.pair (.int .i64) (.pair (.int .i64) (.unit)))) (.own .fr))], 17⟩)], impl_Angle_orbit_l0⟩
noncomputable def impl_Angle_orbit_s : Spec := ⟨[.v (.pair (.int .i64) (.pair (.int .i64) (.unit))) .fr], (List (Int × (Int × Unit))) × Int × Bool, fun v => impl_Angle_orbit v.1, fun r => ([.v (.sl 32 (.pair (.int .i64) (.pair (.int .i64) (.unit)))) (.own .fr) r.1, .v (.int .i64) .fr r.2.1, .v (.bool) .fr r.2.2], [])⟩
noncomputable def impl_Angle_orbit_ls : List LSum := [impl_Angle_orbit_l0_s]
noncomputable def impl_Angle_orbit_tab : List Row := [⟨26, [], [slices_Index__impl_Angle_impl_Angle_s]⟩, ⟨27, [], [impl_Angle_double_s]⟩]
theorem impl_Angle_orbit_t : ∀ r, r ∈ impl_Angle_orbit_tab → RowIs Go.Proofs.Try.prog r := tab_cons (slices_Index__impl_Angle_impl_Angle_is) (tab_cons (impl_Angle_double_is) (tab_nil))
theorem impl_Angle_orbit_l0_r : RoundIs (mkCtx Go.K.Link.seat impl_Angle_orbit_c impl_Angle_orbit_tab) (sums impl_Angle_orbit_ls) 0 (bodyAt (loopsOf 0 impl_Angle_orbit_code) 0) impl_Angle_orbit_l0_s := by
  rintro ⟨a, ⟨list, _⟩⟩
  show _ = (impl_Angle_orbit_l0 (a, (list, ()))).bind fun r : (Ctl (((Int × (Int × Unit))) × (List (Int × (Int × Unit))) × Unit) ((Int × Bool × (List (Int × (Int × Unit))) × Unit) ⊕ ((List (Int × (Int × Unit))) × Int × Bool × (List (Int × (Int × Unit))) × Unit))) => some (ctlVal impl_Angle_orbit_l0_s r)
  simp only [impl_Angle_orbit_l0, kb_ite, kb_some, kb_none, kb_bind, kb_alt]
  kernel_rfl
theorem impl_Angle_orbit_rs : RoundsOK (mkCtx Go.K.Link.seat impl_Angle_orbit_c impl_Angle_orbit_tab) (sums impl_Angle_orbit_ls) (loopsOf 0 impl_Angle_orbit_code) impl_Angle_orbit_ls := ⟨⟨rfl, rfl, impl_Angle_orbit_l0_r⟩, trivial⟩
theorem impl_Angle_orbit_e : ∀ v, (evFn (mkCtx Go.K.Link.seat impl_Angle_orbit_c impl_Angle_orbit_tab) (sums impl_Angle_orbit_ls) 93 Go.Proofs.Try.f93 (encL impl_Angle_orbit_s.a v)).run = (impl_Angle_orbit_s.gen v).bind fun y => some (impl_Angle_orbit_s.out y) := by
  rintro ⟨a, _⟩
  show _ = (impl_Angle_orbit a).bind fun y : (List (Int × (Int × Unit))) × Int × Bool => some (impl_Angle_orbit_s.out y)
  simp only [impl_Angle_orbit, kb_ite, kb_some, kb_none, kb_bind, kb_alt]
  kernel_rfl
theorem impl_Angle_orbit_is : FnIs Go.Proofs.Try.prog 93 (modeOf []) (phi [impl_Angle_orbit_s]) := spec_is (c := impl_Angle_orbit_c) seatOK impl_Angle_orbit_t Go.Proofs.Try.func93 rfl (code := impl_Angle_orbit_code) rfl rfl impl_Angle_orbit_rs impl_Angle_orbit_e
noncomputable def impl_preperiods_s : Spec := ⟨[.v (.pair (.int .i64) (.pair (.int .i64) (.unit))) .fr], Int × Int, fun v => impl_preperiods v.1, fun r => ([.v (.int .i64) .fr r.1, .v (.int .i64) .fr r.2], [])⟩
noncomputable def impl_preperiods_ls : List LSum := []
noncomputable def impl_preperiods_tab : List Row := [⟨93, [], [impl_Angle_orbit_s]⟩]
theorem impl_preperiods_t : ∀ r, r ∈ impl_preperiods_tab → RowIs Go.Proofs.Try.prog r := tab_cons (impl_Angle_orbit_is) (tab_nil)
theorem impl_preperiods_rs : RoundsOK (mkCtx Go.K.Link.seat impl_preperiods_c impl_preperiods_tab) (sums impl_preperiods_ls) (loopsOf 0 impl_preperiods_code) impl_preperiods_ls := trivial
theorem impl_preperiods_e : ∀ v, (evFn (mkCtx Go.K.Link.seat impl_preperiods_c impl_preperiods_tab) (sums impl_preperiods_ls) 78 Go.Proofs.Try.f78 (encL impl_preperiods_s.a v)).run = (impl_preperiods_s.gen v).bind fun y => some (impl_preperiods_s.out y) := by
  rintro ⟨a, _⟩
  show _ = (impl_preperiods a).bind fun y : Int × Int => some (impl_preperiods_s.out y)
  simp only [impl_preperiods, kb_ite, kb_some, kb_none, kb_bind, kb_alt]
  kernel_rfl
theorem impl_preperiods_is : FnIs Go.Proofs.Try.prog 78 (modeOf []) (phi [impl_preperiods_s]) := spec_is (c := impl_preperiods_c) seatOK impl_preperiods_t Go.Proofs.Try.func78 rfl (code := impl_preperiods_code) rfl rfl impl_preperiods_rs impl_preperiods_e
noncomputable def impl_areAll_impl_Angle_v3_code : Code := (Go.Proofs.Try.f47.body).getD .skip
def impl_areAll_impl_Angle_v3_c : Cfg := ⟨47, [], [], [], []⟩
noncomputable def slices_ContainsFunc__impl_Angle_impl_Angle_v3_code : Code := (Go.Proofs.Try.f58.body).getD .skip
def slices_ContainsFunc__impl_Angle_impl_Angle_v3_c : Cfg := ⟨58, [], [], [], []⟩
noncomputable def slices_IndexFunc__impl_Angle_impl_Angle_v3_code : Code := (Go.Proofs.Try.f73.body).getD .skip
def slices_IndexFunc__impl_Angle_impl_Angle_v3_c : Cfg := ⟨73, [], [[0, 1, 7, 8], [], [4]], [], []⟩
noncomputable def impl_areAll_impl_Angle_f1_v3_code : Code := (Go.Proofs.Try.f59.body).getD .skip
def impl_areAll_impl_Angle_f1_v3_c : Cfg := ⟨59, [], [], [], []⟩
noncomputable def impl_periodic_f1_code : Code := (Go.Proofs.Try.f79.body).getD .skip
def impl_periodic_f1_c : Cfg := ⟨79, [], [], [], []⟩
noncomputable def impl_periodic_f1_s : Spec := ⟨[.v (.pair (.int .i64) (.pair (.int .i64) (.unit))) .fr, .v (.ptr (.int .i64)) .fr], Bool, fun v => impl_periodic_f1 v.1 v.2.1, fun r => ([.v (.bool) .fr r], [])⟩
noncomputable def impl_periodic_f1_ls : List LSum := []
noncomputable def impl_periodic_f1_tab : List Row := [⟨78, [], [impl_preperiods_s]⟩]
theorem impl_periodic_f1_t : ∀ r, r ∈ impl_periodic_f1_tab → RowIs Go.Proofs.Try.prog r := tab_cons (impl_preperiods_is) (tab_nil)
theorem impl_periodic_f1_rs : RoundsOK (mkCtx Go.K.Link.seat impl_periodic_f1_c impl_periodic_f1_tab) (sums impl_periodic_f1_ls) (loopsOf 0 impl_periodic_f1_code) impl_periodic_f1_ls := trivial
theorem impl_periodic_f1_e : ∀ v, (evFn (mkCtx Go.K.Link.seat impl_periodic_f1_c impl_periodic_f1_tab) (sums impl_periodic_f1_ls) 79 Go.Proofs.Try.f79 (encL impl_periodic_f1_s.a v)).run = (impl_periodic_f1_s.gen v).bind fun y => some (impl_periodic_f1_s.out y) := by
  rintro ⟨a, ⟨t1, _⟩⟩
  show _ = (impl_periodic_f1 a t1).bind fun y : Bool => some (impl_periodic_f1_s.out y)
  simp only [impl_periodic_f1, kb_ite, kb_some, kb_none, kb_bind, kb_alt]
  kernel_rfl
theorem impl_periodic_f1_is : FnIs Go.Proofs.Try.prog 79 (modeOf []) (phi [impl_periodic_f1_s]) := spec_is (c := impl_periodic_f1_c) seatOK impl_periodic_f1_t Go.Proofs.Try.func79 rfl (code := impl_periodic_f1_code) rfl rfl impl_periodic_f1_rs impl_periodic_f1_e
noncomputable def impl_areAll_impl_Angle_f1_v3_s : Spec := ⟨[.v (.pair (.int .i64) (.pair (.int .i64) (.unit))) .fr, .pfn 79 [] [.v (.ptr (.int .i64)) .fr]], Bool, fun v => impl_areAll_impl_Angle_f1_v3 v.1 v.2.1.2.1, fun r => ([.v (.bool) .fr r], [])⟩
noncomputable def impl_areAll_impl_Angle_f1_v3_ls : List LSum := []
noncomputable def impl_areAll_impl_Angle_f1_v3_tab : List Row := [⟨79, [], [impl_periodic_f1_s]⟩]
theorem impl_areAll_impl_Angle_f1_v3_t : ∀ r, r ∈ impl_areAll_impl_Angle_f1_v3_tab → RowIs Go.Proofs.Try.prog r := tab_cons (impl_periodic_f1_is) (tab_nil)
theorem impl_areAll_impl_Angle_f1_v3_rs : RoundsOK (mkCtx Go.K.Link.seat impl_areAll_impl_Angle_f1_v3_c impl_areAll_impl_Angle_f1_v3_tab) (sums impl_areAll_impl_Angle_f1_v3_ls) (loopsOf 0 impl_areAll_impl_Angle_f1_v3_code) impl_areAll_impl_Angle_f1_v3_ls := trivial
theorem impl_areAll_impl_Angle_f1_v3_e : ∀ v, (evFn (mkCtx Go.K.Link.seat impl_areAll_impl_Angle_f1_v3_c impl_areAll_impl_Angle_f1_v3_tab) (sums impl_areAll_impl_Angle_f1_v3_ls) 59 Go.Proofs.Try.f59 (encL impl_areAll_impl_Angle_f1_v3_s.a v)).run = (impl_areAll_impl_Angle_f1_v3_s.gen v).bind fun y => some (impl_areAll_impl_Angle_f1_v3_s.out y) := by
  rintro ⟨x, ⟨⟨_, ⟨t1_0, _⟩⟩, _⟩⟩
  show _ = (impl_areAll_impl_Angle_f1_v3 x t1_0).bind fun y : Bool => some (impl_areAll_impl_Angle_f1_v3_s.out y)
  simp only [impl_areAll_impl_Angle_f1_v3, kb_ite, kb_some, kb_none, kb_bind, kb_alt]
  kernel_rfl
theorem impl_areAll_impl_Angle_f1_v3_is : FnIs Go.Proofs.Try.prog 59 (modeOf []) (phi [impl_areAll_impl_Angle_f1_v3_s]) := spec_is (c := impl_areAll_impl_Angle_f1_v3_c) seatOK impl_areAll_impl_Angle_f1_v3_t Go.Proofs.Try.func59 rfl (code := impl_areAll_impl_Angle_f1_v3_code) rfl rfl impl_areAll_impl_Angle_f1_v3_rs impl_areAll_impl_Angle_f1_v3_e
noncomputable def slices_IndexFunc__impl_Angle_impl_Angle_v3_l0_s : LSum := ⟨0, ⟨[(0, .val (.sl 32 (.pair (.int .i64) (.pair (.int .i64) (.unit)))) .fr), (0, .fnl 59 [] [.arg (.pfn 79 [] [.v (.ptr (.int .i64)) .fr])]), (5, .val (.int .i64) .fr), (0, .val (.int .i64) .fr)], 10⟩, (.ret, ⟨[(4, .val (.int .i64) .fr)], 14⟩), [(.exit 0, ⟨[], 19⟩)], slices_IndexFunc__impl_Angle_impl_Angle_v3_l0⟩
noncomputable def slices_IndexFunc__impl_Angle_impl_Angle_v3_s : Spec := ⟨[.v (.sl 32 (.pair (.int .i64) (.pair (.int .i64) (.unit)))) .fr, .fn 59 [] [.pfn 79 [] [.v (.ptr (.int .i64)) .fr]]], Int, fun v => slices_IndexFunc__impl_Angle_impl_Angle_v3 v.1 v.2.1.2.1.2.1, fun r => ([.v (.int .i64) .fr r], [])⟩
noncomputable def slices_IndexFunc__impl_Angle_impl_Angle_v3_ls : List LSum := [slices_IndexFunc__impl_Angle_impl_Angle_v3_l0_s]
noncomputable def slices_IndexFunc__impl_Angle_impl_Angle_v3_tab : List Row := [⟨59, [], [impl_areAll_impl_Angle_f1_v3_s]⟩]
theorem slices_IndexFunc__impl_Angle_impl_Angle_v3_t : ∀ r, r ∈ slices_IndexFunc__impl_Angle_impl_Angle_v3_tab → RowIs Go.Proofs.Try.prog r := tab_cons (impl_areAll_impl_Angle_f1_v3_is) (tab_nil)
theorem slices_IndexFunc__impl_Angle_impl_Angle_v3_l0_r : RoundIs (mkCtx Go.K.Link.seat slices_IndexFunc__impl_Angle_impl_Angle_v3_c slices_IndexFunc__impl_Angle_impl_Angle_v3_tab) (sums slices_IndexFunc__impl_Angle_impl_Angle_v3_ls) 0 (bodyAt (loopsOf 0 slices_IndexFunc__impl_Angle_impl_Angle_v3_code) 0) slices_IndexFunc__impl_Angle_impl_Angle_v3_l0_s := by
  rintro ⟨s, ⟨_, ⟨⟨_, ⟨f, _⟩⟩, _⟩, ⟨t7, ⟨t8, _⟩⟩⟩⟩
  show _ = (slices_IndexFunc__impl_Angle_impl_Angle_v3_l0 (s, ((), (((), (f, ())), ()), (t7, (t8, ()))))).bind fun r : (Ctl ((List (Int × (Int × Unit))) × Unit × ((Unit × (Int × Unit)) × Unit) × Int × Int × Unit) ((Int × Unit) ⊕ (Unit))) => some (ctlVal slices_IndexFunc__impl_Angle_impl_Angle_v3_l0_s r)
  simp only [slices_IndexFunc__impl_Angle_impl_Angle_v3_l0, kb_ite, kb_some, kb_none, kb_bind, kb_alt]
  kernel_rfl
theorem slices_IndexFunc__impl_Angle_impl_Angle_v3_rs : RoundsOK (mkCtx Go.K.Link.seat slices_IndexFunc__impl_Angle_impl_Angle_v3_c slices_IndexFunc__impl_Angle_impl_Angle_v3_tab) (sums slices_IndexFunc__impl_Angle_impl_Angle_v3_ls) (loopsOf 0 slices_IndexFunc__impl_Angle_impl_Angle_v3_code) slices_IndexFunc__impl_Angle_impl_Angle_v3_ls := ⟨⟨rfl, rfl, slices_IndexFunc__impl_Angle_impl_Angle_v3_l0_r⟩, trivial⟩
theorem slices_IndexFunc__impl_Angle_impl_Angle_v3_e : ∀ v, (evFn (mkCtx Go.K.Link.seat slices_IndexFunc__impl_Angle_impl_Angle_v3_c slices_IndexFunc__impl_Angle_impl_Angle_v3_tab) (sums slices_IndexFunc__impl_Angle_impl_Angle_v3_ls) 73 Go.Proofs.Try.f73 (encL slices_IndexFunc__impl_Angle_impl_Angle_v3_s.a v)).run = (slices_IndexFunc__impl_Angle_impl_Angle_v3_s.gen v).bind fun y => some (slices_IndexFunc__impl_Angle_impl_Angle_v3_s.out y) := by
  rintro ⟨s, ⟨⟨_, ⟨⟨_, ⟨f_0_1, _⟩⟩, _⟩⟩, _⟩⟩
  show _ = (slices_IndexFunc__impl_Angle_impl_Angle_v3 s f_0_1).bind fun y : Int => some (slices_IndexFunc__impl_Angle_impl_Angle_v3_s.out y)
  simp only [slices_IndexFunc__impl_Angle_impl_Angle_v3, kb_ite, kb_some, kb_none, kb_bind, kb_alt]
  kernel_rfl
theorem slices_IndexFunc__impl_Angle_impl_Angle_v3_is : FnIs Go.Proofs.Try.prog 73 (modeOf []) (phi [slices_IndexFunc__impl_Angle_impl_Angle_v3_s]) := spec_is (c := slices_IndexFunc__impl_Angle_impl_Angle_v3_c) seatOK slices_IndexFunc__impl_Angle_impl_Angle_v3_t Go.Proofs.Try.func73 rfl (code := slices_IndexFunc__impl_Angle_impl_Angle_v3_code) rfl rfl slices_IndexFunc__impl_Angle_impl_Angle_v3_rs slices_IndexFunc__impl_Angle_impl_Angle_v3_e
noncomputable def slices_ContainsFunc__impl_Angle_impl_Angle_v3_s : Spec := ⟨[.v (.sl 32 (.pair (.int .i64) (.pair (.int .i64) (.unit)))) .fr, .fn 59 [] [.pfn 79 [] [.v (.ptr (.int .i64)) .fr]]], Bool, fun v => slices_ContainsFunc__impl_Angle_impl_Angle_v3 v.1 v.2.1.2.1.2.1, fun r => ([.v (.bool) .fr r], [])⟩
noncomputable def slices_ContainsFunc__impl_Angle_impl_Angle_v3_ls : List LSum := []
noncomputable def slices_ContainsFunc__impl_Angle_impl_Angle_v3_tab : List Row := [⟨73, [], [slices_IndexFunc__impl_Angle_impl_Angle_v3_s]⟩]
theorem slices_ContainsFunc__impl_Angle_impl_Angle_v3_t : ∀ r, r ∈ slices_ContainsFunc__impl_Angle_impl_Angle_v3_tab → RowIs Go.Proofs.Try.prog r := tab_cons (slices_IndexFunc__impl_Angle_impl_Angle_v3_is) (tab_nil)
theorem slices_ContainsFunc__impl_Angle_impl_Angle_v3_rs : RoundsOK (mkCtx Go.K.Link.seat slices_ContainsFunc__impl_Angle_impl_Angle_v3_c slices_ContainsFunc__impl_Angle_impl_Angle_v3_tab) (sums slices_ContainsFunc__impl_Angle_impl_Angle_v3_ls) (loopsOf 0 slices_ContainsFunc__impl_Angle_impl_Angle_v3_code) slices_ContainsFunc__impl_Angle_impl_Angle_v3_ls := trivial
theorem slices_ContainsFunc__impl_Angle_impl_Angle_v3_e : ∀ v, (evFn (mkCtx Go.K.Link.seat slices_ContainsFunc__impl_Angle_impl_Angle_v3_c slices_ContainsFunc__impl_Angle_impl_Angle_v3_tab) (sums slices_ContainsFunc__impl_Angle_impl_Angle_v3_ls) 58 Go.Proofs.Try.f58 (encL slices_ContainsFunc__impl_Angle_impl_Angle_v3_s.a v)).run = (slices_ContainsFunc__impl_Angle_impl_Angle_v3_s.gen v).bind fun y => some (slices_ContainsFunc__impl_Angle_impl_Angle_v3_s.out y) := by
  rintro ⟨s, ⟨⟨_, ⟨⟨_, ⟨f_0_1, _⟩⟩, _⟩⟩, _⟩⟩
  show _ = (slices_ContainsFunc__impl_Angle_impl_Angle_v3 s f_0_1).bind fun y : Bool => some (slices_ContainsFunc__impl_Angle_impl_Angle_v3_s.out y)
  simp only [slices_ContainsFunc__impl_Angle_impl_Angle_v3, kb_ite, kb_some, kb_none, kb_bind, kb_alt]
  kernel_rfl
theorem slices_ContainsFunc__impl_Angle_impl_Angle_v3_is : FnIs Go.Proofs.Try.prog 58 (modeOf []) (phi [slices_ContainsFunc__impl_Angle_impl_Angle_v3_s]) := spec_is (c := slices_ContainsFunc__impl_Angle_impl_Angle_v3_c) seatOK slices_ContainsFunc__impl_Angle_impl_Angle_v3_t Go.Proofs.Try.func58 rfl (code := slices_ContainsFunc__impl_Angle_impl_Angle_v3_code) rfl rfl slices_ContainsFunc__impl_Angle_impl_Angle_v3_rs slices_ContainsFunc__impl_Angle_impl_Angle_v3_e
noncomputable def impl_areAll_impl_Angle_v3_s : Spec := ⟨[.v (.sl 32 (.pair (.int .i64) (.pair (.int .i64) (.unit)))) .fr, .fn 79 [] [.v (.ptr (.int .i64)) .fr]], Bool, fun v => impl_areAll_impl_Angle_v3 v.1 v.2.1.2.1, fun r => ([.v (.bool) .fr r], [])⟩
noncomputable def impl_areAll_impl_Angle_v3_ls : List LSum := []
noncomputable def impl_areAll_impl_Angle_v3_tab : List Row := [⟨58, [], [slices_ContainsFunc__impl_Angle_impl_Angle_v3_s]⟩]
theorem impl_areAll_impl_Angle_v3_t : ∀ r, r ∈ impl_areAll_impl_Angle_v3_tab → RowIs Go.Proofs.Try.prog r := tab_cons (slices_ContainsFunc__impl_Angle_impl_Angle_v3_is) (tab_nil)
theorem impl_areAll_impl_Angle_v3_rs : RoundsOK (mkCtx Go.K.Link.seat impl_areAll_impl_Angle_v3_c impl_areAll_impl_Angle_v3_tab) (sums impl_areAll_impl_Angle_v3_ls) (loopsOf 0 impl_areAll_impl_Angle_v3_code) impl_areAll_impl_Angle_v3_ls := trivial
theorem impl_areAll_impl_Angle_v3_e : ∀ v, (evFn (mkCtx Go.K.Link.seat impl_areAll_impl_Angle_v3_c impl_areAll_impl_Angle_v3_tab) (sums impl_areAll_impl_Angle_v3_ls) 47 Go.Proofs.Try.f47 (encL impl_areAll_impl_Angle_v3_s.a v)).run = (impl_areAll_impl_Angle_v3_s.gen v).bind fun y => some (impl_areAll_impl_Angle_v3_s.out y) := by
  rintro ⟨list, ⟨⟨_, ⟨is'_0, _⟩⟩, _⟩⟩
  show _ = (impl_areAll_impl_Angle_v3 list is'_0).bind fun y : Bool => some (impl_areAll_impl_Angle_v3_s.out y)
  simp only [impl_areAll_impl_Angle_v3, kb_ite, kb_some, kb_none, kb_bind, kb_alt]
  kernel_rfl
theorem impl_areAll_impl_Angle_v3_is : FnIs Go.Proofs.Try.prog 47 (modeOf []) (phi [impl_areAll_impl_Angle_v3_s]) := spec_is (c := impl_areAll_impl_Angle_v3_c) seatOK impl_areAll_impl_Angle_v3_t Go.Proofs.Try.func47 rfl (code := impl_areAll_impl_Angle_v3_code) rfl rfl impl_areAll_impl_Angle_v3_rs impl_areAll_impl_Angle_v3_e
noncomputable def impl_periodic_s : Spec := ⟨[.v (.sl 32 (.pair (.int .i64) (.pair (.int .i64) (.unit)))) .fr], Bool, fun v => impl_periodic v.1, fun r => ([.v (.bool) .fr r], [])⟩
noncomputable def impl_periodic_ls : List LSum := []
noncomputable def impl_periodic_tab : List Row := [⟨47, [], [impl_areAll_impl_Angle_v3_s]⟩, ⟨78, [], [impl_preperiods_s]⟩]
theorem impl_periodic_t : ∀ r, r ∈ impl_periodic_tab → RowIs Go.Proofs.Try.prog r := tab_cons (impl_areAll_impl_Angle_v3_is) (tab_cons (impl_preperiods_is) (tab_nil))
theorem impl_periodic_rs : RoundsOK (mkCtx Go.K.Link.seat impl_periodic_c impl_periodic_tab) (sums impl_periodic_ls) (loopsOf 0 impl_periodic_code) impl_periodic_ls := trivial
theorem impl_periodic_e : ∀ v, (evFn (mkCtx Go.K.Link.seat impl_periodic_c impl_periodic_tab) (sums impl_periodic_ls) 67 Go.Proofs.Try.f67 (encL impl_periodic_s.a v)).run = (impl_periodic_s.gen v).bind fun y => some (impl_periodic_s.out y) := by
  rintro ⟨list, _⟩
  show _ = (impl_periodic list).bind fun y : Bool => some (impl_periodic_s.out y)
  simp only [impl_periodic, kb_ite, kb_some, kb_none, kb_bind, kb_alt]
  kernel_rfl
theorem impl_periodic_is : FnIs Go.Proofs.Try.prog 67 (modeOf []) (phi [impl_periodic_s]) := spec_is (c := impl_periodic_c) seatOK impl_periodic_t Go.Proofs.Try.func67 rfl (code := impl_periodic_code) rfl rfl impl_periodic_rs impl_periodic_e
noncomputable def impl_areUnlinked_code : Code := (Go.Proofs.Try.f68.body).getD .skip
def impl_areUnlinked_c : Cfg := ⟨68, [], [[0, 1, 11, 12, 13], [], [4]], [], []⟩
noncomputable def impl_areAll_impl_Angle_v4_code : Code := (Go.Proofs.Try.f47.body).getD .skip
def impl_areAll_impl_Angle_v4_c : Cfg := ⟨47, [], [], [], []⟩
noncomputable def slices_ContainsFunc__impl_Angle_impl_Angle_v4_code : Code := (Go.Proofs.Try.f58.body).getD .skip
def slices_ContainsFunc__impl_Angle_impl_Angle_v4_c : Cfg := ⟨58, [], [], [], []⟩
noncomputable def slices_IndexFunc__impl_Angle_impl_Angle_v4_code : Code := (Go.Proofs.Try.f73.body).getD .skip
def slices_IndexFunc__impl_Angle_impl_Angle_v4_c : Cfg := ⟨73, [], [[0, 1, 7, 8], [], [4]], [], []⟩
noncomputable def impl_areAll_impl_Angle_f1_v4_code : Code := (Go.Proofs.Try.f59.body).getD .skip
def impl_areAll_impl_Angle_f1_v4_c : Cfg := ⟨59, [], [], [], []⟩
noncomputable def impl_areUnlinked_f1_code : Code := (Go.Proofs.Try.f80.body).getD .skip
def impl_areUnlinked_f1_c : Cfg := ⟨80, [], [], [], []⟩
noncomputable def impl_order_code : Code := (Go.Proofs.Try.f81.body).getD .skip
def impl_order_c : Cfg := ⟨81, [], [], [], []⟩
noncomputable def impl_Angle_minus_code : Code := (Go.Proofs.Try.f94.body).getD .skip
def impl_Angle_minus_c : Cfg := ⟨94, [], [], [], []⟩
noncomputable def impl_Angle_minus_s : Spec := ⟨[.v (.pair (.int .i64) (.pair (.int .i64) (.unit))) .fr, .v (.pair (.int .i64) (.pair (.int .i64) (.unit))) .fr], (Int × (Int × Unit)), fun v => impl_Angle_minus v.1 v.2.1, fun r => ([.v (.pair (.int .i64) (.pair (.int .i64) (.unit))) .fr r], [])⟩
noncomputable def impl_Angle_minus_ls : List LSum := []
noncomputable def impl_Angle_minus_tab : List Row := [⟨18, [], [impl_angle_s]⟩]
theorem impl_Angle_minus_t : ∀ r, r ∈ impl_Angle_minus_tab → RowIs Go.Proofs.Try.prog r := tab_cons (impl_angle_is) (tab_nil)
theorem impl_Angle_minus_rs : RoundsOK (mkCtx Go.K.Link.seat impl_Angle_minus_c impl_Angle_minus_tab) (sums impl_Angle_minus_ls) (loopsOf 0 impl_Angle_minus_code) impl_Angle_minus_ls := trivial
theorem impl_Angle_minus_e : ∀ v, (evFn (mkCtx Go.K.Link.seat impl_Angle_minus_c impl_Angle_minus_tab) (sums impl_Angle_minus_ls) 94 Go.Proofs.Try.f94 (encL impl_Angle_minus_s.a v)).run = (impl_Angle_minus_s.gen v).bind fun y => some (impl_Angle_minus_s.out y) := by
  rintro ⟨a, ⟨b, _⟩⟩
  show _ = (impl_Angle_minus a b).bind fun y : (Int × (Int × Unit)) => some (impl_Angle_minus_s.out y)
  simp only [impl_Angle_minus, kb_ite, kb_some, kb_none, kb_bind, kb_alt]
  kernel_rfl
theorem impl_Angle_minus_is : FnIs Go.Proofs.Try.prog 94 (modeOf []) (phi [impl_Angle_minus_s]) := spec_is (c := impl_Angle_minus_c) seatOK impl_Angle_minus_t Go.Proofs.Try.func94 rfl (code := impl_Angle_minus_code) rfl rfl impl_Angle_minus_rs impl_Angle_minus_e
noncomputable def impl_order_s : Spec := ⟨[.v (.pair (.int .i64) (.pair (.int .i64) (.unit))) .fr, .v (.pair (.int .i64) (.pair (.int .i64) (.unit))) .fr, .v (.pair (.int .i64) (.pair (.int .i64) (.unit))) .fr], Int, fun v => impl_order v.1 v.2.1 v.2.2.1, fun r => ([.v (.int .i64) .fr r], [])⟩
noncomputable def impl_order_ls : List LSum := []
noncomputable def impl_order_tab : List Row := [⟨45, [], [impl_Angle_compare_s]⟩, ⟨94, [], [impl_Angle_minus_s]⟩]
theorem impl_order_t : ∀ r, r ∈ impl_order_tab → RowIs Go.Proofs.Try.prog r := tab_cons (impl_Angle_compare_is) (tab_cons (impl_Angle_minus_is) (tab_nil))
theorem impl_order_rs : RoundsOK (mkCtx Go.K.Link.seat impl_order_c impl_order_tab) (sums impl_order_ls) (loopsOf 0 impl_order_code) impl_order_ls := trivial
theorem impl_order_e : ∀ v, (evFn (mkCtx Go.K.Link.seat impl_order_c impl_order_tab) (sums impl_order_ls) 81 Go.Proofs.Try.f81 (encL impl_order_s.a v)).run = (impl_order_s.gen v).bind fun y => some (impl_order_s.out y) := by
  rintro ⟨a, ⟨b, ⟨c, _⟩⟩⟩
  show _ = (impl_order a b c).bind fun y : Int => some (impl_order_s.out y)
  simp only [impl_order, kb_ite, kb_some, kb_none, kb_bind, kb_alt]
  kernel_rfl
theorem impl_order_is : FnIs Go.Proofs.Try.prog 81 (modeOf []) (phi [impl_order_s]) := spec_is (c := impl_order_c) seatOK impl_order_t Go.Proofs.Try.func81 rfl (code := impl_order_code) rfl rfl impl_order_rs impl_order_e
noncomputable def impl_areUnlinked_f1_s : Spec := ⟨[.v (.pair (.int .i64) (.pair (.int .i64) (.unit))) .fr, .v (.ptr (.pair (.int .i64) (.pair (.int .i64) (.unit)))) .fr, .v (.ptr (.pair (.int .i64) (.pair (.int .i64) (.unit)))) .fr], Bool, fun v => impl_areUnlinked_f1 v.1 v.2.1 v.2.2.1, fun r => ([.v (.bool) .fr r], [])⟩
noncomputable def impl_areUnlinked_f1_ls : List LSum := []
noncomputable def impl_areUnlinked_f1_tab : List Row := [⟨81, [], [impl_order_s]⟩]
theorem impl_areUnlinked_f1_t : ∀ r, r ∈ impl_areUnlinked_f1_tab → RowIs Go.Proofs.Try.prog r := tab_cons (impl_order_is) (tab_nil)
theorem impl_areUnlinked_f1_rs : RoundsOK (mkCtx Go.K.Link.seat impl_areUnlinked_f1_c impl_areUnlinked_f1_tab) (sums impl_areUnlinked_f1_ls) (loopsOf 0 impl_areUnlinked_f1_code) impl_areUnlinked_f1_ls := trivial
theorem impl_areUnlinked_f1_e : ∀ v, (evFn (mkCtx Go.K.Link.seat impl_areUnlinked_f1_c impl_areUnlinked_f1_tab) (sums impl_areUnlinked_f1_ls) 80 Go.Proofs.Try.f80 (encL impl_areUnlinked_f1_s.a v)).run = (impl_areUnlinked_f1_s.gen v).bind fun y => some (impl_areUnlinked_f1_s.out y) := by
  rintro ⟨x, ⟨t1, ⟨t2, _⟩⟩⟩
  show _ = (impl_areUnlinked_f1 x t1 t2).bind fun y : Bool => some (impl_areUnlinked_f1_s.out y)
  simp only [impl_areUnlinked_f1, kb_ite, kb_some, kb_none, kb_bind, kb_alt]
  kernel_rfl
theorem impl_areUnlinked_f1_is : FnIs Go.Proofs.Try.prog 80 (modeOf []) (phi [impl_areUnlinked_f1_s]) := spec_is (c := impl_areUnlinked_f1_c) seatOK impl_areUnlinked_f1_t Go.Proofs.Try.func80 rfl (code := impl_areUnlinked_f1_code) rfl rfl impl_areUnlinked_f1_rs impl_areUnlinked_f1_e
noncomputable def impl_areAll_impl_Angle_f1_v4_s : Spec := ⟨[.v (.pair (.int .i64) (.pair (.int .i64) (.unit))) .fr, .pfn 80 [] [.v (.ptr (.pair (.int .i64) (.pair (.int .i64) (.unit)))) .fr, .v (.ptr (.pair (.int .i64) (.pair (.int .i64) (.unit)))) .fr]], Bool, fun v => impl_areAll_impl_Angle_f1_v4 v.1 v.2.1.2.1 v.2.1.2.2.1, fun r => ([.v (.bool) .fr r], [])⟩
noncomputable def impl_areAll_impl_Angle_f1_v4_ls : List LSum := []
noncomputable def impl_areAll_impl_Angle_f1_v4_tab : List Row := [⟨80, [], [impl_areUnlinked_f1_s]⟩]
theorem impl_areAll_impl_Angle_f1_v4_t : ∀ r, r ∈ impl_areAll_impl_Angle_f1_v4_tab → RowIs Go.Proofs.Try.prog r := tab_cons (impl_areUnlinked_f1_is) (tab_nil)
theorem impl_areAll_impl_Angle_f1_v4_rs : RoundsOK (mkCtx Go.K.Link.seat impl_areAll_impl_Angle_f1_v4_c impl_areAll_impl_Angle_f1_v4_tab) (sums impl_areAll_impl_Angle_f1_v4_ls) (loopsOf 0 impl_areAll_impl_Angle_f1_v4_code) impl_areAll_impl_Angle_f1_v4_ls := trivial
theorem impl_areAll_impl_Angle_f1_v4_e : ∀ v, (evFn (mkCtx Go.K.Link.seat impl_areAll_impl_Angle_f1_v4_c impl_areAll_impl_Angle_f1_v4_tab) (sums impl_areAll_impl_Angle_f1_v4_ls) 59 Go.Proofs.Try.f59 (encL impl_areAll_impl_Angle_f1_v4_s.a v)).run = (impl_areAll_impl_Angle_f1_v4_s.gen v).bind fun y => some (impl_areAll_impl_Angle_f1_v4_s.out y) := by
  rintro ⟨x, ⟨⟨_, ⟨t1_0, ⟨t1_1, _⟩⟩⟩, _⟩⟩
  show _ = (impl_areAll_impl_Angle_f1_v4 x t1_0 t1_1).bind fun y : Bool => some (impl_areAll_impl_Angle_f1_v4_s.out y)
  simp only [impl_areAll_impl_Angle_f1_v4, kb_ite, kb_some, kb_none, kb_bind, kb_alt]
  kernel_rfl
theorem impl_areAll_impl_Angle_f1_v4_is : FnIs Go.Proofs.Try.prog 59 (modeOf []) (phi [impl_areAll_impl_Angle_f1_v4_s]) := spec_is (c := impl_areAll_impl_Angle_f1_v4_c) seatOK impl_areAll_impl_Angle_f1_v4_t Go.Proofs.Try.func59 rfl (code := impl_areAll_impl_Angle_f1_v4_code) rfl rfl impl_areAll_impl_Angle_f1_v4_rs impl_areAll_impl_Angle_f1_v4_e
noncomputable def slices_IndexFunc__impl_Angle_impl_Angle_v4_l0_s : LSum := ⟨0, ⟨[(0, .val (.sl 32 (.pair (.int .i64) (.pair (.int .i64) (.unit)))) .fr), (0, .fnl 59 [] [.arg (.pfn 80 [] [.v (.ptr (.pair (.int .i64) (.pair (.int .i64) (.unit)))) .fr, .v (.ptr (.pair (.int .i64) (.pair (.int .i64) (.unit)))) .fr])]), (5, .val (.int .i64) .fr), (0, .val (.int .i64) .fr)], 10⟩, (.ret, ⟨[(4, .val (.int .i64) .fr)], 14⟩), [(.exit 0, ⟨[], 19⟩)], slices_IndexFunc__impl_Angle_impl_Angle_v4_l0⟩
noncomputable def slices_IndexFunc__impl_Angle_impl_Angle_v4_s : Spec := ⟨[.v (.sl 32 (.pair (.int .i64) (.pair (.int .i64) (.unit)))) .fr, .fn 59 [] [.pfn 80 [] [.v (.ptr (.pair (.int .i64) (.pair (.int .i64) (.unit)))) .fr, .v (.ptr (.pair (.int .i64) (.pair (.int .i64) (.unit)))) .fr]]], Int, fun v => slices_IndexFunc__impl_Angle_impl_Angle_v4 v.1 v.2.1.2.1.2.1 v.2.1.2.1.2.2.1, fun r => ([.v (.int .i64) .fr r], [])⟩
noncomputable def slices_IndexFunc__impl_Angle_impl_Angle_v4_ls : List LSum := [slices_IndexFunc__impl_Angle_impl_Angle_v4_l0_s]
noncomputable def slices_IndexFunc__impl_Angle_impl_Angle_v4_tab : List Row := [⟨59, [], [impl_areAll_impl_Angle_f1_v4_s]⟩]
theorem slices_IndexFunc__impl_Angle_impl_Angle_v4_t : ∀ r, r ∈ slices_IndexFunc__impl_Angle_impl_Angle_v4_tab → RowIs Go.Proofs.Try.prog r := tab_cons (impl_areAll_impl_Angle_f1_v4_is) (tab_nil)
theorem slices_IndexFunc__impl_Angle_impl_Angle_v4_l0_r : RoundIs (mkCtx Go.K.Link.seat slices_IndexFunc__impl_Angle_impl_Angle_v4_c slices_IndexFunc__impl_Angle_impl_Angle_v4_tab) (sums slices_IndexFunc__impl_Angle_impl_Angle_v4_ls) 0 (bodyAt (loopsOf 0 slices_IndexFunc__impl_Angle_impl_Angle_v4_code) 0) slices_IndexFunc__impl_Angle_impl_Angle_v4_l0_s := by
  rintro ⟨s, ⟨_, ⟨⟨_, ⟨f_0, ⟨f_1, _⟩⟩⟩, _⟩, ⟨t7, ⟨t8, _⟩⟩⟩⟩
  show _ = (slices_IndexFunc__impl_Angle_impl_Angle_v4_l0 (s, ((), (((), (f_0, (f_1, ()))), ()), (t7, (t8, ()))))).bind fun r : (Ctl ((List (Int × (Int × Unit))) × Unit × ((Unit × ((Int × (Int × Unit)) × ((Int × (Int × Unit)) × Unit))) × Unit) × Int × Int × Unit) ((Int × Unit) ⊕ (Unit))) => some (ctlVal slices_IndexFunc__impl_Angle_impl_Angle_v4_l0_s r)
  simp only [slices_IndexFunc__impl_Angle_impl_Angle_v4_l0, kb_ite, kb_some, kb_none, kb_bind, kb_alt]
  kernel_rfl
theorem slices_IndexFunc__impl_Angle_impl_Angle_v4_rs : RoundsOK (mkCtx Go.K.Link.seat slices_IndexFunc__impl_Angle_impl_Angle_v4_c slices_IndexFunc__impl_Angle_impl_Angle_v4_tab) (sums slices_IndexFunc__impl_Angle_impl_Angle_v4_ls) (loopsOf 0 slices_IndexFunc__impl_Angle_impl_Angle_v4_code) slices_IndexFunc__impl_Angle_impl_Angle_v4_ls := ⟨⟨rfl, rfl, slices_IndexFunc__impl_Angle_impl_Angle_v4_l0_r⟩, trivial⟩
theorem slices_IndexFunc__impl_Angle_impl_Angle_v4_e : ∀ v, (evFn (mkCtx Go.K.Link.seat slices_IndexFunc__impl_Angle_impl_Angle_v4_c slices_IndexFunc__impl_Angle_impl_Angle_v4_tab) (sums slices_IndexFunc__impl_Angle_impl_Angle_v4_ls) 73 Go.Proofs.Try.f73 (encL slices_IndexFunc__impl_Angle_impl_Angle_v4_s.a v)).run = (slices_IndexFunc__impl_Angle_impl_Angle_v4_s.gen v).bind fun y => some (slices_IndexFunc__impl_Angle_impl_Angle_v4_s.out y) := by
  rintro ⟨s, ⟨⟨_, ⟨⟨_, ⟨f_0_1, ⟨f_0_2, _⟩⟩⟩, _⟩⟩, _⟩⟩
  show _ = (slices_IndexFunc__impl_Angle_impl_Angle_v4 s f_0_1 f_0_2).bind fun y : Int => some (slices_IndexFunc__impl_Angle_impl_Angle_v4_s.out y)
  simp only [slices_IndexFunc__impl_Angle_impl_Angle_v4, kb_ite, kb_some, kb_none, kb_bind, kb_alt]
  kernel_rfl
theorem slices_IndexFunc__impl_Angle_impl_Angle_v4_is : FnIs Go.Proofs.Try.prog 73 (modeOf []) (phi [slices_IndexFunc__impl_Angle_impl_Angle_v4_s]) := spec_is (c := slices_IndexFunc__impl_Angle_impl_Angle_v4_c) seatOK slices_IndexFunc__impl_Angle_impl_Angle_v4_t Go.Proofs.Try.func73 rfl (code := slices_IndexFunc__impl_Angle_impl_Angle_v4_code) rfl rfl slices_IndexFunc__impl_Angle_impl_Angle_v4_rs slices_IndexFunc__impl_Angle_impl_Angle_v4_e
noncomputable def slices_ContainsFunc__impl_Angle_impl_Angle_v4_s : Spec := ⟨[.v (.sl 32 (.pair (.int .i64) (.pair (.int .i64) (.unit)))) .fr, .fn 59 [] [.pfn 80 [] [.v (.ptr (.pair (.int .i64) (.pair (.int .i64) (.unit)))) .fr, .v (.ptr (.pair (.int .i64) (.pair (.int .i64) (.unit)))) .fr]]], Bool, fun v => slices_ContainsFunc__impl_Angle_impl_Angle_v4 v.1 v.2.1.2.1.2.1 v.2.1.2.1.2.2.1, fun r => ([.v (.bool) .fr r], [])⟩
noncomputable def slices_ContainsFunc__impl_Angle_impl_Angle_v4_ls : List LSum := []
noncomputable def slices_ContainsFunc__impl_Angle_impl_Angle_v4_tab : List Row := [⟨73, [], [slices_IndexFunc__impl_Angle_impl_Angle_v4_s]⟩]
theorem slices_ContainsFunc__impl_Angle_impl_Angle_v4_t : ∀ r, r ∈ slices_ContainsFunc__impl_Angle_impl_Angle_v4_tab → RowIs Go.Proofs.Try.prog r := tab_cons (slices_IndexFunc__impl_Angle_impl_Angle_v4_is) (tab_nil)
theorem slices_ContainsFunc__impl_Angle_impl_Angle_v4_rs : RoundsOK (mkCtx Go.K.Link.seat slices_ContainsFunc__impl_Angle_impl_Angle_v4_c slices_ContainsFunc__impl_Angle_impl_Angle_v4_tab) (sums slices_ContainsFunc__impl_Angle_impl_Angle_v4_ls) (loopsOf 0 slices_ContainsFunc__impl_Angle_impl_Angle_v4_code) slices_ContainsFunc__impl_Angle_impl_Angle_v4_ls := trivial
theorem slices_ContainsFunc__impl_Angle_impl_Angle_v4_e : ∀ v, (evFn (mkCtx Go.K.Link.seat slices_ContainsFunc__impl_Angle_impl_Angle_v4_c slices_ContainsFunc__impl_Angle_impl_Angle_v4_tab) (sums slices_ContainsFunc__impl_Angle_impl_Angle_v4_ls) 58 Go.Proofs.Try.f58 (encL slices_ContainsFunc__impl_Angle_impl_Angle_v4_s.a v)).run = (slices_ContainsFunc__impl_Angle_impl_Angle_v4_s.gen v).bind fun y => some (slices_ContainsFunc__impl_Angle_impl_Angle_v4_s.out y) := by
  rintro ⟨s, ⟨⟨_, ⟨⟨_, ⟨f_0_1, ⟨f_0_2, _⟩⟩⟩, _⟩⟩, _⟩⟩
  show _ = (slices_ContainsFunc__impl_Angle_impl_Angle_v4 s f_0_1 f_0_2).bind fun y : Bool => some (slices_ContainsFunc__impl_Angle_impl_Angle_v4_s.out y)
  simp only [slices_ContainsFunc__impl_Angle_impl_Angle_v4, kb_ite, kb_some, kb_none, kb_bind, kb_alt]
  kernel_rfl
theorem slices_ContainsFunc__impl_Angle_impl_Angle_v4_is : FnIs Go.Proofs.Try.prog 58 (modeOf []) (phi [slices_ContainsFunc__impl_Angle_impl_Angle_v4_s]) := spec_is (c := slices_ContainsFunc__impl_Angle_impl_Angle_v4_c) seatOK slices_ContainsFunc__impl_Angle_impl_Angle_v4_t Go.Proofs.Try.func58 rfl (code := slices_ContainsFunc__impl_Angle_impl_Angle_v4_code) rfl rfl slices_ContainsFunc__impl_Angle_impl_Angle_v4_rs slices_ContainsFunc__impl_Angle_impl_Angle_v4_e
noncomputable def impl_areAll_impl_Angle_v4_s : Spec := ⟨[.v (.sl 32 (.pair (.int .i64) (.pair (.int .i64) (.unit)))) .fr, .fn 80 [] [.v (.ptr (.pair (.int .i64) (.pair (.int .i64) (.unit)))) .fr, .v (.ptr (.pair (.int .i64) (.pair (.int .i64) (.unit)))) .fr]], Bool, fun v => impl_areAll_impl_Angle_v4 v.1 v.2.1.2.1 v.2.1.2.2.1, fun r => ([.v (.bool) .fr r], [])⟩
noncomputable def impl_areAll_impl_Angle_v4_ls : List LSum := []
noncomputable def impl_areAll_impl_Angle_v4_tab : List Row := [⟨58, [], [slices_ContainsFunc__impl_Angle_impl_Angle_v4_s]⟩]
theorem impl_areAll_impl_Angle_v4_t : ∀ r, r ∈ impl_areAll_impl_Angle_v4_tab → RowIs Go.Proofs.Try.prog r := tab_cons (slices_ContainsFunc__impl_Angle_impl_Angle_v4_is) (tab_nil)
theorem impl_areAll_impl_Angle_v4_rs : RoundsOK (mkCtx Go.K.Link.seat impl_areAll_impl_Angle_v4_c impl_areAll_impl_Angle_v4_tab) (sums impl_areAll_impl_Angle_v4_ls) (loopsOf 0 impl_areAll_impl_Angle_v4_code) impl_areAll_impl_Angle_v4_ls := trivial
theorem impl_areAll_impl_Angle_v4_e : ∀ v, (evFn (mkCtx Go.K.Link.seat impl_areAll_impl_Angle_v4_c impl_areAll_impl_Angle_v4_tab) (sums impl_areAll_impl_Angle_v4_ls) 47 Go.Proofs.Try.f47 (encL impl_areAll_impl_Angle_v4_s.a v)).run = (impl_areAll_impl_Angle_v4_s.gen v).bind fun y => some (impl_areAll_impl_Angle_v4_s.out y) := by
  rintro ⟨list, ⟨⟨_, ⟨is'_0, ⟨is'_1, _⟩⟩⟩, _⟩⟩
  show _ = (impl_areAll_impl_Angle_v4 list is'_0 is'_1).bind fun y : Bool => some (impl_areAll_impl_Angle_v4_s.out y)
  simp only [impl_areAll_impl_Angle_v4, kb_ite, kb_some, kb_none, kb_bind, kb_alt]
  kernel_rfl
theorem impl_areAll_impl_Angle_v4_is : FnIs Go.Proofs.Try.prog 47 (modeOf []) (phi [impl_areAll_impl_Angle_v4_s]) := spec_is (c := impl_areAll_impl_Angle_v4_c) seatOK impl_areAll_impl_Angle_v4_t Go.Proofs.Try.func47 rfl (code := impl_areAll_impl_Angle_v4_code) rfl rfl impl_areAll_impl_Angle_v4_rs impl_areAll_impl_Angle_v4_e
noncomputable def impl_areUnlinked_l0_s : LSum := ⟨0, ⟨[(0, .val (.sl 32 (.pair (.int .i64) (.pair (.int .i64) (.unit)))) .fr), (0, .val (.sl 32 (.pair (.int .i64) (.pair (.int .i64) (.unit)))) .fr), (9, .val (.sl 32 (.pair (.int .i64) (.pair (.int .i64) (.unit)))) .fr), (0, .val (.int .i64) .fr), (0, .val (.int .i64) .fr)], 12⟩, (.ret, ⟨[(4, .val (.bool) .fr)], 21⟩), [(.exit 0, ⟨[], 26⟩)], impl_areUnlinked_l0⟩
noncomputable def impl_areUnlinked_s : Spec := ⟨[.v (.sl 32 (.pair (.int .i64) (.pair (.int .i64) (.unit)))) .fr, .v (.sl 32 (.pair (.int .i64) (.pair (.int .i64) (.unit)))) .fr], Bool, fun v => impl_areUnlinked v.1 v.2.1, fun r => ([.v (.bool) .fr r], [])⟩
noncomputable def impl_areUnlinked_ls : List LSum := [impl_areUnlinked_l0_s]
noncomputable def impl_areUnlinked_tab : List Row := [⟨28, [], [impl_at_s]⟩, ⟨47, [], [impl_areAll_impl_Angle_v4_s]⟩]
theorem impl_areUnlinked_t : ∀ r, r ∈ impl_areUnlinked_tab → RowIs Go.Proofs.Try.prog r := tab_cons (impl_at_is) (tab_cons (impl_areAll_impl_Angle_v4_is) (tab_nil))
theorem impl_areUnlinked_l0_r : RoundIs (mkCtx Go.K.Link.seat impl_areUnlinked_c impl_areUnlinked_tab) (sums impl_areUnlinked_ls) 0 (bodyAt (loopsOf 0 impl_areUnlinked_code) 0) impl_areUnlinked_l0_s := by
  rintro ⟨set, ⟨other, ⟨t11, ⟨t12, ⟨t13, _⟩⟩⟩⟩⟩
  show _ = (impl_areUnlinked_l0 (set, (other, (t11, (t12, (t13, ())))))).bind fun r : (Ctl ((List (Int × (Int × Unit))) × (List (Int × (Int × Unit))) × (List (Int × (Int × Unit))) × Int × Int × Unit) ((Bool × Unit) ⊕ (Unit))) => some (ctlVal impl_areUnlinked_l0_s r)
  simp only [impl_areUnlinked_l0, kb_ite, kb_some, kb_none, kb_bind, kb_alt]
  kernel_rfl
theorem impl_areUnlinked_rs : RoundsOK (mkCtx Go.K.Link.seat impl_areUnlinked_c impl_areUnlinked_tab) (sums impl_areUnlinked_ls) (loopsOf 0 impl_areUnlinked_code) impl_areUnlinked_ls := ⟨⟨rfl, rfl, impl_areUnlinked_l0_r⟩, trivial⟩
theorem impl_areUnlinked_e : ∀ v, (evFn (mkCtx Go.K.Link.seat impl_areUnlinked_c impl_areUnlinked_tab) (sums impl_areUnlinked_ls) 68 Go.Proofs.Try.f68 (encL impl_areUnlinked_s.a v)).run = (impl_areUnlinked_s.gen v).bind fun y => some (impl_areUnlinked_s.out y) := by
  rintro ⟨set, ⟨other, _⟩⟩
  show _ = (impl_areUnlinked set other).bind fun y : Bool => some (impl_areUnlinked_s.out y)
  simp only [impl_areUnlinked, kb_ite, kb_some, kb_none, kb_bind, kb_alt]
  kernel_rfl
theorem impl_areUnlinked_is : FnIs Go.Proofs.Try.prog 68 (modeOf []) (phi [impl_areUnlinked_s]) := spec_is (c := impl_areUnlinked_c) seatOK impl_areUnlinked_t Go.Proofs.Try.func68 rfl (code := impl_areUnlinked_code) rfl rfl impl_areUnlinked_rs impl_areUnlinked_e
noncomputable def impl_fails_l3_s : LSum := ⟨6, ⟨[(0, .val (.sl 26 (.sl 32 (.pair (.int .i64) (.pair (.int .i64) (.unit))))) .fr), (8, .val (.int .i64) .fr), (0, .val (.sl 32 (.pair (.int .i64) (.pair (.int .i64) (.unit)))) .fr), (51, .val (.sl 26 (.sl 32 (.pair (.int .i64) (.pair (.int .i64) (.unit))))) .fr), (0, .val (.int .i64) .fr), (0, .val (.int .i64) .fr), (2, .val (.ptr (.sl 32 (.pair (.int .i64) (.pair (.int .i64) (.unit))))) .fr), (0, .val (.sl 32 (.pair (.int .i64) (.pair (.int .i64) (.unit)))) .fr), (0, .val (.sl 26 (.sl 32 (.pair (.int .i64) (.pair (.int .i64) (.unit))))) .fr), (0, .val (.int .i64) .fr), (0, .val (.int .i64) .fr)], 15⟩, (.ret, ⟨[(2, .val (.int .i64) .fr)], 84⟩), [(.exit 6, ⟨[(0, .val (.sl 26 (.sl 32 (.pair (.int .i64) (.pair (.int .i64) (.unit))))) .fr), (61, .val (.sl 26 (.sl 32 (.pair (.int .i64) (.pair (.int .i64) (.unit))))) .fr), (0, .val (.int .i64) .fr), (0, .val (.int .i64) .fr)], 22⟩)], impl_fails_l3⟩
noncomputable def impl_fails_l2_s : LSum := ⟨4, ⟨[(0, .val (.sl 26 (.sl 32 (.pair (.int .i64) (.pair (.int .i64) (.unit))))) .fr), (61, .val (.sl 26 (.sl 32 (.pair (.int .i64) (.pair (.int .i64) (.unit))))) .fr), (0, .val (.int .i64) .fr), (0, .val (.int .i64) .fr)], 22⟩, (.ret, ⟨[(2, .val (.int .i64) .fr)], 84⟩), [(.exit 4, ⟨[], 87⟩)], impl_fails_l2⟩
noncomputable def impl_fails_s : Spec := ⟨[.v (.sl 26 (.sl 32 (.pair (.int .i64) (.pair (.int .i64) (.unit))))) .fr], Int, fun v => impl_fails v.1, fun r => ([.v (.int .i64) .fr r], [])⟩
noncomputable def impl_fails_ls : List LSum := [impl_fails_l0_s, impl_fails_l1_s, impl_fails_l2_s, impl_fails_l3_s]
noncomputable def impl_fails_tab : List Row := [⟨19, [], [impl_sorted_s]⟩, ⟨49, [], [slices_Concat__impl_Angle_impl_Angle_s]⟩, ⟨64, [], [slices_Clone___impl_Angle__impl_Angle_s]⟩, ⟨65, [], [impl_leads_s]⟩, ⟨66, [], [impl_keeps_s]⟩, ⟨67, [], [impl_periodic_s]⟩, ⟨68, [], [impl_areUnlinked_s]⟩]
theorem impl_fails_t : ∀ r, r ∈ impl_fails_tab → RowIs Go.Proofs.Try.prog r := tab_cons (impl_sorted_is) (tab_cons (slices_Concat__impl_Angle_impl_Angle_is) (tab_cons (slices_Clone___impl_Angle__impl_Angle_is) (tab_cons (impl_leads_is) (tab_cons (impl_keeps_is) (tab_cons (impl_periodic_is) (tab_cons (impl_areUnlinked_is) (tab_nil)))))))
theorem impl_fails_l0_r : RoundIs (mkCtx Go.K.Link.seat impl_fails_c impl_fails_tab) (sums impl_fails_ls) 0 (bodyAt (loopsOf 0 impl_fails_code) 0) impl_fails_l0_s := by
  rintro ⟨sets, ⟨all, ⟨next', ⟨t29, ⟨t30, ⟨t31, _⟩⟩⟩⟩⟩⟩
  show _ = (impl_fails_l0 (sets, (all, (next', (t29, (t30, (t31, ()))))))).bind fun r : (Ctl ((List (List (Int × (Int × Unit)))) × (List (Int × (Int × Unit))) × (List (List (Int × (Int × Unit)))) × (List (List (Int × (Int × Unit)))) × Int × Int × Unit) ((Int × Unit) ⊕ ((List (List (Int × (Int × Unit)))) × (List (Int × (Int × Unit))) × (List (List (Int × (Int × Unit)))) × Unit))) => some (ctlVal impl_fails_l0_s r)
  simp only [impl_fails_l0, kb_ite, kb_some, kb_none, kb_bind, kb_alt]
  kernel_rfl
theorem impl_fails_l1_r : RoundIs (mkCtx Go.K.Link.seat impl_fails_c impl_fails_tab) (sums impl_fails_ls) 2 (bodyAt (loopsOf 0 impl_fails_code) 1) impl_fails_l1_s := by
  rintro ⟨sets, ⟨all, ⟨next', ⟨t44, ⟨t45, ⟨t46, _⟩⟩⟩⟩⟩⟩
  show _ = (impl_fails_l1 (sets, (all, (next', (t44, (t45, (t46, ()))))))).bind fun r : (Ctl ((List (List (Int × (Int × Unit)))) × (List (Int × (Int × Unit))) × (List (List (Int × (Int × Unit)))) × (List (List (Int × (Int × Unit)))) × Int × Int × Unit) ((Int × Unit) ⊕ ((List (List (Int × (Int × Unit)))) × (List (Int × (Int × Unit))) × Unit))) => some (ctlVal impl_fails_l1_s r)
  simp only [impl_fails_l1, kb_ite, kb_some, kb_none, kb_bind, kb_alt]
  kernel_rfl
theorem impl_fails_l2_r : RoundIs (mkCtx Go.K.Link.seat impl_fails_c impl_fails_tab) (sums impl_fails_ls) 4 (bodyAt (loopsOf 0 impl_fails_code) 2) impl_fails_l2_s := by
  rintro ⟨sets, ⟨t62, ⟨t63, ⟨t64, _⟩⟩⟩⟩
  show _ = (impl_fails_l2 (sets, (t62, (t63, (t64, ()))))).bind fun r : (Ctl ((List (List (Int × (Int × Unit)))) × (List (List (Int × (Int × Unit)))) × Int × Int × Unit) ((Int × Unit) ⊕ (Unit))) => some (ctlVal impl_fails_l2_s r)
  simp only [impl_fails_l2, kb_ite, kb_some, kb_none, kb_bind, kb_alt]
  kernel_rfl
theorem impl_fails_l3_r : RoundIs (mkCtx Go.K.Link.seat impl_fails_c impl_fails_tab) (sums impl_fails_ls) 6 (bodyAt (loopsOf 0 impl_fails_code) 3) impl_fails_l3_s := by
  rintro ⟨sets, ⟨i, ⟨set, ⟨t62, ⟨t63, ⟨t64, ⟨t67, ⟨t68, ⟨t69, ⟨t70, ⟨t71, _⟩⟩⟩⟩⟩⟩⟩⟩⟩⟩⟩
  show _ = (impl_fails_l3 (sets, (i, (set, (t62, (t63, (t64, (t67, (t68, (t69, (t70, (t71, ())))))))))))).bind fun r : (Ctl ((List (List (Int × (Int × Unit)))) × Int × (List (Int × (Int × Unit))) × (List (List (Int × (Int × Unit)))) × Int × Int × (List (Int × (Int × Unit))) × (List (Int × (Int × Unit))) × (List (List (Int × (Int × Unit)))) × Int × Int × Unit) ((Int × Unit) ⊕ ((List (List (Int × (Int × Unit)))) × (List (List (Int × (Int × Unit)))) × Int × Int × Unit))) => some (ctlVal impl_fails_l3_s r)
  simp only [impl_fails_l3, kb_ite, kb_some, kb_none, kb_bind, kb_alt]
  kernel_rfl
theorem impl_fails_rs : RoundsOK (mkCtx Go.K.Link.seat impl_fails_c impl_fails_tab) (sums impl_fails_ls) (loopsOf 0 impl_fails_code) impl_fails_ls := ⟨⟨rfl, rfl, impl_fails_l0_r⟩, ⟨⟨rfl, rfl, impl_fails_l1_r⟩, ⟨⟨rfl, rfl, impl_fails_l2_r⟩, ⟨⟨rfl, rfl, impl_fails_l3_r⟩, trivial⟩⟩⟩⟩
theorem impl_fails_e : ∀ v, (evFn (mkCtx Go.K.Link.seat impl_fails_c impl_fails_tab) (sums impl_fails_ls) 51 Go.Proofs.Try.f51 (encL impl_fails_s.a v)).run = (impl_fails_s.gen v).bind fun y => some (impl_fails_s.out y) := by
  rintro ⟨sets, _⟩
  show _ = (impl_fails sets).bind fun y : Int => some (impl_fails_s.out y)
  simp only [impl_fails, kb_ite, kb_some, kb_none, kb_bind, kb_alt]
  kernel_rfl
theorem impl_fails_is : FnIs Go.Proofs.Try.prog 51 (modeOf []) (phi [impl_fails_s]) := spec_is (c := impl_fails_c) seatOK impl_fails_t Go.Proofs.Try.func51 rfl (code := impl_fails_code) rfl rfl impl_fails_rs impl_fails_e
noncomputable def impl_PortraitThatFails_s : Spec := ⟨[.v (.sl 26 (.sl 32 (.pair (.int .i64) (.pair (.int .i64) (.unit))))) .fr], Int × Int, fun v => impl_PortraitThatFails v.1, fun r => ([.v (.int .i64) .fr r.1, .v (.int .i64) .fr r.2], [])⟩
noncomputable def impl_PortraitThatFails_ls : List LSum := []
noncomputable def impl_PortraitThatFails_tab : List Row := [⟨23, [], [impl_anglesCode_s]⟩, ⟨49, [], [slices_Concat__impl_Angle_impl_Angle_s]⟩, ⟨50, [], [impl_areSets_s]⟩, ⟨51, [], [impl_fails_s]⟩]
theorem impl_PortraitThatFails_t : ∀ r, r ∈ impl_PortraitThatFails_tab → RowIs Go.Proofs.Try.prog r := tab_cons (impl_anglesCode_is) (tab_cons (slices_Concat__impl_Angle_impl_Angle_is) (tab_cons (impl_areSets_is) (tab_cons (impl_fails_is) (tab_nil))))
theorem impl_PortraitThatFails_rs : RoundsOK (mkCtx Go.K.Link.seat impl_PortraitThatFails_c impl_PortraitThatFails_tab) (sums impl_PortraitThatFails_ls) (loopsOf 0 impl_PortraitThatFails_code) impl_PortraitThatFails_ls := trivial
theorem impl_PortraitThatFails_e : ∀ v, (evFn (mkCtx Go.K.Link.seat impl_PortraitThatFails_c impl_PortraitThatFails_tab) (sums impl_PortraitThatFails_ls) 30 Go.Proofs.Try.f30 (encL impl_PortraitThatFails_s.a v)).run = (impl_PortraitThatFails_s.gen v).bind fun y => some (impl_PortraitThatFails_s.out y) := by
  rintro ⟨sets, _⟩
  show _ = (impl_PortraitThatFails sets).bind fun y : Int × Int => some (impl_PortraitThatFails_s.out y)
  simp only [impl_PortraitThatFails, kb_ite, kb_some, kb_none, kb_bind, kb_alt]
  kernel_rfl
theorem impl_PortraitThatFails_is : FnIs Go.Proofs.Try.prog 30 (modeOf []) (phi [impl_PortraitThatFails_s]) := spec_is (c := impl_PortraitThatFails_c) seatOK impl_PortraitThatFails_t Go.Proofs.Try.func30 rfl (code := impl_PortraitThatFails_code) rfl rfl impl_PortraitThatFails_rs impl_PortraitThatFails_e
noncomputable def impl_portraitCode_s : Spec := ⟨[.v (.sl 26 (.sl 32 (.pair (.int .i64) (.pair (.int .i64) (.unit))))) .fr], Int, fun v => impl_portraitCode v.1, fun r => ([.v (.int .i64) .fr r], [])⟩
noncomputable def impl_portraitCode_ls : List LSum := []
noncomputable def impl_portraitCode_tab : List Row := [⟨30, [], [impl_PortraitThatFails_s]⟩]
theorem impl_portraitCode_t : ∀ r, r ∈ impl_portraitCode_tab → RowIs Go.Proofs.Try.prog r := tab_cons (impl_PortraitThatFails_is) (tab_nil)
theorem impl_portraitCode_rs : RoundsOK (mkCtx Go.K.Link.seat impl_portraitCode_c impl_portraitCode_tab) (sums impl_portraitCode_ls) (loopsOf 0 impl_portraitCode_code) impl_portraitCode_ls := trivial
theorem impl_portraitCode_e : ∀ v, (evFn (mkCtx Go.K.Link.seat impl_portraitCode_c impl_portraitCode_tab) (sums impl_portraitCode_ls) 29 Go.Proofs.Try.f29 (encL impl_portraitCode_s.a v)).run = (impl_portraitCode_s.gen v).bind fun y => some (impl_portraitCode_s.out y) := by
  rintro ⟨sets, _⟩
  show _ = (impl_portraitCode sets).bind fun y : Int => some (impl_portraitCode_s.out y)
  simp only [impl_portraitCode, kb_ite, kb_some, kb_none, kb_bind, kb_alt]
  kernel_rfl
theorem impl_portraitCode_is : FnIs Go.Proofs.Try.prog 29 (modeOf []) (phi [impl_portraitCode_s]) := spec_is (c := impl_portraitCode_c) seatOK impl_portraitCode_t Go.Proofs.Try.func29 rfl (code := impl_portraitCode_code) rfl rfl impl_portraitCode_rs impl_portraitCode_e
noncomputable def impl_RotationNumber_l0_s : LSum := ⟨0, ⟨[(0, .val (.sl 26 (.sl 32 (.pair (.int .i64) (.pair (.int .i64) (.unit))))) .fr), (1, .val (.ptr (.pair (.int .i64) (.pair (.int .i64) (.unit)))) (.own .fr)), (2, .val (.ptr (.pair (.int .i64) (.pair (.int .i64) (.unit)))) (.own .fr)), (12, .val (.int .i64) .fr), (0, .val (.int .i64) .fr)], 14⟩, (.exit 0, ⟨[(0, .val (.sl 26 (.sl 32 (.pair (.int .i64) (.pair (.int .i64) (.unit))))) .fr), (1, .val (.ptr (.pair (.int .i64) (.pair (.int .i64) (.unit)))) (.own .fr)), (2, .val (.ptr (.pair (.int .i64) (.pair (.int .i64) (.unit)))) (.own .fr))], 28⟩), [], impl_RotationNumber_l0⟩
noncomputable def impl_RotationNumber_s : Spec := ⟨[.v (.sl 26 (.sl 32 (.pair (.int .i64) (.pair (.int .i64) (.unit))))) .fr], (Int × (Int × Unit)) × Int, fun v => impl_RotationNumber v.1, fun r => ([.v (.pair (.int .i64) (.pair (.int .i64) (.unit))) .fr r.1, .v (.int .i64) .fr r.2], [])⟩
noncomputable def impl_RotationNumber_ls : List LSum := [impl_RotationNumber_l0_s]
noncomputable def impl_RotationNumber_tab : List Row := [⟨18, [], [impl_angle_s]⟩, ⟨24, [], [impl_length_impl_Angle_s]⟩, ⟨26, [], [slices_Index__impl_Angle_impl_Angle_s]⟩, ⟨27, [], [impl_Angle_double_s]⟩, ⟨29, [], [impl_portraitCode_s]⟩]
theorem impl_RotationNumber_t : ∀ r, r ∈ impl_RotationNumber_tab → RowIs Go.Proofs.Try.prog r := tab_cons (impl_angle_is) (tab_cons (impl_length_impl_Angle_is) (tab_cons (slices_Index__impl_Angle_impl_Angle_is) (tab_cons (impl_Angle_double_is) (tab_cons (impl_portraitCode_is) (tab_nil)))))
theorem impl_RotationNumber_l0_r : RoundIs (mkCtx Go.K.Link.seat impl_RotationNumber_c impl_RotationNumber_tab) (sums impl_RotationNumber_ls) 0 (bodyAt (loopsOf 0 impl_RotationNumber_code) 0) impl_RotationNumber_l0_s := by
  rintro ⟨sets, ⟨t2, ⟨a, ⟨t18, ⟨t19, _⟩⟩⟩⟩⟩
  show _ = (impl_RotationNumber_l0 (sets, (t2, (a, (t18, (t19, ())))))).bind fun r : (Ctl ((List (List (Int × (Int × Unit)))) × ((Int × (Int × Unit))) × ((Int × (Int × Unit))) × Int × Int × Unit) (((List (List (Int × (Int × Unit)))) × ((Int × (Int × Unit))) × ((Int × (Int × Unit))) × Unit))) => some (ctlVal impl_RotationNumber_l0_s r)
  simp only [impl_RotationNumber_l0, kb_ite, kb_some, kb_none, kb_bind, kb_alt]
  kernel_rfl
theorem impl_RotationNumber_rs : RoundsOK (mkCtx Go.K.Link.seat impl_RotationNumber_c impl_RotationNumber_tab) (sums impl_RotationNumber_ls) (loopsOf 0 impl_RotationNumber_code) impl_RotationNumber_ls := ⟨⟨rfl, rfl, impl_RotationNumber_l0_r⟩, trivial⟩
theorem impl_RotationNumber_e : ∀ v, (evFn (mkCtx Go.K.Link.seat impl_RotationNumber_c impl_RotationNumber_tab) (sums impl_RotationNumber_ls) 10 Go.Proofs.Try.f10 (encL impl_RotationNumber_s.a v)).run = (impl_RotationNumber_s.gen v).bind fun y => some (impl_RotationNumber_s.out y) := by
  rintro ⟨sets, _⟩
  show _ = (impl_RotationNumber sets).bind fun y : (Int × (Int × Unit)) × Int => some (impl_RotationNumber_s.out y)
  simp only [impl_RotationNumber, kb_ite, kb_some, kb_none, kb_bind, kb_alt]
  kernel_rfl
theorem impl_RotationNumber_is : FnIs Go.Proofs.Try.prog 10 (modeOf []) (phi [impl_RotationNumber_s]) := spec_is (c := impl_RotationNumber_c) seatOK impl_RotationNumber_t Go.Proofs.Try.func10 rfl (code := impl_RotationNumber_code) rfl rfl impl_RotationNumber_rs impl_RotationNumber_e
noncomputable def impl_IsPortrait_code : Code := (Go.Proofs.Try.f11.body).getD .skip
def impl_IsPortrait_c : Cfg := ⟨11, [], [], [], []⟩
noncomputable def impl_IsPortrait_s : Spec := ⟨[.v (.sl 26 (.sl 32 (.pair (.int .i64) (.pair (.int .i64) (.unit))))) .fr], Bool, fun v => impl_IsPortrait v.1, fun r => ([.v (.bool) .fr r], [])⟩
noncomputable def impl_IsPortrait_ls : List LSum := []
noncomputable def impl_IsPortrait_tab : List Row := [⟨30, [], [impl_PortraitThatFails_s]⟩]
theorem impl_IsPortrait_t : ∀ r, r ∈ impl_IsPortrait_tab → RowIs Go.Proofs.Try.prog r := tab_cons (impl_PortraitThatFails_is) (tab_nil)
theorem impl_IsPortrait_rs : RoundsOK (mkCtx Go.K.Link.seat impl_IsPortrait_c impl_IsPortrait_tab) (sums impl_IsPortrait_ls) (loopsOf 0 impl_IsPortrait_code) impl_IsPortrait_ls := trivial
theorem impl_IsPortrait_e : ∀ v, (evFn (mkCtx Go.K.Link.seat impl_IsPortrait_c impl_IsPortrait_tab) (sums impl_IsPortrait_ls) 11 Go.Proofs.Try.f11 (encL impl_IsPortrait_s.a v)).run = (impl_IsPortrait_s.gen v).bind fun y => some (impl_IsPortrait_s.out y) := by
  rintro ⟨sets, _⟩
  show _ = (impl_IsPortrait sets).bind fun y : Bool => some (impl_IsPortrait_s.out y)
  simp only [impl_IsPortrait, kb_ite, kb_some, kb_none, kb_bind, kb_alt]
  kernel_rfl
theorem impl_IsPortrait_is : FnIs Go.Proofs.Try.prog 11 (modeOf []) (phi [impl_IsPortrait_s]) := spec_is (c := impl_IsPortrait_c) seatOK impl_IsPortrait_t Go.Proofs.Try.func11 rfl (code := impl_IsPortrait_code) rfl rfl impl_IsPortrait_rs impl_IsPortrait_e
noncomputable def spec_DrawRotationOfSet_code : Code := (Go.Proofs.Try.f12.body).getD .skip
def spec_DrawRotationOfSet_c : Cfg := ⟨12, [], [[3, 6, 7, 9, 27, 28, 39, 47], [3, 6, 9, 27, 28, 39, 47], [2, 6, 27, 28, 39, 47, 48]], [], []⟩
noncomputable def spec_l01Draw_code : Code := (Go.Proofs.Try.f34.body).getD .skip
def spec_l01Draw_c : Cfg := ⟨34, [.mut], [], [], []⟩
noncomputable def spec_l01Draw_s : Spec := ⟨[.v (.ptr (.pair (.sl 5 (.int .u8)) (.pair (.int .i64) (.pair (.int .u64) (.unit))))) (.own .fr)], (Int × (Int × Unit)) × (((List Int) × (Int × (Int × Unit)))), fun v => spec_l01Draw v.1, fun r => ([.v (.pair (.int .i64) (.pair (.int .i64) (.unit))) .fr r.1], [.v (.ptr (.pair (.sl 5 (.int .u8)) (.pair (.int .i64) (.pair (.int .u64) (.unit))))) (.own .fr) r.2])⟩
noncomputable def spec_l01Draw_ls : List LSum := []
noncomputable def spec_l01Draw_tab : List Row := [⟨31, [.mut], [spec_l01Next_s]⟩, ⟨32, [.mut], [spec_l01Pick_s]⟩, ⟨46, [], [spec_l01Of_s]⟩]
theorem spec_l01Draw_t : ∀ r, r ∈ spec_l01Draw_tab → RowIs Go.Proofs.Try.prog r := tab_cons (spec_l01Next_is) (tab_cons (spec_l01Pick_is) (tab_cons (spec_l01Of_is) (tab_nil)))
theorem spec_l01Draw_rs : RoundsOK (mkCtx Go.K.Link.seat spec_l01Draw_c spec_l01Draw_tab) (sums spec_l01Draw_ls) (loopsOf 0 spec_l01Draw_code) spec_l01Draw_ls := trivial
theorem spec_l01Draw_e : ∀ v, (evFn (mkCtx Go.K.Link.seat spec_l01Draw_c spec_l01Draw_tab) (sums spec_l01Draw_ls) 34 Go.Proofs.Try.f34 (encL spec_l01Draw_s.a v)).run = (spec_l01Draw_s.gen v).bind fun y => some (spec_l01Draw_s.out y) := by
  rintro ⟨s, _⟩
  show _ = (spec_l01Draw s).bind fun y : (Int × (Int × Unit)) × (((List Int) × (Int × (Int × Unit)))) => some (spec_l01Draw_s.out y)
  simp only [spec_l01Draw, kb_ite, kb_some, kb_none, kb_bind, kb_alt]
  kernel_rfl
theorem spec_l01Draw_is : FnIs Go.Proofs.Try.prog 34 (modeOf [.mut]) (phi [spec_l01Draw_s]) := spec_is (c := spec_l01Draw_c) seatOK spec_l01Draw_t Go.Proofs.Try.func34 rfl (code := spec_l01Draw_code) rfl rfl spec_l01Draw_rs spec_l01Draw_e
noncomputable def spec_DrawRotationOfSet_l0_s : LSum := ⟨0, ⟨[(3, .val (.ptr (.pair (.sl 5 (.int .u8)) (.pair (.int .i64) (.pair (.int .u64) (.unit))))) (.own .fr)), (2, .val (.sl 32 (.pair (.int .i64) (.pair (.int .i64) (.unit)))) (.own .fr)), (0, .val (.int .i64) .fr)], 41⟩, (.exit 0, ⟨[(3, .val (.ptr (.pair (.sl 5 (.int .u8)) (.pair (.int .i64) (.pair (.int .u64) (.unit))))) (.own .fr)), (2, .val (.sl 32 (.pair (.int .i64) (.pair (.int .i64) (.unit)))) (.own .fr))], 42⟩), [], spec_DrawRotationOfSet_l0⟩
noncomputable def spec_l01Spoil_code : Code := (Go.Proofs.Try.f35.body).getD .skip
def spec_l01Spoil_c : Cfg := ⟨35, [.mut], [], [], []⟩
noncomputable def spec_l01Bad_code : Code := (Go.Proofs.Try.f53.body).getD .skip
def spec_l01Bad_c : Cfg := ⟨53, [.mut], [], [], []⟩
noncomputable def spec_l01Bad_s : Spec := ⟨[.v (.ptr (.pair (.sl 5 (.int .u8)) (.pair (.int .i64) (.pair (.int .u64) (.unit))))) (.own .fr), .v (.pair (.int .i64) (.pair (.int .i64) (.unit))) .fr], (Int × (Int × Unit)) × (((List Int) × (Int × (Int × Unit)))), fun v => spec_l01Bad v.1 v.2.1, fun r => ([.v (.pair (.int .i64) (.pair (.int .i64) (.unit))) .fr r.1], [.v (.ptr (.pair (.sl 5 (.int .u8)) (.pair (.int .i64) (.pair (.int .u64) (.unit))))) (.own .fr) r.2])⟩
noncomputable def spec_l01Bad_ls : List LSum := []
noncomputable def spec_l01Bad_tab : List Row := [⟨31, [.mut], [spec_l01Next_s]⟩, ⟨32, [.mut], [spec_l01Pick_s]⟩]
theorem spec_l01Bad_t : ∀ r, r ∈ spec_l01Bad_tab → RowIs Go.Proofs.Try.prog r := tab_cons (spec_l01Next_is) (tab_cons (spec_l01Pick_is) (tab_nil))
theorem spec_l01Bad_rs : RoundsOK (mkCtx Go.K.Link.seat spec_l01Bad_c spec_l01Bad_tab) (sums spec_l01Bad_ls) (loopsOf 0 spec_l01Bad_code) spec_l01Bad_ls := trivial
theorem spec_l01Bad_e : ∀ v, (evFn (mkCtx Go.K.Link.seat spec_l01Bad_c spec_l01Bad_tab) (sums spec_l01Bad_ls) 53 Go.Proofs.Try.f53 (encL spec_l01Bad_s.a v)).run = (spec_l01Bad_s.gen v).bind fun y => some (spec_l01Bad_s.out y) := by
  rintro ⟨s, ⟨a, _⟩⟩
  show _ = (spec_l01Bad s a).bind fun y : (Int × (Int × Unit)) × (((List Int) × (Int × (Int × Unit)))) => some (spec_l01Bad_s.out y)
  simp only [spec_l01Bad, kb_ite, kb_some, kb_none, kb_bind, kb_alt]
  kernel_rfl
theorem spec_l01Bad_is : FnIs Go.Proofs.Try.prog 53 (modeOf [.mut]) (phi [spec_l01Bad_s]) := spec_is (c := spec_l01Bad_c) seatOK spec_l01Bad_t Go.Proofs.Try.func53 rfl (code := spec_l01Bad_code) rfl rfl spec_l01Bad_rs spec_l01Bad_e
noncomputable def spec_l01Spoil_s : Spec := ⟨[.v (.ptr (.pair (.sl 5 (.int .u8)) (.pair (.int .i64) (.pair (.int .u64) (.unit))))) (.own .fr)], (Int × (Int × Unit)) × (((List Int) × (Int × (Int × Unit)))), fun v => spec_l01Spoil v.1, fun r => ([.v (.pair (.int .i64) (.pair (.int .i64) (.unit))) .fr r.1], [.v (.ptr (.pair (.sl 5 (.int .u8)) (.pair (.int .i64) (.pair (.int .u64) (.unit))))) (.own .fr) r.2])⟩
noncomputable def spec_l01Spoil_ls : List LSum := []
noncomputable def spec_l01Spoil_tab : List Row := [⟨34, [.mut], [spec_l01Draw_s]⟩, ⟨53, [.mut], [spec_l01Bad_s]⟩]
theorem spec_l01Spoil_t : ∀ r, r ∈ spec_l01Spoil_tab → RowIs Go.Proofs.Try.prog r := tab_cons (spec_l01Draw_is) (tab_cons (spec_l01Bad_is) (tab_nil))
theorem spec_l01Spoil_rs : RoundsOK (mkCtx Go.K.Link.seat spec_l01Spoil_c spec_l01Spoil_tab) (sums spec_l01Spoil_ls) (loopsOf 0 spec_l01Spoil_code) spec_l01Spoil_ls := trivial
theorem spec_l01Spoil_e : ∀ v, (evFn (mkCtx Go.K.Link.seat spec_l01Spoil_c spec_l01Spoil_tab) (sums spec_l01Spoil_ls) 35 Go.Proofs.Try.f35 (encL spec_l01Spoil_s.a v)).run = (spec_l01Spoil_s.gen v).bind fun y => some (spec_l01Spoil_s.out y) := by
  rintro ⟨s, _⟩
  show _ = (spec_l01Spoil s).bind fun y : (Int × (Int × Unit)) × (((List Int) × (Int × (Int × Unit)))) => some (spec_l01Spoil_s.out y)
  simp only [spec_l01Spoil, kb_ite, kb_some, kb_none, kb_bind, kb_alt]
  kernel_rfl
theorem spec_l01Spoil_is : FnIs Go.Proofs.Try.prog 35 (modeOf [.mut]) (phi [spec_l01Spoil_s]) := spec_is (c := spec_l01Spoil_c) seatOK spec_l01Spoil_t Go.Proofs.Try.func35 rfl (code := spec_l01Spoil_code) rfl rfl spec_l01Spoil_rs spec_l01Spoil_e
noncomputable def spec_DrawRotationOfSet_s : Spec := ⟨[.v (.sl 5 (.int .u8)) .fr], (List (Int × (Int × Unit))), fun v => spec_DrawRotationOfSet v.1, fun r => ([.v (.sl 32 (.pair (.int .i64) (.pair (.int .i64) (.unit)))) (.own .fr) r], [])⟩
noncomputable def spec_DrawRotationOfSet_ls : List LSum := [spec_DrawRotationOfSet_l0_s]
noncomputable def spec_DrawRotationOfSet_tab : List Row := [⟨14, [], [spec_l01From_s]⟩, ⟨21, [], [spec_l01Divisor_s]⟩, ⟨22, [], [spec_l07Rotation_s]⟩, ⟨31, [.mut], [spec_l01Next_s]⟩, ⟨32, [.mut], [spec_l01Pick_s]⟩, ⟨33, [.own], [spec_l01Insert_s]⟩, ⟨34, [.mut], [spec_l01Draw_s]⟩, ⟨35, [.mut], [spec_l01Spoil_s]⟩]
theorem spec_DrawRotationOfSet_t : ∀ r, r ∈ spec_DrawRotationOfSet_tab → RowIs Go.Proofs.Try.prog r := tab_cons (spec_l01From_is) (tab_cons (spec_l01Divisor_is) (tab_cons (spec_l07Rotation_is) (tab_cons (spec_l01Next_is) (tab_cons (spec_l01Pick_is) (tab_cons (spec_l01Insert_is) (tab_cons (spec_l01Draw_is) (tab_cons (spec_l01Spoil_is) (tab_nil))))))))
theorem spec_DrawRotationOfSet_l0_r : RoundIs (mkCtx Go.K.Link.seat spec_DrawRotationOfSet_c spec_DrawRotationOfSet_tab) (sums spec_DrawRotationOfSet_ls) 0 (bodyAt (loopsOf 0 spec_DrawRotationOfSet_code) 0) spec_DrawRotationOfSet_l0_s := by
  rintro ⟨s, ⟨out, ⟨k, _⟩⟩⟩
  show _ = (spec_DrawRotationOfSet_l0 (s, (out, (k, ())))).bind fun r : (Ctl ((((List Int) × (Int × (Int × Unit)))) × (List (Int × (Int × Unit))) × Int × Unit) (((((List Int) × (Int × (Int × Unit)))) × (List (Int × (Int × Unit))) × Unit))) => some (ctlVal spec_DrawRotationOfSet_l0_s r)
  simp only [spec_DrawRotationOfSet_l0, kb_ite, kb_some, kb_none, kb_bind, kb_alt]
  kernel_rfl
theorem spec_DrawRotationOfSet_rs : RoundsOK (mkCtx Go.K.Link.seat spec_DrawRotationOfSet_c spec_DrawRotationOfSet_tab) (sums spec_DrawRotationOfSet_ls) (loopsOf 0 spec_DrawRotationOfSet_code) spec_DrawRotationOfSet_ls := ⟨⟨rfl, rfl, spec_DrawRotationOfSet_l0_r⟩, trivial⟩
theorem spec_DrawRotationOfSet_e : ∀ v, (evFn (mkCtx Go.K.Link.seat spec_DrawRotationOfSet_c spec_DrawRotationOfSet_tab) (sums spec_DrawRotationOfSet_ls) 12 Go.Proofs.Try.f12 (encL spec_DrawRotationOfSet_s.a v)).run = (spec_DrawRotationOfSet_s.gen v).bind fun y => some (spec_DrawRotationOfSet_s.out y) := by
  rintro ⟨code, _⟩
  show _ = (spec_DrawRotationOfSet code).bind fun y : (List (Int × (Int × Unit))) => some (spec_DrawRotationOfSet_s.out y)
  simp only [spec_DrawRotationOfSet, kb_ite, kb_some, kb_none, kb_bind, kb_alt]
  kernel_rfl
theorem spec_DrawRotationOfSet_is : FnIs Go.Proofs.Try.prog 12 (modeOf []) (phi [spec_DrawRotationOfSet_s]) := spec_is (c := spec_DrawRotationOfSet_c) seatOK spec_DrawRotationOfSet_t Go.Proofs.Try.func12 rfl (code := spec_DrawRotationOfSet_code) rfl rfl spec_DrawRotationOfSet_rs spec_DrawRotationOfSet_e
noncomputable def spec_RotationOfSet_code : Code := (Go.Proofs.Try.f13.body).getD .skip
def spec_RotationOfSet_c : Cfg := ⟨13, [], [[0, 4], [0], [2, 3]], [], []⟩
noncomputable def spec_l01Is_code : Code := (Go.Proofs.Try.f36.body).getD .skip
def spec_l01Is_c : Cfg := ⟨36, [], [], [], []⟩
noncomputable def spec_l01Is_s : Spec := ⟨[.v (.pair (.int .i64) (.pair (.int .i64) (.unit))) .fr], Bool, fun v => spec_l01Is v.1, fun r => ([.v (.bool) .fr r], [])⟩
noncomputable def spec_l01Is_ls : List LSum := []
noncomputable def spec_l01Is_tab : List Row := [⟨20, [], [spec_l01In_s]⟩, ⟨21, [], [spec_l01Divisor_s]⟩]
theorem spec_l01Is_t : ∀ r, r ∈ spec_l01Is_tab → RowIs Go.Proofs.Try.prog r := tab_cons (spec_l01In_is) (tab_cons (spec_l01Divisor_is) (tab_nil))
theorem spec_l01Is_rs : RoundsOK (mkCtx Go.K.Link.seat spec_l01Is_c spec_l01Is_tab) (sums spec_l01Is_ls) (loopsOf 0 spec_l01Is_code) spec_l01Is_ls := trivial
theorem spec_l01Is_e : ∀ v, (evFn (mkCtx Go.K.Link.seat spec_l01Is_c spec_l01Is_tab) (sums spec_l01Is_ls) 36 Go.Proofs.Try.f36 (encL spec_l01Is_s.a v)).run = (spec_l01Is_s.gen v).bind fun y => some (spec_l01Is_s.out y) := by
  rintro ⟨a, _⟩
  show _ = (spec_l01Is a).bind fun y : Bool => some (spec_l01Is_s.out y)
  simp only [spec_l01Is, kb_ite, kb_some, kb_none, kb_bind, kb_alt]
  kernel_rfl
theorem spec_l01Is_is : FnIs Go.Proofs.Try.prog 36 (modeOf []) (phi [spec_l01Is_s]) := spec_is (c := spec_l01Is_c) seatOK spec_l01Is_t Go.Proofs.Try.func36 rfl (code := spec_l01Is_code) rfl rfl spec_l01Is_rs spec_l01Is_e
noncomputable def spec_RotationOfSet_l0_s : LSum := ⟨0, ⟨[(0, .val (.sl 32 (.pair (.int .i64) (.pair (.int .i64) (.unit)))) .fr), (3, .val (.int .i64) .fr)], 41⟩, (.ret, ⟨[(2, .val (.int .i64) .fr), (0, .val (.int .i64) .fr)], 42⟩), [(.exit 0, ⟨[(0, .val (.sl 32 (.pair (.int .i64) (.pair (.int .i64) (.unit)))) .fr)], 45⟩)], spec_RotationOfSet_l0⟩
noncomputable def spec_l03Ascending_code : Code := (Go.Proofs.Try.f37.body).getD .skip
def spec_l03Ascending_c : Cfg := ⟨37, [], [[0, 3], [], [2]], [], []⟩
noncomputable def spec_l03Ascending_l0_s : LSum := ⟨0, ⟨[(0, .val (.sl 32 (.pair (.int .i64) (.pair (.int .i64) (.unit)))) .fr), (2, .val (.int .i64) .fr)], 17⟩, (.ret, ⟨[(2, .val (.bool) .fr)], 18⟩), [(.exit 0, ⟨[], 21⟩)], spec_l03Ascending_l0⟩
noncomputable def spec_l03Ascending_s : Spec := ⟨[.v (.sl 32 (.pair (.int .i64) (.pair (.int .i64) (.unit)))) .fr], Bool, fun v => spec_l03Ascending v.1, fun r => ([.v (.bool) .fr r], [])⟩
noncomputable def spec_l03Ascending_ls : List LSum := [spec_l03Ascending_l0_s]
noncomputable def spec_l03Ascending_tab : List Row := [⟨52, [], [spec_l01Less_s]⟩]
theorem spec_l03Ascending_t : ∀ r, r ∈ spec_l03Ascending_tab → RowIs Go.Proofs.Try.prog r := tab_cons (spec_l01Less_is) (tab_nil)
theorem spec_l03Ascending_l0_r : RoundIs (mkCtx Go.K.Link.seat spec_l03Ascending_c spec_l03Ascending_tab) (sums spec_l03Ascending_ls) 0 (bodyAt (loopsOf 0 spec_l03Ascending_code) 0) spec_l03Ascending_l0_s := by
  rintro ⟨list, ⟨i, _⟩⟩
  show _ = (spec_l03Ascending_l0 (list, (i, ()))).bind fun r : (Ctl ((List (Int × (Int × Unit))) × Int × Unit) ((Bool × Unit) ⊕ (Unit))) => some (ctlVal spec_l03Ascending_l0_s r)
  simp only [spec_l03Ascending_l0, kb_ite, kb_some, kb_none, kb_bind, kb_alt]
  kernel_rfl
theorem spec_l03Ascending_rs : RoundsOK (mkCtx Go.K.Link.seat spec_l03Ascending_c spec_l03Ascending_tab) (sums spec_l03Ascending_ls) (loopsOf 0 spec_l03Ascending_code) spec_l03Ascending_ls := ⟨⟨rfl, rfl, spec_l03Ascending_l0_r⟩, trivial⟩
theorem spec_l03Ascending_e : ∀ v, (evFn (mkCtx Go.K.Link.seat spec_l03Ascending_c spec_l03Ascending_tab) (sums spec_l03Ascending_ls) 37 Go.Proofs.Try.f37 (encL spec_l03Ascending_s.a v)).run = (spec_l03Ascending_s.gen v).bind fun y => some (spec_l03Ascending_s.out y) := by
  rintro ⟨list, _⟩
  show _ = (spec_l03Ascending list).bind fun y : Bool => some (spec_l03Ascending_s.out y)
  simp only [spec_l03Ascending, kb_ite, kb_some, kb_none, kb_bind, kb_alt]
  kernel_rfl
theorem spec_l03Ascending_is : FnIs Go.Proofs.Try.prog 37 (modeOf []) (phi [spec_l03Ascending_s]) := spec_is (c := spec_l03Ascending_c) seatOK spec_l03Ascending_t Go.Proofs.Try.func37 rfl (code := spec_l03Ascending_code) rfl rfl spec_l03Ascending_rs spec_l03Ascending_e
noncomputable def spec_l07Led_code : Code := (Go.Proofs.Try.f38.body).getD .skip
def spec_l07Led_c : Cfg := ⟨38, [], [[0, 1, 5, 6, 10], [0, 1], [4]], [], []⟩
noncomputable def spec_l01Double_code : Code := (Go.Proofs.Try.f41.body).getD .skip
def spec_l01Double_c : Cfg := ⟨41, [], [], [], []⟩
noncomputable def spec_l01Double_s : Spec := ⟨[.v (.pair (.int .i64) (.pair (.int .i64) (.unit))) .fr], (Int × (Int × Unit)), fun v => spec_l01Double v.1, fun r => ([.v (.pair (.int .i64) (.pair (.int .i64) (.unit))) .fr r], [])⟩
noncomputable def spec_l01Double_ls : List LSum := []
noncomputable def spec_l01Double_tab : List Row := [⟨46, [], [spec_l01Of_s]⟩]
theorem spec_l01Double_t : ∀ r, r ∈ spec_l01Double_tab → RowIs Go.Proofs.Try.prog r := tab_cons (spec_l01Of_is) (tab_nil)
theorem spec_l01Double_rs : RoundsOK (mkCtx Go.K.Link.seat spec_l01Double_c spec_l01Double_tab) (sums spec_l01Double_ls) (loopsOf 0 spec_l01Double_code) spec_l01Double_ls := trivial
theorem spec_l01Double_e : ∀ v, (evFn (mkCtx Go.K.Link.seat spec_l01Double_c spec_l01Double_tab) (sums spec_l01Double_ls) 41 Go.Proofs.Try.f41 (encL spec_l01Double_s.a v)).run = (spec_l01Double_s.gen v).bind fun y => some (spec_l01Double_s.out y) := by
  rintro ⟨a, _⟩
  show _ = (spec_l01Double a).bind fun y : (Int × (Int × Unit)) => some (spec_l01Double_s.out y)
  simp only [spec_l01Double, kb_ite, kb_some, kb_none, kb_bind, kb_alt]
  kernel_rfl
theorem spec_l01Double_is : FnIs Go.Proofs.Try.prog 41 (modeOf []) (phi [spec_l01Double_s]) := spec_is (c := spec_l01Double_c) seatOK spec_l01Double_t Go.Proofs.Try.func41 rfl (code := spec_l01Double_code) rfl rfl spec_l01Double_rs spec_l01Double_e
noncomputable def spec_l07Place_code : Code := (Go.Proofs.Try.f40.body).getD .skip
def spec_l07Place_c : Cfg := ⟨40, [], [[0, 3, 5], [], [4]], [], []⟩
noncomputable def spec_l07Place_l0_s : LSum := ⟨0, ⟨[(0, .val (.sl 32 (.pair (.int .i64) (.pair (.int .i64) (.unit)))) .fr), (2, .val (.ptr (.pair (.int .i64) (.pair (.int .i64) (.unit)))) (.own .fr)), (1, .val (.int .i64) .fr)], 13⟩, (.ret, ⟨[(4, .val (.int .i64) .fr)], 14⟩), [(.exit 0, ⟨[], 19⟩)], spec_l07Place_l0⟩
noncomputable def spec_l07Place_s : Spec := ⟨[.v (.sl 32 (.pair (.int .i64) (.pair (.int .i64) (.unit)))) .fr, .v (.pair (.int .i64) (.pair (.int .i64) (.unit))) .fr], Int, fun v => spec_l07Place v.1 v.2.1, fun r => ([.v (.int .i64) .fr r], [])⟩
noncomputable def spec_l07Place_ls : List LSum := [spec_l07Place_l0_s]
noncomputable def spec_l07Place_tab : List Row := []
theorem spec_l07Place_t : ∀ r, r ∈ spec_l07Place_tab → RowIs Go.Proofs.Try.prog r := tab_nil
theorem spec_l07Place_l0_r : RoundIs (mkCtx Go.K.Link.seat spec_l07Place_c spec_l07Place_tab) (sums spec_l07Place_ls) 0 (bodyAt (loopsOf 0 spec_l07Place_code) 0) spec_l07Place_l0_s := by
  rintro ⟨set, ⟨a, ⟨i, _⟩⟩⟩
  show _ = (spec_l07Place_l0 (set, (a, (i, ())))).bind fun r : (Ctl ((List (Int × (Int × Unit))) × ((Int × (Int × Unit))) × Int × Unit) ((Int × Unit) ⊕ (Unit))) => some (ctlVal spec_l07Place_l0_s r)
  simp only [spec_l07Place_l0, kb_ite, kb_some, kb_none, kb_bind, kb_alt]
  kernel_rfl
theorem spec_l07Place_rs : RoundsOK (mkCtx Go.K.Link.seat spec_l07Place_c spec_l07Place_tab) (sums spec_l07Place_ls) (loopsOf 0 spec_l07Place_code) spec_l07Place_ls := ⟨⟨rfl, rfl, spec_l07Place_l0_r⟩, trivial⟩
theorem spec_l07Place_e : ∀ v, (evFn (mkCtx Go.K.Link.seat spec_l07Place_c spec_l07Place_tab) (sums spec_l07Place_ls) 40 Go.Proofs.Try.f40 (encL spec_l07Place_s.a v)).run = (spec_l07Place_s.gen v).bind fun y => some (spec_l07Place_s.out y) := by
  rintro ⟨set, ⟨a, _⟩⟩
  show _ = (spec_l07Place set a).bind fun y : Int => some (spec_l07Place_s.out y)
  simp only [spec_l07Place, kb_ite, kb_some, kb_none, kb_bind, kb_alt]
  kernel_rfl
theorem spec_l07Place_is : FnIs Go.Proofs.Try.prog 40 (modeOf []) (phi [spec_l07Place_s]) := spec_is (c := spec_l07Place_c) seatOK spec_l07Place_t Go.Proofs.Try.func40 rfl (code := spec_l07Place_code) rfl rfl spec_l07Place_rs spec_l07Place_e
noncomputable def spec_l07Led_l0_s : LSum := ⟨0, ⟨[(0, .val (.sl 32 (.pair (.int .i64) (.pair (.int .i64) (.unit)))) .fr), (0, .val (.sl 32 (.pair (.int .i64) (.pair (.int .i64) (.unit)))) .fr), (3, .val (.sl 4 (.bool)) (.own .fr)), (0, .val (.int .i64) .fr)], 33⟩, (.ret, ⟨[(4, .val (.bool) .fr)], 35⟩), [(.exit 0, ⟨[(0, .val (.sl 32 (.pair (.int .i64) (.pair (.int .i64) (.unit)))) .fr), (0, .val (.sl 32 (.pair (.int .i64) (.pair (.int .i64) (.unit)))) .fr)], 38⟩)], spec_l07Led_l0⟩
noncomputable def spec_l07Led_s : Spec := ⟨[.v (.sl 32 (.pair (.int .i64) (.pair (.int .i64) (.unit)))) .fr, .v (.sl 32 (.pair (.int .i64) (.pair (.int .i64) (.unit)))) .fr], Bool, fun v => spec_l07Led v.1 v.2.1, fun r => ([.v (.bool) .fr r], [])⟩
noncomputable def spec_l07Led_ls : List LSum := [spec_l07Led_l0_s]
noncomputable def spec_l07Led_tab : List Row := [⟨40, [], [spec_l07Place_s]⟩, ⟨41, [], [spec_l01Double_s]⟩]
theorem spec_l07Led_t : ∀ r, r ∈ spec_l07Led_tab → RowIs Go.Proofs.Try.prog r := tab_cons (spec_l07Place_is) (tab_cons (spec_l01Double_is) (tab_nil))
theorem spec_l07Led_l0_r : RoundIs (mkCtx Go.K.Link.seat spec_l07Led_c spec_l07Led_tab) (sums spec_l07Led_ls) 0 (bodyAt (loopsOf 0 spec_l07Led_code) 0) spec_l07Led_l0_s := by
  rintro ⟨set, ⟨next', ⟨met, ⟨i, _⟩⟩⟩⟩
  show _ = (spec_l07Led_l0 (set, (next', (met, (i, ()))))).bind fun r : (Ctl ((List (Int × (Int × Unit))) × (List (Int × (Int × Unit))) × (List Bool) × Int × Unit) ((Bool × Unit) ⊕ ((List (Int × (Int × Unit))) × (List (Int × (Int × Unit))) × Unit))) => some (ctlVal spec_l07Led_l0_s r)
  simp only [spec_l07Led_l0, kb_ite, kb_some, kb_none, kb_bind, kb_alt]
  kernel_rfl
theorem spec_l07Led_rs : RoundsOK (mkCtx Go.K.Link.seat spec_l07Led_c spec_l07Led_tab) (sums spec_l07Led_ls) (loopsOf 0 spec_l07Led_code) spec_l07Led_ls := ⟨⟨rfl, rfl, spec_l07Led_l0_r⟩, trivial⟩
theorem spec_l07Led_e : ∀ v, (evFn (mkCtx Go.K.Link.seat spec_l07Led_c spec_l07Led_tab) (sums spec_l07Led_ls) 38 Go.Proofs.Try.f38 (encL spec_l07Led_s.a v)).run = (spec_l07Led_s.gen v).bind fun y => some (spec_l07Led_s.out y) := by
  rintro ⟨set, ⟨next', _⟩⟩
  show _ = (spec_l07Led set next').bind fun y : Bool => some (spec_l07Led_s.out y)
  simp only [spec_l07Led, kb_ite, kb_some, kb_none, kb_bind, kb_alt]
  kernel_rfl
theorem spec_l07Led_is : FnIs Go.Proofs.Try.prog 38 (modeOf []) (phi [spec_l07Led_s]) := spec_is (c := spec_l07Led_c) seatOK spec_l07Led_t Go.Proofs.Try.func38 rfl (code := spec_l07Led_code) rfl rfl spec_l07Led_rs spec_l07Led_e
noncomputable def spec_l07Ordered_code : Code := (Go.Proofs.Try.f39.body).getD .skip
def spec_l07Ordered_c : Cfg := ⟨39, [], [[0, 1, 5, 6], [], [4]], [], []⟩
noncomputable def spec_l07Ordered_l0_s : LSum := ⟨0, ⟨[(0, .val (.sl 32 (.pair (.int .i64) (.pair (.int .i64) (.unit)))) .fr), (0, .val (.sl 32 (.pair (.int .i64) (.pair (.int .i64) (.unit)))) .fr), (3, .val (.int .i64) .fr), (0, .val (.int .i64) .fr)], 32⟩, (.ret, ⟨[(4, .val (.bool) .fr)], 34⟩), [(.exit 0, ⟨[], 39⟩)], spec_l07Ordered_l0⟩
noncomputable def spec_l07Ordered_s : Spec := ⟨[.v (.sl 32 (.pair (.int .i64) (.pair (.int .i64) (.unit)))) .fr, .v (.sl 32 (.pair (.int .i64) (.pair (.int .i64) (.unit)))) .fr], Bool, fun v => spec_l07Ordered v.1 v.2.1, fun r => ([.v (.bool) .fr r], [])⟩
noncomputable def spec_l07Ordered_ls : List LSum := [spec_l07Ordered_l0_s]
noncomputable def spec_l07Ordered_tab : List Row := [⟨40, [], [spec_l07Place_s]⟩, ⟨41, [], [spec_l01Double_s]⟩]
theorem spec_l07Ordered_t : ∀ r, r ∈ spec_l07Ordered_tab → RowIs Go.Proofs.Try.prog r := tab_cons (spec_l07Place_is) (tab_cons (spec_l01Double_is) (tab_nil))
theorem spec_l07Ordered_l0_r : RoundIs (mkCtx Go.K.Link.seat spec_l07Ordered_c spec_l07Ordered_tab) (sums spec_l07Ordered_ls) 0 (bodyAt (loopsOf 0 spec_l07Ordered_code) 0) spec_l07Ordered_l0_s := by
  rintro ⟨set, ⟨next', ⟨n, ⟨i, _⟩⟩⟩⟩
  show _ = (spec_l07Ordered_l0 (set, (next', (n, (i, ()))))).bind fun r : (Ctl ((List (Int × (Int × Unit))) × (List (Int × (Int × Unit))) × Int × Int × Unit) ((Bool × Unit) ⊕ (Unit))) => some (ctlVal spec_l07Ordered_l0_s r)
  simp only [spec_l07Ordered_l0, kb_ite, kb_some, kb_none, kb_bind, kb_alt]
  kernel_rfl
theorem spec_l07Ordered_rs : RoundsOK (mkCtx Go.K.Link.seat spec_l07Ordered_c spec_l07Ordered_tab) (sums spec_l07Ordered_ls) (loopsOf 0 spec_l07Ordered_code) spec_l07Ordered_ls := ⟨⟨rfl, rfl, spec_l07Ordered_l0_r⟩, trivial⟩
theorem spec_l07Ordered_e : ∀ v, (evFn (mkCtx Go.K.Link.seat spec_l07Ordered_c spec_l07Ordered_tab) (sums spec_l07Ordered_ls) 39 Go.Proofs.Try.f39 (encL spec_l07Ordered_s.a v)).run = (spec_l07Ordered_s.gen v).bind fun y => some (spec_l07Ordered_s.out y) := by
  rintro ⟨set, ⟨next', _⟩⟩
  show _ = (spec_l07Ordered set next').bind fun y : Bool => some (spec_l07Ordered_s.out y)
  simp only [spec_l07Ordered, kb_ite, kb_some, kb_none, kb_bind, kb_alt]
  kernel_rfl
theorem spec_l07Ordered_is : FnIs Go.Proofs.Try.prog 39 (modeOf []) (phi [spec_l07Ordered_s]) := spec_is (c := spec_l07Ordered_c) seatOK spec_l07Ordered_t Go.Proofs.Try.func39 rfl (code := spec_l07Ordered_code) rfl rfl spec_l07Ordered_rs spec_l07Ordered_e
noncomputable def spec_RotationOfSet_s : Spec := ⟨[.v (.sl 32 (.pair (.int .i64) (.pair (.int .i64) (.unit)))) .fr], Int × Int, fun v => spec_RotationOfSet v.1, fun r => ([.v (.int .i64) .fr r.1, .v (.int .i64) .fr r.2], [])⟩
noncomputable def spec_RotationOfSet_ls : List LSum := [spec_RotationOfSet_l0_s]
noncomputable def spec_RotationOfSet_tab : List Row := [⟨36, [], [spec_l01Is_s]⟩, ⟨37, [], [spec_l03Ascending_s]⟩, ⟨38, [], [spec_l07Led_s]⟩, ⟨39, [], [spec_l07Ordered_s]⟩, ⟨40, [], [spec_l07Place_s]⟩, ⟨41, [], [spec_l01Double_s]⟩]
theorem spec_RotationOfSet_t : ∀ r, r ∈ spec_RotationOfSet_tab → RowIs Go.Proofs.Try.prog r := tab_cons (spec_l01Is_is) (tab_cons (spec_l03Ascending_is) (tab_cons (spec_l07Led_is) (tab_cons (spec_l07Ordered_is) (tab_cons (spec_l07Place_is) (tab_cons (spec_l01Double_is) (tab_nil))))))
theorem spec_RotationOfSet_l0_r : RoundIs (mkCtx Go.K.Link.seat spec_RotationOfSet_c spec_RotationOfSet_tab) (sums spec_RotationOfSet_ls) 0 (bodyAt (loopsOf 0 spec_RotationOfSet_code) 0) spec_RotationOfSet_l0_s := by
  rintro ⟨set, ⟨i, _⟩⟩
  show _ = (spec_RotationOfSet_l0 (set, (i, ()))).bind fun r : (Ctl ((List (Int × (Int × Unit))) × Int × Unit) ((Int × Int × Unit) ⊕ ((List (Int × (Int × Unit))) × Unit))) => some (ctlVal spec_RotationOfSet_l0_s r)
  simp only [spec_RotationOfSet_l0, kb_ite, kb_some, kb_none, kb_bind, kb_alt]
  kernel_rfl
theorem spec_RotationOfSet_rs : RoundsOK (mkCtx Go.K.Link.seat spec_RotationOfSet_c spec_RotationOfSet_tab) (sums spec_RotationOfSet_ls) (loopsOf 0 spec_RotationOfSet_code) spec_RotationOfSet_ls := ⟨⟨rfl, rfl, spec_RotationOfSet_l0_r⟩, trivial⟩
theorem spec_RotationOfSet_e : ∀ v, (evFn (mkCtx Go.K.Link.seat spec_RotationOfSet_c spec_RotationOfSet_tab) (sums spec_RotationOfSet_ls) 13 Go.Proofs.Try.f13 (encL spec_RotationOfSet_s.a v)).run = (spec_RotationOfSet_s.gen v).bind fun y => some (spec_RotationOfSet_s.out y) := by
  rintro ⟨set, _⟩
  show _ = (spec_RotationOfSet set).bind fun y : Int × Int => some (spec_RotationOfSet_s.out y)
  simp only [spec_RotationOfSet, kb_ite, kb_some, kb_none, kb_bind, kb_alt]
  kernel_rfl
theorem spec_RotationOfSet_is : FnIs Go.Proofs.Try.prog 13 (modeOf []) (phi [spec_RotationOfSet_s]) := spec_is (c := spec_RotationOfSet_c) seatOK spec_RotationOfSet_t Go.Proofs.Try.func13 rfl (code := spec_RotationOfSet_code) rfl rfl spec_RotationOfSet_rs spec_RotationOfSet_e
noncomputable def laws_FnRotations_s : Spec := ⟨[.v (.sl 5 (.int .u8)) .fr], Bool, fun v => laws_FnRotations v.1, fun r => ([.v (.bool) .fr r], [])⟩
noncomputable def laws_FnRotations_ls : List LSum := []
noncomputable def laws_FnRotations_tab : List Row := [⟨4, [], [laws_big_s]⟩, ⟨5, [], [spec_DrawRotationSet_s]⟩, ⟨6, [], [impl_RotationSet_s]⟩, ⟨7, [], [spec_RotationSet_s]⟩, ⟨8, [], [laws_angles5_s]⟩, ⟨9, [], [impl_RotationOfSet_s]⟩, ⟨10, [], [impl_RotationNumber_s]⟩, ⟨11, [], [impl_IsPortrait_s]⟩, ⟨12, [], [spec_DrawRotationOfSet_s]⟩, ⟨13, [], [spec_RotationOfSet_s]⟩]
theorem laws_FnRotations_t : ∀ r, r ∈ laws_FnRotations_tab → RowIs Go.Proofs.Try.prog r := tab_cons (laws_big_is) (tab_cons (spec_DrawRotationSet_is) (tab_cons (impl_RotationSet_is) (tab_cons (spec_RotationSet_is) (tab_cons (laws_angles5_is) (tab_cons (impl_RotationOfSet_is) (tab_cons (impl_RotationNumber_is) (tab_cons (impl_IsPortrait_is) (tab_cons (spec_DrawRotationOfSet_is) (tab_cons (spec_RotationOfSet_is) (tab_nil))))))))))
theorem laws_FnRotations_rs : RoundsOK (mkCtx Go.K.Link.seat laws_FnRotations_c laws_FnRotations_tab) (sums laws_FnRotations_ls) (loopsOf 0 laws_FnRotations_code) laws_FnRotations_ls := trivial
theorem laws_FnRotations_e : ∀ v, (evFn (mkCtx Go.K.Link.seat laws_FnRotations_c laws_FnRotations_tab) (sums laws_FnRotations_ls) 3 Go.Proofs.Try.f3 (encL laws_FnRotations_s.a v)).run = (laws_FnRotations_s.gen v).bind fun y => some (laws_FnRotations_s.out y) := by
  rintro ⟨code, _⟩
  show _ = (laws_FnRotations code).bind fun y : Bool => some (laws_FnRotations_s.out y)
  simp only [laws_FnRotations, kb_ite, kb_some, kb_none, kb_bind, kb_alt]
  kernel_rfl
theorem laws_FnRotations_is : FnIs Go.Proofs.Try.prog 3 (modeOf []) (phi [laws_FnRotations_s]) := spec_is (c := laws_FnRotations_c) seatOK laws_FnRotations_t Go.Proofs.Try.func3 rfl (code := laws_FnRotations_code) rfl rfl laws_FnRotations_rs laws_FnRotations_e
end Go.K.Link
namespace Go.Proofs.Ytjpkedcnfhflpaa
open Go.K Go.K.Link Go.RowKit
theorem Try.own : ownKnob Try.prog.godebug = none := by kernel_rfl
theorem Try.laidOut : laidOutB Try.prog = true := by kernel_rfl
end Go.Proofs.Ytjpkedcnfhflpaa

