/- What each function of the program gives, as a plain function, with the proof that it gives it; no condition. -/
import Derived.Test.YtephljhjgceclaaP1
import Derived.Test.YtephljhjgceclaaS1
import Derived.Test.YtephljhjgceclaaK3
import Derived.Test.YtephljhjgceclaaRows
import Derived.Shelf.Lay
import Derived.Ground.SlsfProg
set_option linter.all false
set_option maxRecDepth 100000
set_option maxHeartbeats 4000000
set_option linter.all false
namespace Go.Proofs
open Go.Shelf Go.RowKit
def Try.sortL64_ren : Go.Shelf.Ren := ⟨fun | 6 => 64 | 15 => 78 | 14 => 77 | 28 => 93 | 29 => 94 | 20 => 85 | 21 => 86 | 22 => 87 | 23 => 88 | 24 => 89 | 25 => 90 | 26 => 91 | 27 => 92 | 46 => 96 | 47 => 97 | 48 => 98 | 49 => 99 | 50 => 100 | 57 => 101 | n => n, fun | 22 => 33 | 24 => 27 | 25 => 69 | 3 => 3 | 39 => 83 | 0 => 0 | 53 => 96 | 55 => 98 | 4 => 4 | 46 => 89 | 45 => 88 | 50 => 93 | 5 => 5 | 9 => 9 | 66 => 99 | 70 => 103 | 76 => 105 | 77 => 57 | n => n, fun | n => n⟩
theorem Try.sortL64 : Go.Proofs.SlLaysF0.n6 Try.prog Try.sortL64_ren := {
  mixed := by kernel_rfl
  f6 := ⟨ "slices.SortFunc[[]loop.example/g01234/impl.Angle,loop.example/g01234/impl.Angle]", by decide, Try.func64.trans (congrArg some (by kernel_rfl))⟩
  f14 := ⟨ "slices.pdqsortCmpFunc[loop.example/g01234/impl.Angle]", by decide, Try.func77.trans (congrArg some (by kernel_rfl))⟩
  f15 := Try.func78.trans (congrArg some (by kernel_rfl))
  f20 := ⟨ "slices.insertionSortCmpFunc[loop.example/g01234/impl.Angle]", by decide, Try.func85.trans (congrArg some (by kernel_rfl))⟩
  f21 := ⟨ "slices.heapSortCmpFunc[loop.example/g01234/impl.Angle]", by decide, Try.func86.trans (congrArg some (by kernel_rfl))⟩
  f22 := ⟨ "slices.breakPatternsCmpFunc[loop.example/g01234/impl.Angle]", by decide, Try.func87.trans (congrArg some (by kernel_rfl))⟩
  f23 := ⟨ "slices.choosePivotCmpFunc[loop.example/g01234/impl.Angle]", by decide, Try.func88.trans (congrArg some (by kernel_rfl))⟩
  f24 := ⟨ "slices.reverseRangeCmpFunc[loop.example/g01234/impl.Angle]", by decide, Try.func89.trans (congrArg some (by kernel_rfl))⟩
  f25 := ⟨ "slices.partialInsertionSortCmpFunc[loop.example/g01234/impl.Angle]", by decide, Try.func90.trans (congrArg some (by kernel_rfl))⟩
  f26 := ⟨ "slices.partitionEqualCmpFunc[loop.example/g01234/impl.Angle]", by decide, Try.func91.trans (congrArg some (by kernel_rfl))⟩
  f27 := ⟨ "slices.partitionCmpFunc[loop.example/g01234/impl.Angle]", by decide, Try.func92.trans (congrArg some (by kernel_rfl))⟩
  f28 := Try.func93.trans (congrArg some (by kernel_rfl))
  f29 := Try.func94.trans (congrArg some (by kernel_rfl))
  f46 := ⟨ "slices.siftDownCmpFunc[loop.example/g01234/impl.Angle]", by decide, Try.func96.trans (congrArg some (by kernel_rfl))⟩
  f47 := Try.func97.trans (congrArg some (by kernel_rfl))
  f48 := Try.func98.trans (congrArg some (by kernel_rfl))
  f49 := ⟨ "slices.medianAdjacentCmpFunc[loop.example/g01234/impl.Angle]", by decide, Try.func99.trans (congrArg some (by kernel_rfl))⟩
  f50 := ⟨ "slices.medianCmpFunc[loop.example/g01234/impl.Angle]", by decide, Try.func100.trans (congrArg some (by kernel_rfl))⟩
  f57 := ⟨ "slices.order2CmpFunc[loop.example/g01234/impl.Angle]", by decide, Try.func101.trans (congrArg some (by kernel_rfl))⟩
  t0 := Try.underlying0
  a0 := Try.isAgg0
  z0 := Try.sizeOf0
  v0 := Try.zeroValue0
  t3 := Try.underlying3
  a3 := Try.isAgg3
  z3 := Try.sizeOf3
  v3 := Try.zeroValue3
  t4 := Try.underlying4
  a4 := Try.isAgg4
  z4 := Try.sizeOf4
  v4 := Try.zeroValue4
  t5 := Try.underlying5
  a5 := Try.isAgg5
  z5 := Try.sizeOf5
  v5 := Try.zeroValue5
  t9 := Try.underlying9
  a9 := Try.isAgg9
  z9 := Try.sizeOf9
  v9 := Try.zeroValue9
  t22 := Try.underlying33
  a22 := Try.isAgg33
  z22 := Try.sizeOf33
  v22 := Try.zeroValue33
  t25 := Try.underlying69
  a25 := Try.isAgg69
  z25 := Try.sizeOf69
  v25 := Try.zeroValue69
  t39 := Try.underlying83
  a39 := Try.isAgg83
  z39 := Try.sizeOf83
  v39 := Try.zeroValue83
  t45 := Try.underlying88
  a45 := Try.isAgg88
  z45 := Try.sizeOf88
  v45 := Try.zeroValue88
  t46 := Try.underlying89
  a46 := Try.isAgg89
  z46 := Try.sizeOf89
  v46 := Try.zeroValue89
  t50 := Try.underlying93
  a50 := Try.isAgg93
  z50 := Try.sizeOf93
  v50 := Try.zeroValue93
  t53 := Try.underlying96
  a53 := Try.isAgg96
  z53 := Try.sizeOf96
  v53 := Try.zeroValue96
  t55 := Try.underlying98
  a55 := Try.isAgg98
  z55 := Try.sizeOf98
  v55 := Try.zeroValue98
  t66 := Try.underlying99
  a66 := Try.isAgg99
  z66 := Try.sizeOf99
  v66 := Try.zeroValue99
  t70 := Try.underlying103
  a70 := Try.isAgg103
  z70 := Try.sizeOf103
  v70 := Try.zeroValue103
  t76 := Try.underlying105
  a76 := Try.isAgg105
  z76 := Try.sizeOf105
  v76 := Try.zeroValue105
  t77 := Try.underlying57
  a77 := Try.isAgg57
  z77 := Try.sizeOf57
  v77 := Try.zeroValue57 }
end Go.Proofs
namespace Go.K.Link
open Go.K.Pure
def tyList : List (Nat × Ty) := [(2, .int .i64), (3, .int .i64), (4, .bool), (5, .int .u8), (6, .int .u8), (7, .pair (.int .i64) (.pair (.int .i64) (.pair (.bool) (.pair (.int .u8) (.unit))))), (8, .pair (.int .i64) (.pair (.int .i64) (.pair (.bool) (.pair (.int .u8) (.unit))))), (9, .str), (10, .str), (11, .str), (12, .int .u64), (21, .int .i32), (22, .pair (.int .i64) (.pair (.int .i64) (.unit))), (23, .pair (.int .i64) (.pair (.int .i64) (.unit))), (24, .sl 33 (.sl 27 (.pair (.int .i64) (.pair (.int .i64) (.unit))))), (27, .pair (.int .i64) (.pair (.int .i64) (.unit))), (33, .sl 27 (.pair (.int .i64) (.pair (.int .i64) (.unit)))), (42, .sl 43 (.arr 2 (.pair (.int .i64) (.pair (.int .i64) (.unit))))), (43, .arr 2 (.pair (.int .i64) (.pair (.int .i64) (.unit)))), (72, .sl 4 (.bool)), (83, .int .u64), (88, .int .i64), (96, .int .u32), (98, .int .u64), (99, .int .u64), (103, .ptr (.int .i64)), (105, .ptr (.int .u64)), (114, .int .u8), (115, .int .u8), (117, .ptr (.int .u8)), (118, .int .i32), (119, .int .i32)]
def byList : List (Nat × Nat) := [(24, 24), (33, 16), (42, 32), (72, 1)]
def ftyList : List Nat := [1, 26, 28, 29, 30, 31, 32, 35, 36, 37, 38, 40, 41, 44, 45, 46, 47, 48, 49, 50, 51, 52, 53, 54, 55, 56, 58, 59, 60, 62, 63, 64, 65, 66, 67, 68, 69, 70, 71, 73, 74, 75, 76, 77, 78, 79, 80, 81, 82, 84, 85, 86, 87, 90, 91, 92, 94, 95, 97, 100, 101, 102, 104, 106, 107, 113, 116]
def etList : List (Nat × Nat) := [(24, 33), (33, 27), (42, 43), (72, 4)]
def fieldList : List (Nat × List Nat) := [(7, [2, 3, 4, 6]), (8, [2, 3, 4, 6]), (13, [9, 12]), (14, [9, 12]), (18, [17]), (19, [17]), (22, [2, 2]), (23, [2, 2]), (27, [2, 2]), (108, [17, 17, 17, 9]), (109, [17, 17, 17, 9]), (111, [110]), (112, [110]), (120, [12, 12, 96, 114, 5, 5, 115, 116, 117, 118, 119]), (121, [12, 12, 96, 114, 5, 5, 115, 116, 117, 118, 119])]
def seat : Seat := seatOf tyList byList ftyList fieldList etList
theorem seatOK : SeatOK Go.Proofs.Try.prog seat := seat_ok (by kernel_rfl) (by kernel_rfl) (by kernel_rfl) (by kernel_rfl)
noncomputable def laws_FnExactPortraitOf_code : Code := (Go.Proofs.Try.f3.body).getD .skip
def laws_FnExactPortraitOf_c : Cfg := ⟨3, [], [], [], [], []⟩
noncomputable def laws_toAngle_code : Code := (Go.Proofs.Try.f5.body).getD .skip
def laws_toAngle_c : Cfg := ⟨5, [], [], [], [], []⟩
noncomputable def laws_toAngle_s : Spec := ⟨[.v (.pair (.int .i64) (.pair (.int .i64) (.unit))) .fr], (Int × (Int × Unit)), fun v => laws_toAngle v.1, fun r => ([.v (.pair (.int .i64) (.pair (.int .i64) (.unit))) .fr r], [])⟩
noncomputable def laws_toAngle_ls : List LSum := []
noncomputable def laws_toAngle_tab : List Row := []
theorem laws_toAngle_t : ∀ r, r ∈ laws_toAngle_tab → RowIs Go.Proofs.Try.prog r := tab_nil
theorem laws_toAngle_rs : RoundsOK (mkCtx Go.K.Link.seat laws_toAngle_c laws_toAngle_tab) (sums laws_toAngle_ls) (loopsOf 0 laws_toAngle_code) laws_toAngle_ls := trivial
theorem laws_toAngle_e : ∀ v, (evFn (mkCtx Go.K.Link.seat laws_toAngle_c laws_toAngle_tab) (sums laws_toAngle_ls) 5 Go.Proofs.Try.f5 (encL laws_toAngle_s.a v)).run = (laws_toAngle_s.gen v).bind fun y => some (laws_toAngle_s.out y) := by
  rintro ⟨a, _⟩
  show _ = (laws_toAngle a).bind fun y : (Int × (Int × Unit)) => some (laws_toAngle_s.out y)
  simp only [laws_toAngle, kb_ite, kb_some, kb_none, kb_bind, kb_alt]
  kernel_rfl
theorem laws_toAngle_is : FnIs Go.Proofs.Try.prog 5 (modeOf []) (phi [laws_toAngle_s]) := spec_is (c := laws_toAngle_c) seatOK laws_toAngle_t Go.Proofs.Try.func5 rfl (code := laws_toAngle_code) rfl rfl laws_toAngle_rs laws_toAngle_e
noncomputable def spec_l01Is_code : Code := (Go.Proofs.Try.f10.body).getD .skip
def spec_l01Is_c : Cfg := ⟨10, [], [], [], [], []⟩
noncomputable def spec_l01In_code : Code := (Go.Proofs.Try.f25.body).getD .skip
def spec_l01In_c : Cfg := ⟨25, [], [], [], [], []⟩
noncomputable def spec_l01In_s : Spec := ⟨[.v (.int .i64) .fr, .v (.int .i64) .fr, .v (.int .i64) .fr], Bool, fun v => spec_l01In v.1 v.2.1 v.2.2.1, fun r => ([.v (.bool) .fr r], [])⟩
noncomputable def spec_l01In_ls : List LSum := []
noncomputable def spec_l01In_tab : List Row := []
theorem spec_l01In_t : ∀ r, r ∈ spec_l01In_tab → RowIs Go.Proofs.Try.prog r := tab_nil
theorem spec_l01In_rs : RoundsOK (mkCtx Go.K.Link.seat spec_l01In_c spec_l01In_tab) (sums spec_l01In_ls) (loopsOf 0 spec_l01In_code) spec_l01In_ls := trivial
theorem spec_l01In_e : ∀ v, (evFn (mkCtx Go.K.Link.seat spec_l01In_c spec_l01In_tab) (sums spec_l01In_ls) 25 Go.Proofs.Try.f25 (encL spec_l01In_s.a v)).run = (spec_l01In_s.gen v).bind fun y => some (spec_l01In_s.out y) := by
  rintro ⟨n, ⟨low, ⟨high, _⟩⟩⟩
  show _ = (spec_l01In n low high).bind fun y : Bool => some (spec_l01In_s.out y)
  simp only [spec_l01In, kb_ite, kb_some, kb_none, kb_bind, kb_alt]
  kernel_rfl
theorem spec_l01In_is : FnIs Go.Proofs.Try.prog 25 (modeOf []) (phi [spec_l01In_s]) := spec_is (c := spec_l01In_c) seatOK spec_l01In_t Go.Proofs.Try.func25 rfl (code := spec_l01In_code) rfl rfl spec_l01In_rs spec_l01In_e
noncomputable def spec_l01Divisor_code : Code := (Go.Proofs.Try.f26.body).getD .skip
def spec_l01Divisor_c : Cfg := ⟨26, [], [[0, 1], [0], [4]], [], [], []⟩
noncomputable def spec_l01Divisor_l0_s : LSum := ⟨0, ⟨[(0, .val (.int .i64) .fr), (0, .val (.int .i64) .fr)], 12⟩, (.exit 0, ⟨[(0, .val (.int .i64) .fr)], 13⟩), [], spec_l01Divisor_l0⟩
noncomputable def spec_l01Divisor_s : Spec := ⟨[.v (.int .i64) .fr, .v (.int .i64) .fr], Int, fun v => spec_l01Divisor v.1 v.2.1, fun r => ([.v (.int .i64) .fr r], [])⟩
noncomputable def spec_l01Divisor_ls : List LSum := [spec_l01Divisor_l0_s]
noncomputable def spec_l01Divisor_tab : List Row := []
theorem spec_l01Divisor_t : ∀ r, r ∈ spec_l01Divisor_tab → RowIs Go.Proofs.Try.prog r := tab_nil
theorem spec_l01Divisor_l0_r : RoundIs (mkCtx Go.K.Link.seat spec_l01Divisor_c spec_l01Divisor_tab) (sums spec_l01Divisor_ls) 0 (bodyAt (loopsOf 0 spec_l01Divisor_code) 0) spec_l01Divisor_l0_s := by
  rintro ⟨a, ⟨b, _⟩⟩
  show _ = (spec_l01Divisor_l0 (a, (b, ()))).bind fun r : (Ctl (Int × Int × Unit) ((Int × Unit))) => some (ctlVal spec_l01Divisor_l0_s r)
  simp only [spec_l01Divisor_l0, kb_ite, kb_some, kb_none, kb_bind, kb_alt]
  kernel_rfl
theorem spec_l01Divisor_rs : RoundsOK (mkCtx Go.K.Link.seat spec_l01Divisor_c spec_l01Divisor_tab) (sums spec_l01Divisor_ls) (loopsOf 0 spec_l01Divisor_code) spec_l01Divisor_ls := ⟨⟨rfl, rfl, spec_l01Divisor_l0_r⟩, trivial⟩
theorem spec_l01Divisor_e : ∀ v, (evFn (mkCtx Go.K.Link.seat spec_l01Divisor_c spec_l01Divisor_tab) (sums spec_l01Divisor_ls) 26 Go.Proofs.Try.f26 (encL spec_l01Divisor_s.a v)).run = (spec_l01Divisor_s.gen v).bind fun y => some (spec_l01Divisor_s.out y) := by
  rintro ⟨a, ⟨b, _⟩⟩
  show _ = (spec_l01Divisor a b).bind fun y : Int => some (spec_l01Divisor_s.out y)
  simp only [spec_l01Divisor, kb_ite, kb_some, kb_none, kb_bind, kb_alt]
  kernel_rfl
theorem spec_l01Divisor_is : FnIs Go.Proofs.Try.prog 26 (modeOf []) (phi [spec_l01Divisor_s]) := spec_is (c := spec_l01Divisor_c) seatOK spec_l01Divisor_t Go.Proofs.Try.func26 rfl (code := spec_l01Divisor_code) rfl rfl spec_l01Divisor_rs spec_l01Divisor_e
noncomputable def spec_l01Is_s : Spec := ⟨[.v (.pair (.int .i64) (.pair (.int .i64) (.unit))) .fr], Bool, fun v => spec_l01Is v.1, fun r => ([.v (.bool) .fr r], [])⟩
noncomputable def spec_l01Is_ls : List LSum := []
noncomputable def spec_l01Is_tab : List Row := [⟨25, [], [spec_l01In_s]⟩, ⟨26, [], [spec_l01Divisor_s]⟩]
theorem spec_l01Is_t : ∀ r, r ∈ spec_l01Is_tab → RowIs Go.Proofs.Try.prog r := tab_cons (spec_l01In_is) (tab_cons (spec_l01Divisor_is) (tab_nil))
theorem spec_l01Is_rs : RoundsOK (mkCtx Go.K.Link.seat spec_l01Is_c spec_l01Is_tab) (sums spec_l01Is_ls) (loopsOf 0 spec_l01Is_code) spec_l01Is_ls := trivial
theorem spec_l01Is_e : ∀ v, (evFn (mkCtx Go.K.Link.seat spec_l01Is_c spec_l01Is_tab) (sums spec_l01Is_ls) 10 Go.Proofs.Try.f10 (encL spec_l01Is_s.a v)).run = (spec_l01Is_s.gen v).bind fun y => some (spec_l01Is_s.out y) := by
  rintro ⟨a, _⟩
  show _ = (spec_l01Is a).bind fun y : Bool => some (spec_l01Is_s.out y)
  simp only [spec_l01Is, kb_ite, kb_some, kb_none, kb_bind, kb_alt]
  kernel_rfl
theorem spec_l01Is_is : FnIs Go.Proofs.Try.prog 10 (modeOf []) (phi [spec_l01Is_s]) := spec_is (c := spec_l01Is_c) seatOK spec_l01Is_t Go.Proofs.Try.func10 rfl (code := spec_l01Is_code) rfl rfl spec_l01Is_rs spec_l01Is_e
noncomputable def spec_l01Orbit_code : Code := (Go.Proofs.Try.f11.body).getD .skip
def spec_l01Orbit_c : Cfg := ⟨11, [], [[1, 5, 6, 7, 18, 34, 42], [1, 5, 7, 18, 34, 42], [2, 3, 4, 7, 18, 34, 42], [], [], [], [5, 7, 8, 18, 34, 42], [], [2, 3, 4, 7, 18, 34, 42]], [], [], []⟩
noncomputable def spec_l01Orbit_l0_s : LSum := ⟨0, ⟨[(1, .val (.ptr (.pair (.int .i64) (.pair (.int .i64) (.unit)))) (.own .fr)), (3, .val (.int .i64) .fr), (0, .val (.int .i64) .fr)], 37⟩, (.exit 0, ⟨[(1, .val (.ptr (.pair (.int .i64) (.pair (.int .i64) (.unit)))) (.own .fr)), (3, .val (.int .i64) .fr)], 38⟩), [], spec_l01Orbit_l0⟩
noncomputable def spec_l01Double_code : Code := (Go.Proofs.Try.f27.body).getD .skip
def spec_l01Double_c : Cfg := ⟨27, [], [], [], [], []⟩
noncomputable def spec_l01Of_code : Code := (Go.Proofs.Try.f42.body).getD .skip
def spec_l01Of_c : Cfg := ⟨42, [], [], [], [], []⟩
noncomputable def spec_l01Of_s : Spec := ⟨[.v (.int .i64) .fr, .v (.int .i64) .fr], (Int × (Int × Unit)), fun v => spec_l01Of v.1 v.2.1, fun r => ([.v (.pair (.int .i64) (.pair (.int .i64) (.unit))) .fr r], [])⟩
noncomputable def spec_l01Of_ls : List LSum := []
noncomputable def spec_l01Of_tab : List Row := [⟨26, [], [spec_l01Divisor_s]⟩]
theorem spec_l01Of_t : ∀ r, r ∈ spec_l01Of_tab → RowIs Go.Proofs.Try.prog r := tab_cons (spec_l01Divisor_is) (tab_nil)
theorem spec_l01Of_rs : RoundsOK (mkCtx Go.K.Link.seat spec_l01Of_c spec_l01Of_tab) (sums spec_l01Of_ls) (loopsOf 0 spec_l01Of_code) spec_l01Of_ls := trivial
theorem spec_l01Of_e : ∀ v, (evFn (mkCtx Go.K.Link.seat spec_l01Of_c spec_l01Of_tab) (sums spec_l01Of_ls) 42 Go.Proofs.Try.f42 (encL spec_l01Of_s.a v)).run = (spec_l01Of_s.gen v).bind fun y => some (spec_l01Of_s.out y) := by
  rintro ⟨num, ⟨den, _⟩⟩
  show _ = (spec_l01Of num den).bind fun y : (Int × (Int × Unit)) => some (spec_l01Of_s.out y)
  simp only [spec_l01Of, kb_ite, kb_some, kb_none, kb_bind, kb_alt]
  kernel_rfl
theorem spec_l01Of_is : FnIs Go.Proofs.Try.prog 42 (modeOf []) (phi [spec_l01Of_s]) := spec_is (c := spec_l01Of_c) seatOK spec_l01Of_t Go.Proofs.Try.func42 rfl (code := spec_l01Of_code) rfl rfl spec_l01Of_rs spec_l01Of_e
noncomputable def spec_l01Double_s : Spec := ⟨[.v (.pair (.int .i64) (.pair (.int .i64) (.unit))) .fr], (Int × (Int × Unit)), fun v => spec_l01Double v.1, fun r => ([.v (.pair (.int .i64) (.pair (.int .i64) (.unit))) .fr r], [])⟩
noncomputable def spec_l01Double_ls : List LSum := []
noncomputable def spec_l01Double_tab : List Row := [⟨42, [], [spec_l01Of_s]⟩]
theorem spec_l01Double_t : ∀ r, r ∈ spec_l01Double_tab → RowIs Go.Proofs.Try.prog r := tab_cons (spec_l01Of_is) (tab_nil)
theorem spec_l01Double_rs : RoundsOK (mkCtx Go.K.Link.seat spec_l01Double_c spec_l01Double_tab) (sums spec_l01Double_ls) (loopsOf 0 spec_l01Double_code) spec_l01Double_ls := trivial
theorem spec_l01Double_e : ∀ v, (evFn (mkCtx Go.K.Link.seat spec_l01Double_c spec_l01Double_tab) (sums spec_l01Double_ls) 27 Go.Proofs.Try.f27 (encL spec_l01Double_s.a v)).run = (spec_l01Double_s.gen v).bind fun y => some (spec_l01Double_s.out y) := by
  rintro ⟨a, _⟩
  show _ = (spec_l01Double a).bind fun y : (Int × (Int × Unit)) => some (spec_l01Double_s.out y)
  simp only [spec_l01Double, kb_ite, kb_some, kb_none, kb_bind, kb_alt]
  kernel_rfl
theorem spec_l01Double_is : FnIs Go.Proofs.Try.prog 27 (modeOf []) (phi [spec_l01Double_s]) := spec_is (c := spec_l01Double_c) seatOK spec_l01Double_t Go.Proofs.Try.func27 rfl (code := spec_l01Double_code) rfl rfl spec_l01Double_rs spec_l01Double_e
noncomputable def spec_l01Orbit_l1_s : LSum := ⟨2, ⟨[(5, .val (.int .i64) .fr), (1, .val (.sl 27 (.pair (.int .i64) (.pair (.int .i64) (.unit)))) (.own .fr)), (0, .val (.ptr (.pair (.int .i64) (.pair (.int .i64) (.unit)))) (.own .fr))], 35⟩, (.ret, ⟨[(2, .sref 7 []), (0, .val (.int .i64) .fr), (0, .val (.bool) .fr), (2, .val (.sl 27 (.pair (.int .i64) (.pair (.int .i64) (.unit)))) (.own .fr)), (26, .sref 7 [])], 9⟩), [(.ret, ⟨[(2, .val (.sl 27 (.pair (.int .i64) (.pair (.int .i64) (.unit)))) (.own .fr)), (0, .val (.int .i64) .fr), (0, .val (.bool) .fr), (2, .val (.sl 27 (.pair (.int .i64) (.pair (.int .i64) (.unit)))) (.own .fr))], 36⟩)], spec_l01Orbit_l1⟩
noncomputable def spec_l01Orbit_s : Spec := ⟨[.v (.pair (.int .i64) (.pair (.int .i64) (.unit))) .fr], (List (Int × (Int × Unit))) × Int × Bool, fun v => spec_l01Orbit v.1, fun r => ([.v (.sl 27 (.pair (.int .i64) (.pair (.int .i64) (.unit)))) (.own .fr) r.1, .v (.int .i64) .fr r.2.1, .v (.bool) .fr r.2.2], [])⟩
noncomputable def spec_l01Orbit_ls : List LSum := [spec_l01Orbit_l0_s, spec_l01Orbit_l1_s]
noncomputable def spec_l01Orbit_tab : List Row := [⟨27, [], [spec_l01Double_s]⟩]
theorem spec_l01Orbit_t : ∀ r, r ∈ spec_l01Orbit_tab → RowIs Go.Proofs.Try.prog r := tab_cons (spec_l01Double_is) (tab_nil)
theorem spec_l01Orbit_l0_r : RoundIs (mkCtx Go.K.Link.seat spec_l01Orbit_c spec_l01Orbit_tab) (sums spec_l01Orbit_ls) 0 (bodyAt (loopsOf 0 spec_l01Orbit_code) 0) spec_l01Orbit_l0_s := by
  rintro ⟨a, ⟨pre, ⟨den, _⟩⟩⟩
  show _ = (spec_l01Orbit_l0 (a, (pre, (den, ())))).bind fun r : (Ctl (((Int × (Int × Unit))) × Int × Int × Unit) ((((Int × (Int × Unit))) × Int × Unit))) => some (ctlVal spec_l01Orbit_l0_s r)
  simp only [spec_l01Orbit_l0, kb_ite, kb_some, kb_none, kb_bind, kb_alt]
  kernel_rfl
theorem spec_l01Orbit_l1_r : RoundIs (mkCtx Go.K.Link.seat spec_l01Orbit_c spec_l01Orbit_tab) (sums spec_l01Orbit_ls) 2 (bodyAt (loopsOf 0 spec_l01Orbit_code) 1) spec_l01Orbit_l1_s := by
  rintro ⟨pre, ⟨out, ⟨x, _⟩⟩⟩
  show _ = (spec_l01Orbit_l1 (pre, (out, (x, ())))).bind fun r : (Ctl (Int × (List (Int × (Int × Unit))) × ((Int × (Int × Unit))) × Unit) ((Int × Bool × (List (Int × (Int × Unit))) × Unit) ⊕ ((List (Int × (Int × Unit))) × Int × Bool × (List (Int × (Int × Unit))) × Unit))) => some (ctlVal spec_l01Orbit_l1_s r)
  simp only [spec_l01Orbit_l1, kb_ite, kb_some, kb_none, kb_bind, kb_alt]
  kernel_rfl
theorem spec_l01Orbit_rs : RoundsOK (mkCtx Go.K.Link.seat spec_l01Orbit_c spec_l01Orbit_tab) (sums spec_l01Orbit_ls) (loopsOf 0 spec_l01Orbit_code) spec_l01Orbit_ls := ⟨⟨rfl, rfl, spec_l01Orbit_l0_r⟩, ⟨⟨rfl, rfl, spec_l01Orbit_l1_r⟩, trivial⟩⟩
theorem spec_l01Orbit_e : ∀ v, (evFn (mkCtx Go.K.Link.seat spec_l01Orbit_c spec_l01Orbit_tab) (sums spec_l01Orbit_ls) 11 Go.Proofs.Try.f11 (encL spec_l01Orbit_s.a v)).run = (spec_l01Orbit_s.gen v).bind fun y => some (spec_l01Orbit_s.out y) := by
  rintro ⟨a, _⟩
  show _ = (spec_l01Orbit a).bind fun y : (List (Int × (Int × Unit))) × Int × Bool => some (spec_l01Orbit_s.out y)
  simp only [spec_l01Orbit, kb_ite, kb_some, kb_none, kb_bind, kb_alt]
  kernel_rfl
theorem spec_l01Orbit_is : FnIs Go.Proofs.Try.prog 11 (modeOf []) (phi [spec_l01Orbit_s]) := spec_is (c := spec_l01Orbit_c) seatOK spec_l01Orbit_t Go.Proofs.Try.func11 rfl (code := spec_l01Orbit_code) rfl rfl spec_l01Orbit_rs spec_l01Orbit_e
noncomputable def spec_l07Joined_code : Code := (Go.Proofs.Try.f12.body).getD .skip
def spec_l07Joined_c : Cfg := ⟨12, [], [[0, 1, 5, 6, 15, 68, 86, 90, 128], [0, 5, 15, 90, 128], [4, 11, 91, 108, 128], [], [], [], [0, 1, 5, 6, 7, 8, 9, 15, 32, 33, 68, 86, 90, 128], [0, 1, 6, 7, 8, 15, 32, 33, 68, 86, 128], [4, 11, 91, 108, 128], [], [], [], [0, 1, 5, 6, 7, 8, 9, 10, 15, 32, 33, 68, 86, 90, 128], [0, 1, 5, 6, 7, 8, 9, 15, 32, 33, 68, 86, 90, 128], [4, 11, 91, 108, 128], [], [], [], [5, 11, 12, 15, 90, 91, 128], [], [4, 11, 91, 108, 128], [], [], [], [5, 11, 12, 13, 15, 90, 91, 128], [5, 11, 12, 15, 90, 91, 128], [4, 11, 91, 108, 128], [], [], [], [5, 11, 12, 14, 15, 90, 91, 128], [5, 11, 12, 15, 90, 91, 128], [4, 11, 91, 108, 128]], [], [], [(999999, [12])]⟩
noncomputable def spec_l01Insert_code : Code := (Go.Proofs.Try.f28.body).getD .skip
def spec_l01Insert_c : Cfg := ⟨28, [.own], [[0, 3, 5, 33, 46], [0, 3, 5, 33, 46], [0, 4, 33, 46]], [], [], []⟩
noncomputable def spec_l01Less_code : Code := (Go.Proofs.Try.f43.body).getD .skip
def spec_l01Less_c : Cfg := ⟨43, [], [], [], [], []⟩
noncomputable def spec_l01Less_s : Spec := ⟨[.v (.pair (.int .i64) (.pair (.int .i64) (.unit))) .fr, .v (.pair (.int .i64) (.pair (.int .i64) (.unit))) .fr], Bool, fun v => spec_l01Less v.1 v.2.1, fun r => ([.v (.bool) .fr r], [])⟩
noncomputable def spec_l01Less_ls : List LSum := []
noncomputable def spec_l01Less_tab : List Row := []
theorem spec_l01Less_t : ∀ r, r ∈ spec_l01Less_tab → RowIs Go.Proofs.Try.prog r := tab_nil
theorem spec_l01Less_rs : RoundsOK (mkCtx Go.K.Link.seat spec_l01Less_c spec_l01Less_tab) (sums spec_l01Less_ls) (loopsOf 0 spec_l01Less_code) spec_l01Less_ls := trivial
theorem spec_l01Less_e : ∀ v, (evFn (mkCtx Go.K.Link.seat spec_l01Less_c spec_l01Less_tab) (sums spec_l01Less_ls) 43 Go.Proofs.Try.f43 (encL spec_l01Less_s.a v)).run = (spec_l01Less_s.gen v).bind fun y => some (spec_l01Less_s.out y) := by
  rintro ⟨a, ⟨b, _⟩⟩
  show _ = (spec_l01Less a b).bind fun y : Bool => some (spec_l01Less_s.out y)
  simp only [spec_l01Less, kb_ite, kb_some, kb_none, kb_bind, kb_alt]
  kernel_rfl
theorem spec_l01Less_is : FnIs Go.Proofs.Try.prog 43 (modeOf []) (phi [spec_l01Less_s]) := spec_is (c := spec_l01Less_c) seatOK spec_l01Less_t Go.Proofs.Try.func43 rfl (code := spec_l01Less_code) rfl rfl spec_l01Less_rs spec_l01Less_e
noncomputable def spec_l01Insert_l0_s : LSum := ⟨0, ⟨[(0, .val (.sl 27 (.pair (.int .i64) (.pair (.int .i64) (.unit)))) (.own .fr)), (2, .val (.ptr (.pair (.int .i64) (.pair (.int .i64) (.unit)))) (.own .fr)), (1, .val (.int .i64) .fr)], 41⟩, (.exit 0, ⟨[(0, .val (.sl 27 (.pair (.int .i64) (.pair (.int .i64) (.unit)))) (.own .fr)), (2, .val (.ptr (.pair (.int .i64) (.pair (.int .i64) (.unit)))) (.own .fr)), (1, .val (.int .i64) .fr)], 41⟩), [], spec_l01Insert_l0⟩
noncomputable def spec_l01Insert_s : Spec := ⟨[.v (.sl 27 (.pair (.int .i64) (.pair (.int .i64) (.unit)))) (.own .fr), .v (.pair (.int .i64) (.pair (.int .i64) (.unit))) .fr], (List (Int × (Int × Unit))), fun v => spec_l01Insert v.1 v.2.1, fun r => ([.v (.sl 27 (.pair (.int .i64) (.pair (.int .i64) (.unit)))) (.own .fr) r], [])⟩
noncomputable def spec_l01Insert_ls : List LSum := [spec_l01Insert_l0_s]
noncomputable def spec_l01Insert_tab : List Row := [⟨43, [], [spec_l01Less_s]⟩]
theorem spec_l01Insert_t : ∀ r, r ∈ spec_l01Insert_tab → RowIs Go.Proofs.Try.prog r := tab_cons (spec_l01Less_is) (tab_nil)
theorem spec_l01Insert_l0_r : RoundIs (mkCtx Go.K.Link.seat spec_l01Insert_c spec_l01Insert_tab) (sums spec_l01Insert_ls) 0 (bodyAt (loopsOf 0 spec_l01Insert_code) 0) spec_l01Insert_l0_s := by
  rintro ⟨list, ⟨a, ⟨at', _⟩⟩⟩
  show _ = (spec_l01Insert_l0 (list, (a, (at', ())))).bind fun r : (Ctl ((List (Int × (Int × Unit))) × ((Int × (Int × Unit))) × Int × Unit) (((List (Int × (Int × Unit))) × ((Int × (Int × Unit))) × Int × Unit))) => some (ctlVal spec_l01Insert_l0_s r)
  simp only [spec_l01Insert_l0, kb_ite, kb_some, kb_none, kb_bind, kb_alt]
  kernel_rfl
theorem spec_l01Insert_rs : RoundsOK (mkCtx Go.K.Link.seat spec_l01Insert_c spec_l01Insert_tab) (sums spec_l01Insert_ls) (loopsOf 0 spec_l01Insert_code) spec_l01Insert_ls := ⟨⟨rfl, rfl, spec_l01Insert_l0_r⟩, trivial⟩
theorem spec_l01Insert_e : ∀ v, (evFn (mkCtx Go.K.Link.seat spec_l01Insert_c spec_l01Insert_tab) (sums spec_l01Insert_ls) 28 Go.Proofs.Try.f28 (encL spec_l01Insert_s.a v)).run = (spec_l01Insert_s.gen v).bind fun y => some (spec_l01Insert_s.out y) := by
  rintro ⟨list, ⟨a, _⟩⟩
  show _ = (spec_l01Insert list a).bind fun y : (List (Int × (Int × Unit))) => some (spec_l01Insert_s.out y)
  simp only [spec_l01Insert, kb_ite, kb_some, kb_none, kb_bind, kb_alt]
  kernel_rfl
theorem spec_l01Insert_is : FnIs Go.Proofs.Try.prog 28 (modeOf [.own]) (phi [spec_l01Insert_s]) := spec_is (c := spec_l01Insert_c) seatOK spec_l01Insert_t Go.Proofs.Try.func28 rfl (code := spec_l01Insert_code) rfl rfl spec_l01Insert_rs spec_l01Insert_e
noncomputable def spec_l07Place_code : Code := (Go.Proofs.Try.f29.body).getD .skip
def spec_l07Place_c : Cfg := ⟨29, [], [[0, 3, 5], [], [4]], [], [], []⟩
noncomputable def spec_l07Place_l0_s : LSum := ⟨0, ⟨[(0, .val (.sl 27 (.pair (.int .i64) (.pair (.int .i64) (.unit)))) .fr), (2, .val (.ptr (.pair (.int .i64) (.pair (.int .i64) (.unit)))) (.own .fr)), (1, .val (.int .i64) .fr)], 13⟩, (.ret, ⟨[(4, .val (.int .i64) .fr)], 14⟩), [(.exit 0, ⟨[], 19⟩)], spec_l07Place_l0⟩
noncomputable def spec_l07Place_s : Spec := ⟨[.v (.sl 27 (.pair (.int .i64) (.pair (.int .i64) (.unit)))) .fr, .v (.pair (.int .i64) (.pair (.int .i64) (.unit))) .fr], Int, fun v => spec_l07Place v.1 v.2.1, fun r => ([.v (.int .i64) .fr r], [])⟩
noncomputable def spec_l07Place_ls : List LSum := [spec_l07Place_l0_s]
noncomputable def spec_l07Place_tab : List Row := []
theorem spec_l07Place_t : ∀ r, r ∈ spec_l07Place_tab → RowIs Go.Proofs.Try.prog r := tab_nil
theorem spec_l07Place_l0_r : RoundIs (mkCtx Go.K.Link.seat spec_l07Place_c spec_l07Place_tab) (sums spec_l07Place_ls) 0 (bodyAt (loopsOf 0 spec_l07Place_code) 0) spec_l07Place_l0_s := by
  rintro ⟨set, ⟨a, ⟨i, _⟩⟩⟩
  show _ = (spec_l07Place_l0 (set, (a, (i, ())))).bind fun r : (Ctl ((List (Int × (Int × Unit))) × ((Int × (Int × Unit))) × Int × Unit) ((Int × Unit) ⊕ (Unit))) => some (ctlVal spec_l07Place_l0_s r)
  simp only [spec_l07Place_l0, kb_ite, kb_some, kb_none, kb_bind, kb_alt]
  kernel_rfl
theorem spec_l07Place_rs : RoundsOK (mkCtx Go.K.Link.seat spec_l07Place_c spec_l07Place_tab) (sums spec_l07Place_ls) (loopsOf 0 spec_l07Place_code) spec_l07Place_ls := ⟨⟨rfl, rfl, spec_l07Place_l0_r⟩, trivial⟩
theorem spec_l07Place_e : ∀ v, (evFn (mkCtx Go.K.Link.seat spec_l07Place_c spec_l07Place_tab) (sums spec_l07Place_ls) 29 Go.Proofs.Try.f29 (encL spec_l07Place_s.a v)).run = (spec_l07Place_s.gen v).bind fun y => some (spec_l07Place_s.out y) := by
  rintro ⟨set, ⟨a, _⟩⟩
  show _ = (spec_l07Place set a).bind fun y : Int => some (spec_l07Place_s.out y)
  simp only [spec_l07Place, kb_ite, kb_some, kb_none, kb_bind, kb_alt]
  kernel_rfl
theorem spec_l07Place_is : FnIs Go.Proofs.Try.prog 29 (modeOf []) (phi [spec_l07Place_s]) := spec_is (c := spec_l07Place_c) seatOK spec_l07Place_t Go.Proofs.Try.func29 rfl (code := spec_l07Place_code) rfl rfl spec_l07Place_rs spec_l07Place_e
noncomputable def spec_l07Joined_l2_s : LSum := ⟨4, ⟨[(0, .val (.sl 27 (.pair (.int .i64) (.pair (.int .i64) (.unit)))) .fr), (0, .val (.sl 27 (.pair (.int .i64) (.pair (.int .i64) (.unit)))) .fr), (3, .val (.sl 33 (.sl 27 (.pair (.int .i64) (.pair (.int .i64) (.unit))))) (.own .fr)), (0, .val (.int .i64) .fr), (0, .val (.sl 27 (.pair (.int .i64) (.pair (.int .i64) (.unit)))) (.own .fr)), (0, .val (.sl 33 (.sl 27 (.pair (.int .i64) (.pair (.int .i64) (.unit))))) (.own .fr)), (0, .val (.int .i64) .fr), (0, .val (.int .i64) .fr)], 120⟩, (.exit 4, ⟨[(0, .val (.sl 27 (.pair (.int .i64) (.pair (.int .i64) (.unit)))) .fr), (0, .val (.sl 27 (.pair (.int .i64) (.pair (.int .i64) (.unit)))) .fr), (3, .val (.sl 33 (.sl 27 (.pair (.int .i64) (.pair (.int .i64) (.unit))))) (.own .fr)), (0, .val (.int .i64) .fr), (0, .val (.sl 27 (.pair (.int .i64) (.pair (.int .i64) (.unit)))) (.own .fr)), (0, .val (.sl 33 (.sl 27 (.pair (.int .i64) (.pair (.int .i64) (.unit))))) (.own .fr)), (0, .val (.int .i64) .fr)], 121⟩), [], spec_l07Joined_l2⟩
noncomputable def spec_l07Joined_l1_s : LSum := ⟨2, ⟨[(0, .val (.sl 27 (.pair (.int .i64) (.pair (.int .i64) (.unit)))) .fr), (0, .val (.sl 27 (.pair (.int .i64) (.pair (.int .i64) (.unit)))) .fr), (3, .val (.sl 33 (.sl 27 (.pair (.int .i64) (.pair (.int .i64) (.unit))))) (.own .fr)), (0, .val (.int .i64) .fr), (0, .val (.sl 27 (.pair (.int .i64) (.pair (.int .i64) (.unit)))) (.own .fr)), (0, .val (.sl 33 (.sl 27 (.pair (.int .i64) (.pair (.int .i64) (.unit))))) (.own .fr)), (0, .val (.int .i64) .fr)], 121⟩, (.exit 2, ⟨[(0, .val (.sl 27 (.pair (.int .i64) (.pair (.int .i64) (.unit)))) .fr), (0, .val (.sl 27 (.pair (.int .i64) (.pair (.int .i64) (.unit)))) .fr), (4, .val (.int .i64) .fr), (0, .val (.sl 27 (.pair (.int .i64) (.pair (.int .i64) (.unit)))) (.own .fr)), (0, .val (.sl 33 (.sl 27 (.pair (.int .i64) (.pair (.int .i64) (.unit))))) (.own .fr))], 122⟩), [], spec_l07Joined_l1⟩
noncomputable def spec_l07Joined_l0_s : LSum := ⟨0, ⟨[(0, .val (.sl 27 (.pair (.int .i64) (.pair (.int .i64) (.unit)))) .fr), (0, .val (.sl 27 (.pair (.int .i64) (.pair (.int .i64) (.unit)))) .fr), (3, .val (.sl 33 (.sl 27 (.pair (.int .i64) (.pair (.int .i64) (.unit))))) (.own .fr)), (0, .val (.int .i64) .fr)], 124⟩, (.exit 0, ⟨[(0, .val (.sl 27 (.pair (.int .i64) (.pair (.int .i64) (.unit)))) .fr), (4, .val (.sl 33 (.sl 27 (.pair (.int .i64) (.pair (.int .i64) (.unit))))) (.own .fr))], 125⟩), [], spec_l07Joined_l0⟩
noncomputable def spec_l07Joined_l4_s : LSum := ⟨8, ⟨[(5, .val (.sl 33 (.sl 27 (.pair (.int .i64) (.pair (.int .i64) (.unit))))) (.own .fr)), (5, .val (.sl 33 (.sl 27 (.pair (.int .i64) (.pair (.int .i64) (.unit))))) (.own .fr)), (0, .val (.ptr (.pair (.int .i64) (.pair (.int .i64) (.unit)))) (.own .fr)), (0, .val (.int .i64) .fr)], 117⟩, (.ret, ⟨[(4, .sref 11 []), (6, .val (.sl 33 (.sl 27 (.pair (.int .i64) (.pair (.int .i64) (.unit))))) (.own .fr)), (96, .sref 11 [])], 22⟩), [(.exit 8, ⟨[(5, .val (.sl 33 (.sl 27 (.pair (.int .i64) (.pair (.int .i64) (.unit))))) (.own .fr)), (5, .val (.sl 33 (.sl 27 (.pair (.int .i64) (.pair (.int .i64) (.unit))))) (.own .fr)), (0, .val (.ptr (.pair (.int .i64) (.pair (.int .i64) (.unit)))) (.own .fr))], 118⟩)], spec_l07Joined_l4⟩
noncomputable def spec_l07Joined_l5_s : LSum := ⟨10, ⟨[(5, .val (.sl 33 (.sl 27 (.pair (.int .i64) (.pair (.int .i64) (.unit))))) (.own .fr)), (5, .val (.sl 33 (.sl 27 (.pair (.int .i64) (.pair (.int .i64) (.unit))))) (.own .fr)), (0, .val (.ptr (.pair (.int .i64) (.pair (.int .i64) (.unit)))) (.own .fr)), (1, .val (.int .i64) .fr)], 116⟩, (.exit 10, ⟨[(5, .val (.sl 33 (.sl 27 (.pair (.int .i64) (.pair (.int .i64) (.unit))))) (.own .fr)), (5, .val (.sl 33 (.sl 27 (.pair (.int .i64) (.pair (.int .i64) (.unit))))) (.own .fr)), (0, .val (.ptr (.pair (.int .i64) (.pair (.int .i64) (.unit)))) (.own .fr))], 118⟩), [], spec_l07Joined_l5⟩
noncomputable def spec_l07Joined_l3_s : LSum := ⟨6, ⟨[(5, .val (.sl 33 (.sl 27 (.pair (.int .i64) (.pair (.int .i64) (.unit))))) (.own .fr)), (5, .val (.sl 33 (.sl 27 (.pair (.int .i64) (.pair (.int .i64) (.unit))))) (.own .fr)), (0, .val (.ptr (.pair (.int .i64) (.pair (.int .i64) (.unit)))) (.own .fr))], 118⟩, (.ret, ⟨[(4, .sref 11 []), (6, .val (.sl 33 (.sl 27 (.pair (.int .i64) (.pair (.int .i64) (.unit))))) (.own .fr)), (96, .sref 11 [])], 22⟩), [], spec_l07Joined_l3⟩
noncomputable def spec_l07Joined_s : Spec := ⟨[.v (.sl 27 (.pair (.int .i64) (.pair (.int .i64) (.unit)))) .fr, .v (.sl 27 (.pair (.int .i64) (.pair (.int .i64) (.unit)))) .fr], (List (List (Int × (Int × Unit)))), fun v => spec_l07Joined v.1 v.2.1, fun r => ([.v (.sl 33 (.sl 27 (.pair (.int .i64) (.pair (.int .i64) (.unit))))) (.own .fr) r], [])⟩
noncomputable def spec_l07Joined_ls : List LSum := [spec_l07Joined_l0_s, spec_l07Joined_l1_s, spec_l07Joined_l2_s, spec_l07Joined_l3_s, spec_l07Joined_l4_s, spec_l07Joined_l5_s]
noncomputable def spec_l07Joined_tab : List Row := [⟨27, [], [spec_l01Double_s]⟩, ⟨28, [.own], [spec_l01Insert_s]⟩, ⟨29, [], [spec_l07Place_s]⟩]
theorem spec_l07Joined_t : ∀ r, r ∈ spec_l07Joined_tab → RowIs Go.Proofs.Try.prog r := tab_cons (spec_l01Double_is) (tab_cons (spec_l01Insert_is) (tab_cons (spec_l07Place_is) (tab_nil)))
theorem spec_l07Joined_l0_r : RoundIs (mkCtx Go.K.Link.seat spec_l07Joined_c spec_l07Joined_tab) (sums spec_l07Joined_ls) 0 (bodyAt (loopsOf 0 spec_l07Joined_code) 0) spec_l07Joined_l0_s := by
  rintro ⟨one, ⟨two, ⟨sets, ⟨i, _⟩⟩⟩⟩
  show _ = (spec_l07Joined_l0 (one, (two, (sets, (i, ()))))).bind fun r : (Ctl ((List (Int × (Int × Unit))) × (List (Int × (Int × Unit))) × (List (List (Int × (Int × Unit)))) × Int × Unit) (((List (Int × (Int × Unit))) × (List (List (Int × (Int × Unit)))) × Unit))) => some (ctlVal spec_l07Joined_l0_s r)
  simp only [spec_l07Joined_l0, kb_ite, kb_some, kb_none, kb_bind, kb_alt]
  kernel_rfl
theorem spec_l07Joined_l1_r : RoundIs (mkCtx Go.K.Link.seat spec_l07Joined_c spec_l07Joined_tab) (sums spec_l07Joined_ls) 2 (bodyAt (loopsOf 0 spec_l07Joined_code) 1) spec_l07Joined_l1_s := by
  rintro ⟨one, ⟨two, ⟨sets, ⟨i, ⟨own, ⟨rest, ⟨k, _⟩⟩⟩⟩⟩⟩⟩
  show _ = (spec_l07Joined_l1 (one, (two, (sets, (i, (own, (rest, (k, ())))))))).bind fun r : (Ctl ((List (Int × (Int × Unit))) × (List (Int × (Int × Unit))) × (List (List (Int × (Int × Unit)))) × Int × (List (Int × (Int × Unit))) × (List (List (Int × (Int × Unit)))) × Int × Unit) (((List (Int × (Int × Unit))) × (List (Int × (Int × Unit))) × Int × (List (Int × (Int × Unit))) × (List (List (Int × (Int × Unit)))) × Unit))) => some (ctlVal spec_l07Joined_l1_s r)
  simp only [spec_l07Joined_l1, kb_ite, kb_some, kb_none, kb_bind, kb_alt]
  kernel_rfl
theorem spec_l07Joined_l2_r : RoundIs (mkCtx Go.K.Link.seat spec_l07Joined_c spec_l07Joined_tab) (sums spec_l07Joined_ls) 4 (bodyAt (loopsOf 0 spec_l07Joined_code) 2) spec_l07Joined_l2_s := by
  rintro ⟨one, ⟨two, ⟨sets, ⟨i, ⟨own, ⟨rest, ⟨k, ⟨j, _⟩⟩⟩⟩⟩⟩⟩⟩
  show _ = (spec_l07Joined_l2 (one, (two, (sets, (i, (own, (rest, (k, (j, ()))))))))).bind fun r : (Ctl ((List (Int × (Int × Unit))) × (List (Int × (Int × Unit))) × (List (List (Int × (Int × Unit)))) × Int × (List (Int × (Int × Unit))) × (List (List (Int × (Int × Unit)))) × Int × Int × Unit) (((List (Int × (Int × Unit))) × (List (Int × (Int × Unit))) × (List (List (Int × (Int × Unit)))) × Int × (List (Int × (Int × Unit))) × (List (List (Int × (Int × Unit)))) × Int × Unit))) => some (ctlVal spec_l07Joined_l2_s r)
  simp only [spec_l07Joined_l2, kb_ite, kb_some, kb_none, kb_bind, kb_alt]
  kernel_rfl
theorem spec_l07Joined_l3_r : RoundIs (mkCtx Go.K.Link.seat spec_l07Joined_c spec_l07Joined_tab) (sums spec_l07Joined_ls) 6 (bodyAt (loopsOf 0 spec_l07Joined_code) 3) spec_l07Joined_l3_s := by
  rintro ⟨sets, ⟨out, ⟨x, _⟩⟩⟩
  show _ = (spec_l07Joined_l3 (sets, (out, (x, ())))).bind fun r : (Ctl ((List (List (Int × (Int × Unit)))) × (List (List (Int × (Int × Unit)))) × ((Int × (Int × Unit))) × Unit) (((List (List (Int × (Int × Unit)))) × Unit))) => some (ctlVal spec_l07Joined_l3_s r)
  simp only [spec_l07Joined_l3, kb_ite, kb_some, kb_none, kb_bind, kb_alt]
  kernel_rfl
theorem spec_l07Joined_l4_r : RoundIs (mkCtx Go.K.Link.seat spec_l07Joined_c spec_l07Joined_tab) (sums spec_l07Joined_ls) 8 (bodyAt (loopsOf 0 spec_l07Joined_code) 4) spec_l07Joined_l4_s := by
  rintro ⟨sets, ⟨out, ⟨x, ⟨i, _⟩⟩⟩⟩
  show _ = (spec_l07Joined_l4 (sets, (out, (x, (i, ()))))).bind fun r : (Ctl ((List (List (Int × (Int × Unit)))) × (List (List (Int × (Int × Unit)))) × ((Int × (Int × Unit))) × Int × Unit) (((List (List (Int × (Int × Unit)))) × Unit) ⊕ ((List (List (Int × (Int × Unit)))) × (List (List (Int × (Int × Unit)))) × ((Int × (Int × Unit))) × Unit))) => some (ctlVal spec_l07Joined_l4_s r)
  simp only [spec_l07Joined_l4, kb_ite, kb_some, kb_none, kb_bind, kb_alt]
  kernel_rfl
theorem spec_l07Joined_l5_r : RoundIs (mkCtx Go.K.Link.seat spec_l07Joined_c spec_l07Joined_tab) (sums spec_l07Joined_ls) 10 (bodyAt (loopsOf 0 spec_l07Joined_code) 5) spec_l07Joined_l5_s := by
  rintro ⟨sets, ⟨out, ⟨x, ⟨i, _⟩⟩⟩⟩
  show _ = (spec_l07Joined_l5 (sets, (out, (x, (i, ()))))).bind fun r : (Ctl ((List (List (Int × (Int × Unit)))) × (List (List (Int × (Int × Unit)))) × ((Int × (Int × Unit))) × Int × Unit) (((List (List (Int × (Int × Unit)))) × (List (List (Int × (Int × Unit)))) × ((Int × (Int × Unit))) × Unit))) => some (ctlVal spec_l07Joined_l5_s r)
  simp only [spec_l07Joined_l5, kb_ite, kb_some, kb_none, kb_bind, kb_alt]
  kernel_rfl
theorem spec_l07Joined_rs : RoundsOK (mkCtx Go.K.Link.seat spec_l07Joined_c spec_l07Joined_tab) (sums spec_l07Joined_ls) (loopsOf 0 spec_l07Joined_code) spec_l07Joined_ls := ⟨⟨rfl, rfl, spec_l07Joined_l0_r⟩, ⟨⟨rfl, rfl, spec_l07Joined_l1_r⟩, ⟨⟨rfl, rfl, spec_l07Joined_l2_r⟩, ⟨⟨rfl, rfl, spec_l07Joined_l3_r⟩, ⟨⟨rfl, rfl, spec_l07Joined_l4_r⟩, ⟨⟨rfl, rfl, spec_l07Joined_l5_r⟩, trivial⟩⟩⟩⟩⟩⟩
theorem spec_l07Joined_e : ∀ v, (evFn (mkCtx Go.K.Link.seat spec_l07Joined_c spec_l07Joined_tab) (sums spec_l07Joined_ls) 12 Go.Proofs.Try.f12 (encL spec_l07Joined_s.a v)).run = (spec_l07Joined_s.gen v).bind fun y => some (spec_l07Joined_s.out y) := by
  rintro ⟨one, ⟨two, _⟩⟩
  show _ = (spec_l07Joined one two).bind fun y : (List (List (Int × (Int × Unit)))) => some (spec_l07Joined_s.out y)
  simp only [spec_l07Joined, kb_ite, kb_some, kb_none, kb_bind, kb_alt]
  kernel_rfl
theorem spec_l07Joined_is : FnIs Go.Proofs.Try.prog 12 (modeOf []) (phi [spec_l07Joined_s]) := spec_is (c := spec_l07Joined_c) seatOK spec_l07Joined_t Go.Proofs.Try.func12 rfl (code := spec_l07Joined_code) rfl rfl spec_l07Joined_rs spec_l07Joined_e
noncomputable def spec_l07Is_code : Code := (Go.Proofs.Try.f13.body).getD .skip
def spec_l07Is_c : Cfg := ⟨13, [], [], [], [], []⟩
noncomputable def spec_l07Lists_code : Code := (Go.Proofs.Try.f30.body).getD .skip
def spec_l07Lists_c : Cfg := ⟨30, [], [[0, 3, 4], [0, 3], [2], [], [], [], [0, 3, 4, 5], [0, 3, 4], [2], [], [], [], [0, 6], [], [2]], [], [], []⟩
noncomputable def spec_l07Lists_l1_s : LSum := ⟨2, ⟨[(0, .val (.sl 33 (.sl 27 (.pair (.int .i64) (.pair (.int .i64) (.unit))))) .fr), (2, .val (.int .i64) .fr), (0, .val (.int .i64) .fr), (0, .val (.int .i64) .fr)], 64⟩, (.ret, ⟨[(2, .val (.int .i64) .fr)], 67⟩), [(.exit 2, ⟨[(0, .val (.sl 33 (.sl 27 (.pair (.int .i64) (.pair (.int .i64) (.unit))))) .fr), (2, .val (.int .i64) .fr), (0, .val (.int .i64) .fr)], 65⟩)], spec_l07Lists_l1⟩
noncomputable def spec_l07Lists_l0_s : LSum := ⟨0, ⟨[(0, .val (.sl 33 (.sl 27 (.pair (.int .i64) (.pair (.int .i64) (.unit))))) .fr), (2, .val (.int .i64) .fr), (0, .val (.int .i64) .fr)], 65⟩, (.ret, ⟨[(2, .val (.int .i64) .fr)], 67⟩), [(.exit 0, ⟨[(0, .val (.sl 33 (.sl 27 (.pair (.int .i64) (.pair (.int .i64) (.unit))))) .fr), (2, .val (.int .i64) .fr)], 66⟩)], spec_l07Lists_l0⟩
noncomputable def spec_l03Ascending_code : Code := (Go.Proofs.Try.f44.body).getD .skip
def spec_l03Ascending_c : Cfg := ⟨44, [], [[0, 3], [], [2]], [], [], []⟩
noncomputable def spec_l03Ascending_l0_s : LSum := ⟨0, ⟨[(0, .val (.sl 27 (.pair (.int .i64) (.pair (.int .i64) (.unit)))) .fr), (2, .val (.int .i64) .fr)], 17⟩, (.ret, ⟨[(2, .val (.bool) .fr)], 18⟩), [(.exit 0, ⟨[], 21⟩)], spec_l03Ascending_l0⟩
noncomputable def spec_l03Ascending_s : Spec := ⟨[.v (.sl 27 (.pair (.int .i64) (.pair (.int .i64) (.unit)))) .fr], Bool, fun v => spec_l03Ascending v.1, fun r => ([.v (.bool) .fr r], [])⟩
noncomputable def spec_l03Ascending_ls : List LSum := [spec_l03Ascending_l0_s]
noncomputable def spec_l03Ascending_tab : List Row := [⟨43, [], [spec_l01Less_s]⟩]
theorem spec_l03Ascending_t : ∀ r, r ∈ spec_l03Ascending_tab → RowIs Go.Proofs.Try.prog r := tab_cons (spec_l01Less_is) (tab_nil)
theorem spec_l03Ascending_l0_r : RoundIs (mkCtx Go.K.Link.seat spec_l03Ascending_c spec_l03Ascending_tab) (sums spec_l03Ascending_ls) 0 (bodyAt (loopsOf 0 spec_l03Ascending_code) 0) spec_l03Ascending_l0_s := by
  rintro ⟨list, ⟨i, _⟩⟩
  show _ = (spec_l03Ascending_l0 (list, (i, ()))).bind fun r : (Ctl ((List (Int × (Int × Unit))) × Int × Unit) ((Bool × Unit) ⊕ (Unit))) => some (ctlVal spec_l03Ascending_l0_s r)
  simp only [spec_l03Ascending_l0, kb_ite, kb_some, kb_none, kb_bind, kb_alt]
  kernel_rfl
theorem spec_l03Ascending_rs : RoundsOK (mkCtx Go.K.Link.seat spec_l03Ascending_c spec_l03Ascending_tab) (sums spec_l03Ascending_ls) (loopsOf 0 spec_l03Ascending_code) spec_l03Ascending_ls := ⟨⟨rfl, rfl, spec_l03Ascending_l0_r⟩, trivial⟩
theorem spec_l03Ascending_e : ∀ v, (evFn (mkCtx Go.K.Link.seat spec_l03Ascending_c spec_l03Ascending_tab) (sums spec_l03Ascending_ls) 44 Go.Proofs.Try.f44 (encL spec_l03Ascending_s.a v)).run = (spec_l03Ascending_s.gen v).bind fun y => some (spec_l03Ascending_s.out y) := by
  rintro ⟨list, _⟩
  show _ = (spec_l03Ascending list).bind fun y : Bool => some (spec_l03Ascending_s.out y)
  simp only [spec_l03Ascending, kb_ite, kb_some, kb_none, kb_bind, kb_alt]
  kernel_rfl
theorem spec_l03Ascending_is : FnIs Go.Proofs.Try.prog 44 (modeOf []) (phi [spec_l03Ascending_s]) := spec_is (c := spec_l03Ascending_c) seatOK spec_l03Ascending_t Go.Proofs.Try.func44 rfl (code := spec_l03Ascending_code) rfl rfl spec_l03Ascending_rs spec_l03Ascending_e
noncomputable def spec_l07Lists_l2_s : LSum := ⟨4, ⟨[(0, .val (.sl 33 (.sl 27 (.pair (.int .i64) (.pair (.int .i64) (.unit))))) .fr), (5, .val (.int .i64) .fr)], 63⟩, (.ret, ⟨[(2, .val (.int .i64) .fr)], 67⟩), [(.exit 4, ⟨[], 70⟩)], spec_l07Lists_l2⟩
noncomputable def spec_l07Lists_s : Spec := ⟨[.v (.sl 33 (.sl 27 (.pair (.int .i64) (.pair (.int .i64) (.unit))))) .fr], Int, fun v => spec_l07Lists v.1, fun r => ([.v (.int .i64) .fr r], [])⟩
noncomputable def spec_l07Lists_ls : List LSum := [spec_l07Lists_l0_s, spec_l07Lists_l1_s, spec_l07Lists_l2_s]
noncomputable def spec_l07Lists_tab : List Row := [⟨10, [], [spec_l01Is_s]⟩, ⟨44, [], [spec_l03Ascending_s]⟩]
theorem spec_l07Lists_t : ∀ r, r ∈ spec_l07Lists_tab → RowIs Go.Proofs.Try.prog r := tab_cons (spec_l01Is_is) (tab_cons (spec_l03Ascending_is) (tab_nil))
theorem spec_l07Lists_l0_r : RoundIs (mkCtx Go.K.Link.seat spec_l07Lists_c spec_l07Lists_tab) (sums spec_l07Lists_ls) 0 (bodyAt (loopsOf 0 spec_l07Lists_code) 0) spec_l07Lists_l0_s := by
  rintro ⟨sets, ⟨count, ⟨i, _⟩⟩⟩
  show _ = (spec_l07Lists_l0 (sets, (count, (i, ())))).bind fun r : (Ctl ((List (List (Int × (Int × Unit)))) × Int × Int × Unit) ((Int × Unit) ⊕ ((List (List (Int × (Int × Unit)))) × Int × Unit))) => some (ctlVal spec_l07Lists_l0_s r)
  simp only [spec_l07Lists_l0, kb_ite, kb_some, kb_none, kb_bind, kb_alt]
  kernel_rfl
theorem spec_l07Lists_l1_r : RoundIs (mkCtx Go.K.Link.seat spec_l07Lists_c spec_l07Lists_tab) (sums spec_l07Lists_ls) 2 (bodyAt (loopsOf 0 spec_l07Lists_code) 1) spec_l07Lists_l1_s := by
  rintro ⟨sets, ⟨count, ⟨i, ⟨k, _⟩⟩⟩⟩
  show _ = (spec_l07Lists_l1 (sets, (count, (i, (k, ()))))).bind fun r : (Ctl ((List (List (Int × (Int × Unit)))) × Int × Int × Int × Unit) ((Int × Unit) ⊕ ((List (List (Int × (Int × Unit)))) × Int × Int × Unit))) => some (ctlVal spec_l07Lists_l1_s r)
  simp only [spec_l07Lists_l1, kb_ite, kb_some, kb_none, kb_bind, kb_alt]
  kernel_rfl
theorem spec_l07Lists_l2_r : RoundIs (mkCtx Go.K.Link.seat spec_l07Lists_c spec_l07Lists_tab) (sums spec_l07Lists_ls) 4 (bodyAt (loopsOf 0 spec_l07Lists_code) 2) spec_l07Lists_l2_s := by
  rintro ⟨sets, ⟨i, _⟩⟩
  show _ = (spec_l07Lists_l2 (sets, (i, ()))).bind fun r : (Ctl ((List (List (Int × (Int × Unit)))) × Int × Unit) ((Int × Unit) ⊕ (Unit))) => some (ctlVal spec_l07Lists_l2_s r)
  simp only [spec_l07Lists_l2, kb_ite, kb_some, kb_none, kb_bind, kb_alt]
  kernel_rfl
theorem spec_l07Lists_rs : RoundsOK (mkCtx Go.K.Link.seat spec_l07Lists_c spec_l07Lists_tab) (sums spec_l07Lists_ls) (loopsOf 0 spec_l07Lists_code) spec_l07Lists_ls := ⟨⟨rfl, rfl, spec_l07Lists_l0_r⟩, ⟨⟨rfl, rfl, spec_l07Lists_l1_r⟩, ⟨⟨rfl, rfl, spec_l07Lists_l2_r⟩, trivial⟩⟩⟩
theorem spec_l07Lists_e : ∀ v, (evFn (mkCtx Go.K.Link.seat spec_l07Lists_c spec_l07Lists_tab) (sums spec_l07Lists_ls) 30 Go.Proofs.Try.f30 (encL spec_l07Lists_s.a v)).run = (spec_l07Lists_s.gen v).bind fun y => some (spec_l07Lists_s.out y) := by
  rintro ⟨sets, _⟩
  show _ = (spec_l07Lists sets).bind fun y : Int => some (spec_l07Lists_s.out y)
  simp only [spec_l07Lists, kb_ite, kb_some, kb_none, kb_bind, kb_alt]
  kernel_rfl
theorem spec_l07Lists_is : FnIs Go.Proofs.Try.prog 30 (modeOf []) (phi [spec_l07Lists_s]) := spec_is (c := spec_l07Lists_c) seatOK spec_l07Lists_t Go.Proofs.Try.func30 rfl (code := spec_l07Lists_code) rfl rfl spec_l07Lists_rs spec_l07Lists_e
noncomputable def spec_l07Fails_code : Code := (Go.Proofs.Try.f31.body).getD .skip
def spec_l07Fails_c : Cfg := ⟨31, [], [[0, 3, 4], [0, 3], [2], [], [], [], [0, 3, 5], [0, 3], [2], [], [], [], [0, 3, 6, 7], [0, 3], [2], [], [], [], [0, 3, 6, 7, 8], [0, 3, 6, 7], [2], [], [], [], [0, 3, 12], [], [2], [], [], [], [0, 3, 12, 13], [0, 3, 12], [2]], [], [], []⟩
noncomputable def spec_l07Apart_code : Code := (Go.Proofs.Try.f45.body).getD .skip
def spec_l07Apart_c : Cfg := ⟨45, [], [[0, 3], [], [2], [], [], [], [0, 3, 4], [0, 3], [2], [], [], [], [0, 3, 4, 5], [0, 3, 4], [2]], [], [], []⟩
noncomputable def spec_l07Apart_l2_s : LSum := ⟨4, ⟨[(0, .val (.sl 33 (.sl 27 (.pair (.int .i64) (.pair (.int .i64) (.unit))))) .fr), (2, .val (.int .i64) .fr), (0, .val (.int .i64) .fr), (0, .val (.int .i64) .fr)], 33⟩, (.ret, ⟨[(2, .val (.bool) .fr)], 36⟩), [(.exit 4, ⟨[(0, .val (.sl 33 (.sl 27 (.pair (.int .i64) (.pair (.int .i64) (.unit))))) .fr), (2, .val (.int .i64) .fr), (0, .val (.int .i64) .fr)], 34⟩)], spec_l07Apart_l2⟩
noncomputable def spec_l07Apart_l1_s : LSum := ⟨2, ⟨[(0, .val (.sl 33 (.sl 27 (.pair (.int .i64) (.pair (.int .i64) (.unit))))) .fr), (2, .val (.int .i64) .fr), (0, .val (.int .i64) .fr)], 34⟩, (.ret, ⟨[(2, .val (.bool) .fr)], 36⟩), [(.exit 2, ⟨[(0, .val (.sl 33 (.sl 27 (.pair (.int .i64) (.pair (.int .i64) (.unit))))) .fr), (2, .val (.int .i64) .fr)], 35⟩)], spec_l07Apart_l1⟩
noncomputable def spec_l07Apart_l0_s : LSum := ⟨0, ⟨[(0, .val (.sl 33 (.sl 27 (.pair (.int .i64) (.pair (.int .i64) (.unit))))) .fr), (2, .val (.int .i64) .fr)], 35⟩, (.ret, ⟨[(2, .val (.bool) .fr)], 36⟩), [(.exit 0, ⟨[], 39⟩)], spec_l07Apart_l0⟩
noncomputable def spec_l07Apart_s : Spec := ⟨[.v (.sl 33 (.sl 27 (.pair (.int .i64) (.pair (.int .i64) (.unit))))) .fr], Bool, fun v => spec_l07Apart v.1, fun r => ([.v (.bool) .fr r], [])⟩
noncomputable def spec_l07Apart_ls : List LSum := [spec_l07Apart_l0_s, spec_l07Apart_l1_s, spec_l07Apart_l2_s]
noncomputable def spec_l07Apart_tab : List Row := [⟨29, [], [spec_l07Place_s]⟩]
theorem spec_l07Apart_t : ∀ r, r ∈ spec_l07Apart_tab → RowIs Go.Proofs.Try.prog r := tab_cons (spec_l07Place_is) (tab_nil)
theorem spec_l07Apart_l0_r : RoundIs (mkCtx Go.K.Link.seat spec_l07Apart_c spec_l07Apart_tab) (sums spec_l07Apart_ls) 0 (bodyAt (loopsOf 0 spec_l07Apart_code) 0) spec_l07Apart_l0_s := by
  rintro ⟨sets, ⟨i, _⟩⟩
  show _ = (spec_l07Apart_l0 (sets, (i, ()))).bind fun r : (Ctl ((List (List (Int × (Int × Unit)))) × Int × Unit) ((Bool × Unit) ⊕ (Unit))) => some (ctlVal spec_l07Apart_l0_s r)
  simp only [spec_l07Apart_l0, kb_ite, kb_some, kb_none, kb_bind, kb_alt]
  kernel_rfl
theorem spec_l07Apart_l1_r : RoundIs (mkCtx Go.K.Link.seat spec_l07Apart_c spec_l07Apart_tab) (sums spec_l07Apart_ls) 2 (bodyAt (loopsOf 0 spec_l07Apart_code) 1) spec_l07Apart_l1_s := by
  rintro ⟨sets, ⟨i, ⟨k, _⟩⟩⟩
  show _ = (spec_l07Apart_l1 (sets, (i, (k, ())))).bind fun r : (Ctl ((List (List (Int × (Int × Unit)))) × Int × Int × Unit) ((Bool × Unit) ⊕ ((List (List (Int × (Int × Unit)))) × Int × Unit))) => some (ctlVal spec_l07Apart_l1_s r)
  simp only [spec_l07Apart_l1, kb_ite, kb_some, kb_none, kb_bind, kb_alt]
  kernel_rfl
theorem spec_l07Apart_l2_r : RoundIs (mkCtx Go.K.Link.seat spec_l07Apart_c spec_l07Apart_tab) (sums spec_l07Apart_ls) 4 (bodyAt (loopsOf 0 spec_l07Apart_code) 2) spec_l07Apart_l2_s := by
  rintro ⟨sets, ⟨i, ⟨k, ⟨j, _⟩⟩⟩⟩
  show _ = (spec_l07Apart_l2 (sets, (i, (k, (j, ()))))).bind fun r : (Ctl ((List (List (Int × (Int × Unit)))) × Int × Int × Int × Unit) ((Bool × Unit) ⊕ ((List (List (Int × (Int × Unit)))) × Int × Int × Unit))) => some (ctlVal spec_l07Apart_l2_s r)
  simp only [spec_l07Apart_l2, kb_ite, kb_some, kb_none, kb_bind, kb_alt]
  kernel_rfl
theorem spec_l07Apart_rs : RoundsOK (mkCtx Go.K.Link.seat spec_l07Apart_c spec_l07Apart_tab) (sums spec_l07Apart_ls) (loopsOf 0 spec_l07Apart_code) spec_l07Apart_ls := ⟨⟨rfl, rfl, spec_l07Apart_l0_r⟩, ⟨⟨rfl, rfl, spec_l07Apart_l1_r⟩, ⟨⟨rfl, rfl, spec_l07Apart_l2_r⟩, trivial⟩⟩⟩
theorem spec_l07Apart_e : ∀ v, (evFn (mkCtx Go.K.Link.seat spec_l07Apart_c spec_l07Apart_tab) (sums spec_l07Apart_ls) 45 Go.Proofs.Try.f45 (encL spec_l07Apart_s.a v)).run = (spec_l07Apart_s.gen v).bind fun y => some (spec_l07Apart_s.out y) := by
  rintro ⟨sets, _⟩
  show _ = (spec_l07Apart sets).bind fun y : Bool => some (spec_l07Apart_s.out y)
  simp only [spec_l07Apart, kb_ite, kb_some, kb_none, kb_bind, kb_alt]
  kernel_rfl
theorem spec_l07Apart_is : FnIs Go.Proofs.Try.prog 45 (modeOf []) (phi [spec_l07Apart_s]) := spec_is (c := spec_l07Apart_c) seatOK spec_l07Apart_t Go.Proofs.Try.func45 rfl (code := spec_l07Apart_code) rfl rfl spec_l07Apart_rs spec_l07Apart_e
noncomputable def spec_l07Led_code : Code := (Go.Proofs.Try.f46.body).getD .skip
def spec_l07Led_c : Cfg := ⟨46, [], [[0, 1, 5, 6, 10], [0, 1], [4]], [], [], []⟩
noncomputable def spec_l07Led_l0_s : LSum := ⟨0, ⟨[(0, .val (.sl 27 (.pair (.int .i64) (.pair (.int .i64) (.unit)))) .fr), (0, .val (.sl 27 (.pair (.int .i64) (.pair (.int .i64) (.unit)))) .fr), (3, .val (.sl 4 (.bool)) (.own .fr)), (0, .val (.int .i64) .fr)], 33⟩, (.ret, ⟨[(4, .val (.bool) .fr)], 35⟩), [(.exit 0, ⟨[(0, .val (.sl 27 (.pair (.int .i64) (.pair (.int .i64) (.unit)))) .fr), (0, .val (.sl 27 (.pair (.int .i64) (.pair (.int .i64) (.unit)))) .fr)], 38⟩)], spec_l07Led_l0⟩
noncomputable def spec_l07Led_s : Spec := ⟨[.v (.sl 27 (.pair (.int .i64) (.pair (.int .i64) (.unit)))) .fr, .v (.sl 27 (.pair (.int .i64) (.pair (.int .i64) (.unit)))) .fr], Bool, fun v => spec_l07Led v.1 v.2.1, fun r => ([.v (.bool) .fr r], [])⟩
noncomputable def spec_l07Led_ls : List LSum := [spec_l07Led_l0_s]
noncomputable def spec_l07Led_tab : List Row := [⟨27, [], [spec_l01Double_s]⟩, ⟨29, [], [spec_l07Place_s]⟩]
theorem spec_l07Led_t : ∀ r, r ∈ spec_l07Led_tab → RowIs Go.Proofs.Try.prog r := tab_cons (spec_l01Double_is) (tab_cons (spec_l07Place_is) (tab_nil))
theorem spec_l07Led_l0_r : RoundIs (mkCtx Go.K.Link.seat spec_l07Led_c spec_l07Led_tab) (sums spec_l07Led_ls) 0 (bodyAt (loopsOf 0 spec_l07Led_code) 0) spec_l07Led_l0_s := by
  rintro ⟨set, ⟨next', ⟨met, ⟨i, _⟩⟩⟩⟩
  show _ = (spec_l07Led_l0 (set, (next', (met, (i, ()))))).bind fun r : (Ctl ((List (Int × (Int × Unit))) × (List (Int × (Int × Unit))) × (List Bool) × Int × Unit) ((Bool × Unit) ⊕ ((List (Int × (Int × Unit))) × (List (Int × (Int × Unit))) × Unit))) => some (ctlVal spec_l07Led_l0_s r)
  simp only [spec_l07Led_l0, kb_ite, kb_some, kb_none, kb_bind, kb_alt]
  kernel_rfl
theorem spec_l07Led_rs : RoundsOK (mkCtx Go.K.Link.seat spec_l07Led_c spec_l07Led_tab) (sums spec_l07Led_ls) (loopsOf 0 spec_l07Led_code) spec_l07Led_ls := ⟨⟨rfl, rfl, spec_l07Led_l0_r⟩, trivial⟩
theorem spec_l07Led_e : ∀ v, (evFn (mkCtx Go.K.Link.seat spec_l07Led_c spec_l07Led_tab) (sums spec_l07Led_ls) 46 Go.Proofs.Try.f46 (encL spec_l07Led_s.a v)).run = (spec_l07Led_s.gen v).bind fun y => some (spec_l07Led_s.out y) := by
  rintro ⟨set, ⟨next', _⟩⟩
  show _ = (spec_l07Led set next').bind fun y : Bool => some (spec_l07Led_s.out y)
  simp only [spec_l07Led, kb_ite, kb_some, kb_none, kb_bind, kb_alt]
  kernel_rfl
theorem spec_l07Led_is : FnIs Go.Proofs.Try.prog 46 (modeOf []) (phi [spec_l07Led_s]) := spec_is (c := spec_l07Led_c) seatOK spec_l07Led_t Go.Proofs.Try.func46 rfl (code := spec_l07Led_code) rfl rfl spec_l07Led_rs spec_l07Led_e
noncomputable def spec_l07Fails_l0_s : LSum := ⟨0, ⟨[(0, .val (.sl 33 (.sl 27 (.pair (.int .i64) (.pair (.int .i64) (.unit))))) .fr), (2, .val (.int .i64) .fr), (0, .val (.int .i64) .fr)], 118⟩, (.ret, ⟨[(2, .val (.int .i64) .fr)], 120⟩), [(.exit 0, ⟨[(0, .val (.sl 33 (.sl 27 (.pair (.int .i64) (.pair (.int .i64) (.unit))))) .fr), (2, .val (.int .i64) .fr)], 119⟩)], spec_l07Fails_l0⟩
noncomputable def spec_l07Ordered_code : Code := (Go.Proofs.Try.f47.body).getD .skip
def spec_l07Ordered_c : Cfg := ⟨47, [], [[0, 1, 5, 6], [], [4]], [], [], []⟩
noncomputable def spec_l07Ordered_l0_s : LSum := ⟨0, ⟨[(0, .val (.sl 27 (.pair (.int .i64) (.pair (.int .i64) (.unit)))) .fr), (0, .val (.sl 27 (.pair (.int .i64) (.pair (.int .i64) (.unit)))) .fr), (3, .val (.int .i64) .fr), (0, .val (.int .i64) .fr)], 32⟩, (.ret, ⟨[(4, .val (.bool) .fr)], 34⟩), [(.exit 0, ⟨[], 39⟩)], spec_l07Ordered_l0⟩
noncomputable def spec_l07Ordered_s : Spec := ⟨[.v (.sl 27 (.pair (.int .i64) (.pair (.int .i64) (.unit)))) .fr, .v (.sl 27 (.pair (.int .i64) (.pair (.int .i64) (.unit)))) .fr], Bool, fun v => spec_l07Ordered v.1 v.2.1, fun r => ([.v (.bool) .fr r], [])⟩
noncomputable def spec_l07Ordered_ls : List LSum := [spec_l07Ordered_l0_s]
noncomputable def spec_l07Ordered_tab : List Row := [⟨27, [], [spec_l01Double_s]⟩, ⟨29, [], [spec_l07Place_s]⟩]
theorem spec_l07Ordered_t : ∀ r, r ∈ spec_l07Ordered_tab → RowIs Go.Proofs.Try.prog r := tab_cons (spec_l01Double_is) (tab_cons (spec_l07Place_is) (tab_nil))
theorem spec_l07Ordered_l0_r : RoundIs (mkCtx Go.K.Link.seat spec_l07Ordered_c spec_l07Ordered_tab) (sums spec_l07Ordered_ls) 0 (bodyAt (loopsOf 0 spec_l07Ordered_code) 0) spec_l07Ordered_l0_s := by
  rintro ⟨set, ⟨next', ⟨n, ⟨i, _⟩⟩⟩⟩
  show _ = (spec_l07Ordered_l0 (set, (next', (n, (i, ()))))).bind fun r : (Ctl ((List (Int × (Int × Unit))) × (List (Int × (Int × Unit))) × Int × Int × Unit) ((Bool × Unit) ⊕ (Unit))) => some (ctlVal spec_l07Ordered_l0_s r)
  simp only [spec_l07Ordered_l0, kb_ite, kb_some, kb_none, kb_bind, kb_alt]
  kernel_rfl
theorem spec_l07Ordered_rs : RoundsOK (mkCtx Go.K.Link.seat spec_l07Ordered_c spec_l07Ordered_tab) (sums spec_l07Ordered_ls) (loopsOf 0 spec_l07Ordered_code) spec_l07Ordered_ls := ⟨⟨rfl, rfl, spec_l07Ordered_l0_r⟩, trivial⟩
theorem spec_l07Ordered_e : ∀ v, (evFn (mkCtx Go.K.Link.seat spec_l07Ordered_c spec_l07Ordered_tab) (sums spec_l07Ordered_ls) 47 Go.Proofs.Try.f47 (encL spec_l07Ordered_s.a v)).run = (spec_l07Ordered_s.gen v).bind fun y => some (spec_l07Ordered_s.out y) := by
  rintro ⟨set, ⟨next', _⟩⟩
  show _ = (spec_l07Ordered set next').bind fun y : Bool => some (spec_l07Ordered_s.out y)
  simp only [spec_l07Ordered, kb_ite, kb_some, kb_none, kb_bind, kb_alt]
  kernel_rfl
theorem spec_l07Ordered_is : FnIs Go.Proofs.Try.prog 47 (modeOf []) (phi [spec_l07Ordered_s]) := spec_is (c := spec_l07Ordered_c) seatOK spec_l07Ordered_t Go.Proofs.Try.func47 rfl (code := spec_l07Ordered_code) rfl rfl spec_l07Ordered_rs spec_l07Ordered_e
noncomputable def spec_l07Fails_l1_s : LSum := ⟨2, ⟨[(0, .val (.sl 33 (.sl 27 (.pair (.int .i64) (.pair (.int .i64) (.unit))))) .fr), (2, .val (.int .i64) .fr), (1, .val (.int .i64) .fr)], 117⟩, (.ret, ⟨[(2, .val (.int .i64) .fr)], 120⟩), [(.exit 2, ⟨[(0, .val (.sl 33 (.sl 27 (.pair (.int .i64) (.pair (.int .i64) (.unit))))) .fr), (2, .val (.int .i64) .fr)], 119⟩)], spec_l07Fails_l1⟩
noncomputable def spec_l07Fails_l3_s : LSum := ⟨6, ⟨[(0, .val (.sl 33 (.sl 27 (.pair (.int .i64) (.pair (.int .i64) (.unit))))) .fr), (2, .val (.int .i64) .fr), (2, .val (.int .i64) .fr), (0, .val (.int .i64) .fr), (0, .val (.int .i64) .fr)], 114⟩, (.ret, ⟨[(2, .val (.int .i64) .fr)], 120⟩), [(.exit 6, ⟨[(0, .val (.sl 33 (.sl 27 (.pair (.int .i64) (.pair (.int .i64) (.unit))))) .fr), (2, .val (.int .i64) .fr), (2, .val (.int .i64) .fr), (0, .val (.int .i64) .fr)], 115⟩)], spec_l07Fails_l3⟩
noncomputable def spec_l07Fails_l2_s : LSum := ⟨4, ⟨[(0, .val (.sl 33 (.sl 27 (.pair (.int .i64) (.pair (.int .i64) (.unit))))) .fr), (2, .val (.int .i64) .fr), (2, .val (.int .i64) .fr), (0, .val (.int .i64) .fr)], 115⟩, (.ret, ⟨[(2, .val (.int .i64) .fr)], 120⟩), [(.exit 4, ⟨[(0, .val (.sl 33 (.sl 27 (.pair (.int .i64) (.pair (.int .i64) (.unit))))) .fr), (2, .val (.int .i64) .fr)], 119⟩)], spec_l07Fails_l2⟩
noncomputable def spec_l07Linked_code : Code := (Go.Proofs.Try.f48.body).getD .skip
def spec_l07Linked_c : Cfg := ⟨48, [], [[0, 1, 5, 6], [], [4], [], [], [], [0, 1, 5, 6, 7, 8], [0, 1, 5, 6, 7], [4]], [], [], []⟩
noncomputable def spec_l01Within_code : Code := (Go.Proofs.Try.f61.body).getD .skip
def spec_l01Within_c : Cfg := ⟨61, [], [], [], [], []⟩
noncomputable def spec_l01Within_s : Spec := ⟨[.v (.pair (.int .i64) (.pair (.int .i64) (.unit))) .fr, .v (.pair (.int .i64) (.pair (.int .i64) (.unit))) .fr, .v (.pair (.int .i64) (.pair (.int .i64) (.unit))) .fr], Bool, fun v => spec_l01Within v.1 v.2.1 v.2.2.1, fun r => ([.v (.bool) .fr r], [])⟩
noncomputable def spec_l01Within_ls : List LSum := []
noncomputable def spec_l01Within_tab : List Row := [⟨43, [], [spec_l01Less_s]⟩]
theorem spec_l01Within_t : ∀ r, r ∈ spec_l01Within_tab → RowIs Go.Proofs.Try.prog r := tab_cons (spec_l01Less_is) (tab_nil)
theorem spec_l01Within_rs : RoundsOK (mkCtx Go.K.Link.seat spec_l01Within_c spec_l01Within_tab) (sums spec_l01Within_ls) (loopsOf 0 spec_l01Within_code) spec_l01Within_ls := trivial
theorem spec_l01Within_e : ∀ v, (evFn (mkCtx Go.K.Link.seat spec_l01Within_c spec_l01Within_tab) (sums spec_l01Within_ls) 61 Go.Proofs.Try.f61 (encL spec_l01Within_s.a v)).run = (spec_l01Within_s.gen v).bind fun y => some (spec_l01Within_s.out y) := by
  rintro ⟨x, ⟨a, ⟨b, _⟩⟩⟩
  show _ = (spec_l01Within x a b).bind fun y : Bool => some (spec_l01Within_s.out y)
  simp only [spec_l01Within, kb_ite, kb_some, kb_none, kb_bind, kb_alt]
  kernel_rfl
theorem spec_l01Within_is : FnIs Go.Proofs.Try.prog 61 (modeOf []) (phi [spec_l01Within_s]) := spec_is (c := spec_l01Within_c) seatOK spec_l01Within_t Go.Proofs.Try.func61 rfl (code := spec_l01Within_code) rfl rfl spec_l01Within_rs spec_l01Within_e
noncomputable def spec_l07Linked_l1_s : LSum := ⟨2, ⟨[(0, .val (.sl 27 (.pair (.int .i64) (.pair (.int .i64) (.unit)))) .fr), (0, .val (.sl 27 (.pair (.int .i64) (.pair (.int .i64) (.unit)))) .fr), (3, .val (.int .i64) .fr), (0, .val (.int .i64) .fr), (0, .val (.int .i64) .fr), (0, .val (.int .i64) .fr)], 41⟩, (.exit 2, ⟨[(0, .val (.sl 27 (.pair (.int .i64) (.pair (.int .i64) (.unit)))) .fr), (0, .val (.sl 27 (.pair (.int .i64) (.pair (.int .i64) (.unit)))) .fr), (3, .val (.int .i64) .fr), (0, .val (.int .i64) .fr), (0, .val (.int .i64) .fr)], 42⟩), [], spec_l07Linked_l1⟩
noncomputable def spec_l07Linked_l0_s : LSum := ⟨0, ⟨[(0, .val (.sl 27 (.pair (.int .i64) (.pair (.int .i64) (.unit)))) .fr), (0, .val (.sl 27 (.pair (.int .i64) (.pair (.int .i64) (.unit)))) .fr), (3, .val (.int .i64) .fr), (0, .val (.int .i64) .fr)], 43⟩, (.ret, ⟨[(4, .val (.bool) .fr)], 45⟩), [(.exit 0, ⟨[], 50⟩)], spec_l07Linked_l0⟩
noncomputable def spec_l07Linked_s : Spec := ⟨[.v (.sl 27 (.pair (.int .i64) (.pair (.int .i64) (.unit)))) .fr, .v (.sl 27 (.pair (.int .i64) (.pair (.int .i64) (.unit)))) .fr], Bool, fun v => spec_l07Linked v.1 v.2.1, fun r => ([.v (.bool) .fr r], [])⟩
noncomputable def spec_l07Linked_ls : List LSum := [spec_l07Linked_l0_s, spec_l07Linked_l1_s]
noncomputable def spec_l07Linked_tab : List Row := [⟨61, [], [spec_l01Within_s]⟩]
theorem spec_l07Linked_t : ∀ r, r ∈ spec_l07Linked_tab → RowIs Go.Proofs.Try.prog r := tab_cons (spec_l01Within_is) (tab_nil)
theorem spec_l07Linked_l0_r : RoundIs (mkCtx Go.K.Link.seat spec_l07Linked_c spec_l07Linked_tab) (sums spec_l07Linked_ls) 0 (bodyAt (loopsOf 0 spec_l07Linked_code) 0) spec_l07Linked_l0_s := by
  rintro ⟨set, ⟨other, ⟨n, ⟨i, _⟩⟩⟩⟩
  show _ = (spec_l07Linked_l0 (set, (other, (n, (i, ()))))).bind fun r : (Ctl ((List (Int × (Int × Unit))) × (List (Int × (Int × Unit))) × Int × Int × Unit) ((Bool × Unit) ⊕ (Unit))) => some (ctlVal spec_l07Linked_l0_s r)
  simp only [spec_l07Linked_l0, kb_ite, kb_some, kb_none, kb_bind, kb_alt]
  kernel_rfl
theorem spec_l07Linked_l1_r : RoundIs (mkCtx Go.K.Link.seat spec_l07Linked_c spec_l07Linked_tab) (sums spec_l07Linked_ls) 2 (bodyAt (loopsOf 0 spec_l07Linked_code) 1) spec_l07Linked_l1_s := by
  rintro ⟨set, ⟨other, ⟨n, ⟨i, ⟨count, ⟨k, _⟩⟩⟩⟩⟩⟩
  show _ = (spec_l07Linked_l1 (set, (other, (n, (i, (count, (k, ()))))))).bind fun r : (Ctl ((List (Int × (Int × Unit))) × (List (Int × (Int × Unit))) × Int × Int × Int × Int × Unit) (((List (Int × (Int × Unit))) × (List (Int × (Int × Unit))) × Int × Int × Int × Unit))) => some (ctlVal spec_l07Linked_l1_s r)
  simp only [spec_l07Linked_l1, kb_ite, kb_some, kb_none, kb_bind, kb_alt]
  kernel_rfl
theorem spec_l07Linked_rs : RoundsOK (mkCtx Go.K.Link.seat spec_l07Linked_c spec_l07Linked_tab) (sums spec_l07Linked_ls) (loopsOf 0 spec_l07Linked_code) spec_l07Linked_ls := ⟨⟨rfl, rfl, spec_l07Linked_l0_r⟩, ⟨⟨rfl, rfl, spec_l07Linked_l1_r⟩, trivial⟩⟩
theorem spec_l07Linked_e : ∀ v, (evFn (mkCtx Go.K.Link.seat spec_l07Linked_c spec_l07Linked_tab) (sums spec_l07Linked_ls) 48 Go.Proofs.Try.f48 (encL spec_l07Linked_s.a v)).run = (spec_l07Linked_s.gen v).bind fun y => some (spec_l07Linked_s.out y) := by
  rintro ⟨set, ⟨other, _⟩⟩
  show _ = (spec_l07Linked set other).bind fun y : Bool => some (spec_l07Linked_s.out y)
  simp only [spec_l07Linked, kb_ite, kb_some, kb_none, kb_bind, kb_alt]
  kernel_rfl
theorem spec_l07Linked_is : FnIs Go.Proofs.Try.prog 48 (modeOf []) (phi [spec_l07Linked_s]) := spec_is (c := spec_l07Linked_c) seatOK spec_l07Linked_t Go.Proofs.Try.func48 rfl (code := spec_l07Linked_code) rfl rfl spec_l07Linked_rs spec_l07Linked_e
noncomputable def spec_l07Fails_l5_s : LSum := ⟨10, ⟨[(0, .val (.sl 33 (.sl 27 (.pair (.int .i64) (.pair (.int .i64) (.unit))))) .fr), (2, .val (.int .i64) .fr), (8, .val (.int .i64) .fr), (0, .val (.int .i64) .fr)], 109⟩, (.ret, ⟨[(2, .val (.int .i64) .fr)], 120⟩), [(.exit 10, ⟨[(0, .val (.sl 33 (.sl 27 (.pair (.int .i64) (.pair (.int .i64) (.unit))))) .fr), (2, .val (.int .i64) .fr), (8, .val (.int .i64) .fr)], 110⟩)], spec_l07Fails_l5⟩
noncomputable def spec_l07Fails_l4_s : LSum := ⟨8, ⟨[(0, .val (.sl 33 (.sl 27 (.pair (.int .i64) (.pair (.int .i64) (.unit))))) .fr), (2, .val (.int .i64) .fr), (8, .val (.int .i64) .fr)], 110⟩, (.ret, ⟨[(2, .val (.int .i64) .fr)], 120⟩), [(.exit 8, ⟨[], 123⟩)], spec_l07Fails_l4⟩
noncomputable def spec_l07Fails_s : Spec := ⟨[.v (.sl 33 (.sl 27 (.pair (.int .i64) (.pair (.int .i64) (.unit))))) .fr], Int, fun v => spec_l07Fails v.1, fun r => ([.v (.int .i64) .fr r], [])⟩
noncomputable def spec_l07Fails_ls : List LSum := [spec_l07Fails_l0_s, spec_l07Fails_l1_s, spec_l07Fails_l2_s, spec_l07Fails_l3_s, spec_l07Fails_l4_s, spec_l07Fails_l5_s]
noncomputable def spec_l07Fails_tab : List Row := [⟨11, [], [spec_l01Orbit_s]⟩, ⟨45, [], [spec_l07Apart_s]⟩, ⟨46, [], [spec_l07Led_s]⟩, ⟨47, [], [spec_l07Ordered_s]⟩, ⟨48, [], [spec_l07Linked_s]⟩]
theorem spec_l07Fails_t : ∀ r, r ∈ spec_l07Fails_tab → RowIs Go.Proofs.Try.prog r := tab_cons (spec_l01Orbit_is) (tab_cons (spec_l07Apart_is) (tab_cons (spec_l07Led_is) (tab_cons (spec_l07Ordered_is) (tab_cons (spec_l07Linked_is) (tab_nil)))))
theorem spec_l07Fails_l0_r : RoundIs (mkCtx Go.K.Link.seat spec_l07Fails_c spec_l07Fails_tab) (sums spec_l07Fails_ls) 0 (bodyAt (loopsOf 0 spec_l07Fails_code) 0) spec_l07Fails_l0_s := by
  rintro ⟨sets, ⟨p, ⟨i, _⟩⟩⟩
  show _ = (spec_l07Fails_l0 (sets, (p, (i, ())))).bind fun r : (Ctl ((List (List (Int × (Int × Unit)))) × Int × Int × Unit) ((Int × Unit) ⊕ ((List (List (Int × (Int × Unit)))) × Int × Unit))) => some (ctlVal spec_l07Fails_l0_s r)
  simp only [spec_l07Fails_l0, kb_ite, kb_some, kb_none, kb_bind, kb_alt]
  kernel_rfl
theorem spec_l07Fails_l1_r : RoundIs (mkCtx Go.K.Link.seat spec_l07Fails_c spec_l07Fails_tab) (sums spec_l07Fails_ls) 2 (bodyAt (loopsOf 0 spec_l07Fails_code) 1) spec_l07Fails_l1_s := by
  rintro ⟨sets, ⟨p, ⟨i, _⟩⟩⟩
  show _ = (spec_l07Fails_l1 (sets, (p, (i, ())))).bind fun r : (Ctl ((List (List (Int × (Int × Unit)))) × Int × Int × Unit) ((Int × Unit) ⊕ ((List (List (Int × (Int × Unit)))) × Int × Unit))) => some (ctlVal spec_l07Fails_l1_s r)
  simp only [spec_l07Fails_l1, kb_ite, kb_some, kb_none, kb_bind, kb_alt]
  kernel_rfl
theorem spec_l07Fails_l2_r : RoundIs (mkCtx Go.K.Link.seat spec_l07Fails_c spec_l07Fails_tab) (sums spec_l07Fails_ls) 4 (bodyAt (loopsOf 0 spec_l07Fails_code) 2) spec_l07Fails_l2_s := by
  rintro ⟨sets, ⟨p, ⟨period, ⟨i, _⟩⟩⟩⟩
  show _ = (spec_l07Fails_l2 (sets, (p, (period, (i, ()))))).bind fun r : (Ctl ((List (List (Int × (Int × Unit)))) × Int × Int × Int × Unit) ((Int × Unit) ⊕ ((List (List (Int × (Int × Unit)))) × Int × Unit))) => some (ctlVal spec_l07Fails_l2_s r)
  simp only [spec_l07Fails_l2, kb_ite, kb_some, kb_none, kb_bind, kb_alt]
  kernel_rfl
theorem spec_l07Fails_l3_r : RoundIs (mkCtx Go.K.Link.seat spec_l07Fails_c spec_l07Fails_tab) (sums spec_l07Fails_ls) 6 (bodyAt (loopsOf 0 spec_l07Fails_code) 3) spec_l07Fails_l3_s := by
  rintro ⟨sets, ⟨p, ⟨period, ⟨i, ⟨k, _⟩⟩⟩⟩⟩
  show _ = (spec_l07Fails_l3 (sets, (p, (period, (i, (k, ())))))).bind fun r : (Ctl ((List (List (Int × (Int × Unit)))) × Int × Int × Int × Int × Unit) ((Int × Unit) ⊕ ((List (List (Int × (Int × Unit)))) × Int × Int × Int × Unit))) => some (ctlVal spec_l07Fails_l3_s r)
  simp only [spec_l07Fails_l3, kb_ite, kb_some, kb_none, kb_bind, kb_alt]
  kernel_rfl
theorem spec_l07Fails_l4_r : RoundIs (mkCtx Go.K.Link.seat spec_l07Fails_c spec_l07Fails_tab) (sums spec_l07Fails_ls) 8 (bodyAt (loopsOf 0 spec_l07Fails_code) 4) spec_l07Fails_l4_s := by
  rintro ⟨sets, ⟨p, ⟨i, _⟩⟩⟩
  show _ = (spec_l07Fails_l4 (sets, (p, (i, ())))).bind fun r : (Ctl ((List (List (Int × (Int × Unit)))) × Int × Int × Unit) ((Int × Unit) ⊕ (Unit))) => some (ctlVal spec_l07Fails_l4_s r)
  simp only [spec_l07Fails_l4, kb_ite, kb_some, kb_none, kb_bind, kb_alt]
  kernel_rfl
theorem spec_l07Fails_l5_r : RoundIs (mkCtx Go.K.Link.seat spec_l07Fails_c spec_l07Fails_tab) (sums spec_l07Fails_ls) 10 (bodyAt (loopsOf 0 spec_l07Fails_code) 5) spec_l07Fails_l5_s := by
  rintro ⟨sets, ⟨p, ⟨i, ⟨k, _⟩⟩⟩⟩
  show _ = (spec_l07Fails_l5 (sets, (p, (i, (k, ()))))).bind fun r : (Ctl ((List (List (Int × (Int × Unit)))) × Int × Int × Int × Unit) ((Int × Unit) ⊕ ((List (List (Int × (Int × Unit)))) × Int × Int × Unit))) => some (ctlVal spec_l07Fails_l5_s r)
  simp only [spec_l07Fails_l5, kb_ite, kb_some, kb_none, kb_bind, kb_alt]
  kernel_rfl
theorem spec_l07Fails_rs : RoundsOK (mkCtx Go.K.Link.seat spec_l07Fails_c spec_l07Fails_tab) (sums spec_l07Fails_ls) (loopsOf 0 spec_l07Fails_code) spec_l07Fails_ls := ⟨⟨rfl, rfl, spec_l07Fails_l0_r⟩, ⟨⟨rfl, rfl, spec_l07Fails_l1_r⟩, ⟨⟨rfl, rfl, spec_l07Fails_l2_r⟩, ⟨⟨rfl, rfl, spec_l07Fails_l3_r⟩, ⟨⟨rfl, rfl, spec_l07Fails_l4_r⟩, ⟨⟨rfl, rfl, spec_l07Fails_l5_r⟩, trivial⟩⟩⟩⟩⟩⟩
theorem spec_l07Fails_e : ∀ v, (evFn (mkCtx Go.K.Link.seat spec_l07Fails_c spec_l07Fails_tab) (sums spec_l07Fails_ls) 31 Go.Proofs.Try.f31 (encL spec_l07Fails_s.a v)).run = (spec_l07Fails_s.gen v).bind fun y => some (spec_l07Fails_s.out y) := by
  rintro ⟨sets, _⟩
  show _ = (spec_l07Fails sets).bind fun y : Int => some (spec_l07Fails_s.out y)
  simp only [spec_l07Fails, kb_ite, kb_some, kb_none, kb_bind, kb_alt]
  kernel_rfl
theorem spec_l07Fails_is : FnIs Go.Proofs.Try.prog 31 (modeOf []) (phi [spec_l07Fails_s]) := spec_is (c := spec_l07Fails_c) seatOK spec_l07Fails_t Go.Proofs.Try.func31 rfl (code := spec_l07Fails_code) rfl rfl spec_l07Fails_rs spec_l07Fails_e
noncomputable def spec_l07Is_s : Spec := ⟨[.v (.sl 33 (.sl 27 (.pair (.int .i64) (.pair (.int .i64) (.unit))))) .fr], Bool, fun v => spec_l07Is v.1, fun r => ([.v (.bool) .fr r], [])⟩
noncomputable def spec_l07Is_ls : List LSum := []
noncomputable def spec_l07Is_tab : List Row := [⟨30, [], [spec_l07Lists_s]⟩, ⟨31, [], [spec_l07Fails_s]⟩]
theorem spec_l07Is_t : ∀ r, r ∈ spec_l07Is_tab → RowIs Go.Proofs.Try.prog r := tab_cons (spec_l07Lists_is) (tab_cons (spec_l07Fails_is) (tab_nil))
theorem spec_l07Is_rs : RoundsOK (mkCtx Go.K.Link.seat spec_l07Is_c spec_l07Is_tab) (sums spec_l07Is_ls) (loopsOf 0 spec_l07Is_code) spec_l07Is_ls := trivial
theorem spec_l07Is_e : ∀ v, (evFn (mkCtx Go.K.Link.seat spec_l07Is_c spec_l07Is_tab) (sums spec_l07Is_ls) 13 Go.Proofs.Try.f13 (encL spec_l07Is_s.a v)).run = (spec_l07Is_s.gen v).bind fun y => some (spec_l07Is_s.out y) := by
  rintro ⟨sets, _⟩
  show _ = (spec_l07Is sets).bind fun y : Bool => some (spec_l07Is_s.out y)
  simp only [spec_l07Is, kb_ite, kb_some, kb_none, kb_bind, kb_alt]
  kernel_rfl
theorem spec_l07Is_is : FnIs Go.Proofs.Try.prog 13 (modeOf []) (phi [spec_l07Is_s]) := spec_is (c := spec_l07Is_c) seatOK spec_l07Is_t Go.Proofs.Try.func13 rfl (code := spec_l07Is_code) rfl rfl spec_l07Is_rs spec_l07Is_e
noncomputable def spec_PortraitOf_code : Code := (Go.Proofs.Try.f4.body).getD .skip
def spec_PortraitOf_c : Cfg := ⟨4, [], [[12, 13, 14, 61, 87], [12, 13, 61, 87], [4, 5, 12, 61, 87]], [(4, (.own .fr)), (4, (.own .fr)), (4, (.own .fr)), (4, (.own .fr)), (4, (.own .fr)), (4, (.own .fr))], [0], []⟩
noncomputable def spec_PortraitOf_l0_s : LSum := ⟨0, ⟨[(12, .val (.sl 33 (.sl 27 (.pair (.int .i64) (.pair (.int .i64) (.unit))))) (.own .fr)), (0, .val (.int .i64) .fr), (0, .val (.int .i64) .fr)], 73⟩, (.exit 0, ⟨[(12, .val (.sl 33 (.sl 27 (.pair (.int .i64) (.pair (.int .i64) (.unit))))) (.own .fr)), (0, .val (.int .i64) .fr)], 74⟩), [], spec_PortraitOf_l0⟩
noncomputable def spec_PortraitOf_s : Spec := ⟨[.v (.pair (.int .i64) (.pair (.int .i64) (.unit))) .fr, .v (.pair (.int .i64) (.pair (.int .i64) (.unit))) .fr], (List (List (Int × (Int × Unit)))) × Int, fun v => spec_PortraitOf v.1 v.2.1, fun r => ([.v (.sl 33 (.sl 27 (.pair (.int .i64) (.pair (.int .i64) (.unit))))) .fr r.1, .v (.int .i64) .fr r.2], [])⟩
noncomputable def spec_PortraitOf_ls : List LSum := [spec_PortraitOf_l0_s]
noncomputable def spec_PortraitOf_tab : List Row := [⟨10, [], [spec_l01Is_s]⟩, ⟨11, [], [spec_l01Orbit_s]⟩, ⟨12, [], [spec_l07Joined_s]⟩, ⟨13, [], [spec_l07Is_s]⟩]
theorem spec_PortraitOf_t : ∀ r, r ∈ spec_PortraitOf_tab → RowIs Go.Proofs.Try.prog r := tab_cons (spec_l01Is_is) (tab_cons (spec_l01Orbit_is) (tab_cons (spec_l07Joined_is) (tab_cons (spec_l07Is_is) (tab_nil))))
theorem spec_PortraitOf_l0_r : RoundIs (mkCtx Go.K.Link.seat spec_PortraitOf_c spec_PortraitOf_tab) (sums spec_PortraitOf_ls) 0 (bodyAt (loopsOf 0 spec_PortraitOf_code) 0) spec_PortraitOf_l0_s := by
  rintro ⟨out, ⟨count, ⟨i, _⟩⟩⟩
  show _ = (spec_PortraitOf_l0 (out, (count, (i, ())))).bind fun r : (Ctl ((List (List (Int × (Int × Unit)))) × Int × Int × Unit) (((List (List (Int × (Int × Unit)))) × Int × Unit))) => some (ctlVal spec_PortraitOf_l0_s r)
  simp only [spec_PortraitOf_l0, kb_ite, kb_some, kb_none, kb_bind, kb_alt]
  kernel_rfl
theorem spec_PortraitOf_rs : RoundsOK (mkCtx Go.K.Link.seat spec_PortraitOf_c spec_PortraitOf_tab) (sums spec_PortraitOf_ls) (loopsOf 0 spec_PortraitOf_code) spec_PortraitOf_ls := ⟨⟨rfl, rfl, spec_PortraitOf_l0_r⟩, trivial⟩
theorem spec_PortraitOf_e : ∀ v, (evFn (mkCtx Go.K.Link.seat spec_PortraitOf_c spec_PortraitOf_tab) (sums spec_PortraitOf_ls) 4 Go.Proofs.Try.f4 (encL spec_PortraitOf_s.a v)).run = (spec_PortraitOf_s.gen v).bind fun y => some (spec_PortraitOf_s.out y) := by
  rintro ⟨a, ⟨b, _⟩⟩
  show _ = (spec_PortraitOf a b).bind fun y : (List (List (Int × (Int × Unit)))) × Int => some (spec_PortraitOf_s.out y)
  simp only [spec_PortraitOf, kb_ite, kb_some, kb_none, kb_bind, kb_alt]
  kernel_rfl
theorem spec_PortraitOf_is : FnIs Go.Proofs.Try.prog 4 (modeOf []) (phi [spec_PortraitOf_s]) := spec_is (c := spec_PortraitOf_c) seatOK spec_PortraitOf_t Go.Proofs.Try.func4 rfl (code := spec_PortraitOf_code) rfl rfl spec_PortraitOf_rs spec_PortraitOf_e
noncomputable def impl_PortraitOf_code : Code := (Go.Proofs.Try.f6.body).getD .skip
def impl_PortraitOf_c : Cfg := ⟨6, [], [[], [], [], [7, 10, 13, 15, 29, 35, 57, 58, 72, 88, 111], [7, 13, 15, 29, 72, 88, 111], [4, 5, 15, 88, 111], [], [], [], [7, 13, 15, 16, 29, 72, 74, 75, 76, 88, 111], [15, 16, 88, 111], [4, 5, 15, 88, 111]], [(4, (.own .fr)), (4, (.own .fr)), (4, (.own .fr)), (4, (.own .fr)), (15, (.own .fr)), (87, (.own .fr)), (88, (.own .fr)), (4, (.own .fr)), (4, (.own .fr))], [], []⟩
noncomputable def impl_anglesCode_code : Code := (Go.Proofs.Try.f14.body).getD .skip
def impl_anglesCode_c : Cfg := ⟨14, [], [], [], [], []⟩
noncomputable def impl_areAll_impl_Angle_code : Code := (Go.Proofs.Try.f32.body).getD .skip
def impl_areAll_impl_Angle_c : Cfg := ⟨32, [], [], [], [], []⟩
noncomputable def slices_ContainsFunc__impl_Angle_impl_Angle_code : Code := (Go.Proofs.Try.f49.body).getD .skip
def slices_ContainsFunc__impl_Angle_impl_Angle_c : Cfg := ⟨49, [], [], [], [], []⟩
noncomputable def slices_IndexFunc__impl_Angle_impl_Angle_code : Code := (Go.Proofs.Try.f62.body).getD .skip
def slices_IndexFunc__impl_Angle_impl_Angle_c : Cfg := ⟨62, [], [[0, 1, 7, 8], [], [4]], [], [], []⟩
noncomputable def impl_areAll_impl_Angle_f1_code : Code := (Go.Proofs.Try.f50.body).getD .skip
def impl_areAll_impl_Angle_f1_c : Cfg := ⟨50, [], [], [], [], []⟩
noncomputable def impl_IsAngle_code : Code := (Go.Proofs.Try.f33.body).getD .skip
def impl_IsAngle_c : Cfg := ⟨33, [], [], [], [], []⟩
noncomputable def impl_within_code : Code := (Go.Proofs.Try.f51.body).getD .skip
def impl_within_c : Cfg := ⟨51, [], [], [], [], []⟩
noncomputable def impl_within_s : Spec := ⟨[.v (.int .i64) .fr, .v (.int .i64) .fr, .v (.int .i64) .fr], Bool, fun v => impl_within v.1 v.2.1 v.2.2.1, fun r => ([.v (.bool) .fr r], [])⟩
noncomputable def impl_within_ls : List LSum := []
noncomputable def impl_within_tab : List Row := []
theorem impl_within_t : ∀ r, r ∈ impl_within_tab → RowIs Go.Proofs.Try.prog r := tab_nil
theorem impl_within_rs : RoundsOK (mkCtx Go.K.Link.seat impl_within_c impl_within_tab) (sums impl_within_ls) (loopsOf 0 impl_within_code) impl_within_ls := trivial
theorem impl_within_e : ∀ v, (evFn (mkCtx Go.K.Link.seat impl_within_c impl_within_tab) (sums impl_within_ls) 51 Go.Proofs.Try.f51 (encL impl_within_s.a v)).run = (impl_within_s.gen v).bind fun y => some (impl_within_s.out y) := by
  rintro ⟨n, ⟨low, ⟨high, _⟩⟩⟩
  show _ = (impl_within n low high).bind fun y : Bool => some (impl_within_s.out y)
  simp only [impl_within, kb_ite, kb_some, kb_none, kb_bind, kb_alt]
  kernel_rfl
theorem impl_within_is : FnIs Go.Proofs.Try.prog 51 (modeOf []) (phi [impl_within_s]) := spec_is (c := impl_within_c) seatOK impl_within_t Go.Proofs.Try.func51 rfl (code := impl_within_code) rfl rfl impl_within_rs impl_within_e
noncomputable def impl_divisor_code : Code := (Go.Proofs.Try.f52.body).getD .skip
def impl_divisor_c : Cfg := ⟨52, [], [[0, 1], [0], [4]], [], [], []⟩
noncomputable def impl_divisor_l0_s : LSum := ⟨0, ⟨[(0, .val (.int .i64) .fr), (0, .val (.int .i64) .fr)], 10⟩, (.exit 0, ⟨[(0, .val (.int .i64) .fr)], 11⟩), [], impl_divisor_l0⟩
noncomputable def impl_divisor_s : Spec := ⟨[.v (.int .i64) .fr, .v (.int .i64) .fr], Int, fun v => impl_divisor v.1 v.2.1, fun r => ([.v (.int .i64) .fr r], [])⟩
noncomputable def impl_divisor_ls : List LSum := [impl_divisor_l0_s]
noncomputable def impl_divisor_tab : List Row := []
theorem impl_divisor_t : ∀ r, r ∈ impl_divisor_tab → RowIs Go.Proofs.Try.prog r := tab_nil
theorem impl_divisor_l0_r : RoundIs (mkCtx Go.K.Link.seat impl_divisor_c impl_divisor_tab) (sums impl_divisor_ls) 0 (bodyAt (loopsOf 0 impl_divisor_code) 0) impl_divisor_l0_s := by
  rintro ⟨a, ⟨b, _⟩⟩
  show _ = (impl_divisor_l0 (a, (b, ()))).bind fun r : (Ctl (Int × Int × Unit) ((Int × Unit))) => some (ctlVal impl_divisor_l0_s r)
  simp only [impl_divisor_l0, kb_ite, kb_some, kb_none, kb_bind, kb_alt]
  kernel_rfl
theorem impl_divisor_rs : RoundsOK (mkCtx Go.K.Link.seat impl_divisor_c impl_divisor_tab) (sums impl_divisor_ls) (loopsOf 0 impl_divisor_code) impl_divisor_ls := ⟨⟨rfl, rfl, impl_divisor_l0_r⟩, trivial⟩
theorem impl_divisor_e : ∀ v, (evFn (mkCtx Go.K.Link.seat impl_divisor_c impl_divisor_tab) (sums impl_divisor_ls) 52 Go.Proofs.Try.f52 (encL impl_divisor_s.a v)).run = (impl_divisor_s.gen v).bind fun y => some (impl_divisor_s.out y) := by
  rintro ⟨a, ⟨b, _⟩⟩
  show _ = (impl_divisor a b).bind fun y : Int => some (impl_divisor_s.out y)
  simp only [impl_divisor, kb_ite, kb_some, kb_none, kb_bind, kb_alt]
  kernel_rfl
theorem impl_divisor_is : FnIs Go.Proofs.Try.prog 52 (modeOf []) (phi [impl_divisor_s]) := spec_is (c := impl_divisor_c) seatOK impl_divisor_t Go.Proofs.Try.func52 rfl (code := impl_divisor_code) rfl rfl impl_divisor_rs impl_divisor_e
noncomputable def impl_IsAngle_s : Spec := ⟨[.v (.pair (.int .i64) (.pair (.int .i64) (.unit))) .fr], Bool, fun v => impl_IsAngle v.1, fun r => ([.v (.bool) .fr r], [])⟩
noncomputable def impl_IsAngle_ls : List LSum := []
noncomputable def impl_IsAngle_tab : List Row := [⟨51, [], [impl_within_s]⟩, ⟨52, [], [impl_divisor_s]⟩]
theorem impl_IsAngle_t : ∀ r, r ∈ impl_IsAngle_tab → RowIs Go.Proofs.Try.prog r := tab_cons (impl_within_is) (tab_cons (impl_divisor_is) (tab_nil))
theorem impl_IsAngle_rs : RoundsOK (mkCtx Go.K.Link.seat impl_IsAngle_c impl_IsAngle_tab) (sums impl_IsAngle_ls) (loopsOf 0 impl_IsAngle_code) impl_IsAngle_ls := trivial
theorem impl_IsAngle_e : ∀ v, (evFn (mkCtx Go.K.Link.seat impl_IsAngle_c impl_IsAngle_tab) (sums impl_IsAngle_ls) 33 Go.Proofs.Try.f33 (encL impl_IsAngle_s.a v)).run = (impl_IsAngle_s.gen v).bind fun y => some (impl_IsAngle_s.out y) := by
  rintro ⟨a, _⟩
  show _ = (impl_IsAngle a).bind fun y : Bool => some (impl_IsAngle_s.out y)
  simp only [impl_IsAngle, kb_ite, kb_some, kb_none, kb_bind, kb_alt]
  kernel_rfl
theorem impl_IsAngle_is : FnIs Go.Proofs.Try.prog 33 (modeOf []) (phi [impl_IsAngle_s]) := spec_is (c := impl_IsAngle_c) seatOK impl_IsAngle_t Go.Proofs.Try.func33 rfl (code := impl_IsAngle_code) rfl rfl impl_IsAngle_rs impl_IsAngle_e
noncomputable def impl_areAll_impl_Angle_f1_s : Spec := ⟨[.v (.pair (.int .i64) (.pair (.int .i64) (.unit))) .fr, .pfn 33 [] []], Bool, fun v => impl_areAll_impl_Angle_f1 v.1, fun r => ([.v (.bool) .fr r], [])⟩
noncomputable def impl_areAll_impl_Angle_f1_ls : List LSum := []
noncomputable def impl_areAll_impl_Angle_f1_tab : List Row := [⟨33, [], [impl_IsAngle_s]⟩]
theorem impl_areAll_impl_Angle_f1_t : ∀ r, r ∈ impl_areAll_impl_Angle_f1_tab → RowIs Go.Proofs.Try.prog r := tab_cons (impl_IsAngle_is) (tab_nil)
theorem impl_areAll_impl_Angle_f1_rs : RoundsOK (mkCtx Go.K.Link.seat impl_areAll_impl_Angle_f1_c impl_areAll_impl_Angle_f1_tab) (sums impl_areAll_impl_Angle_f1_ls) (loopsOf 0 impl_areAll_impl_Angle_f1_code) impl_areAll_impl_Angle_f1_ls := trivial
theorem impl_areAll_impl_Angle_f1_e : ∀ v, (evFn (mkCtx Go.K.Link.seat impl_areAll_impl_Angle_f1_c impl_areAll_impl_Angle_f1_tab) (sums impl_areAll_impl_Angle_f1_ls) 50 Go.Proofs.Try.f50 (encL impl_areAll_impl_Angle_f1_s.a v)).run = (impl_areAll_impl_Angle_f1_s.gen v).bind fun y => some (impl_areAll_impl_Angle_f1_s.out y) := by
  rintro ⟨x, ⟨⟨_, _⟩, _⟩⟩
  show _ = (impl_areAll_impl_Angle_f1 x).bind fun y : Bool => some (impl_areAll_impl_Angle_f1_s.out y)
  simp only [impl_areAll_impl_Angle_f1, kb_ite, kb_some, kb_none, kb_bind, kb_alt]
  kernel_rfl
theorem impl_areAll_impl_Angle_f1_is : FnIs Go.Proofs.Try.prog 50 (modeOf []) (phi [impl_areAll_impl_Angle_f1_s]) := spec_is (c := impl_areAll_impl_Angle_f1_c) seatOK impl_areAll_impl_Angle_f1_t Go.Proofs.Try.func50 rfl (code := impl_areAll_impl_Angle_f1_code) rfl rfl impl_areAll_impl_Angle_f1_rs impl_areAll_impl_Angle_f1_e
noncomputable def slices_IndexFunc__impl_Angle_impl_Angle_l0_s : LSum := ⟨0, ⟨[(0, .val (.sl 27 (.pair (.int .i64) (.pair (.int .i64) (.unit)))) .fr), (0, .fnl 50 [] [.arg (.pfn 33 [] [])]), (5, .val (.int .i64) .fr), (0, .val (.int .i64) .fr)], 10⟩, (.ret, ⟨[(4, .val (.int .i64) .fr)], 14⟩), [(.exit 0, ⟨[], 19⟩)], slices_IndexFunc__impl_Angle_impl_Angle_l0⟩
noncomputable def slices_IndexFunc__impl_Angle_impl_Angle_s : Spec := ⟨[.v (.sl 27 (.pair (.int .i64) (.pair (.int .i64) (.unit)))) .fr, .fn 50 [] [.pfn 33 [] []]], Int, fun v => slices_IndexFunc__impl_Angle_impl_Angle v.1, fun r => ([.v (.int .i64) .fr r], [])⟩
noncomputable def slices_IndexFunc__impl_Angle_impl_Angle_ls : List LSum := [slices_IndexFunc__impl_Angle_impl_Angle_l0_s]
noncomputable def slices_IndexFunc__impl_Angle_impl_Angle_tab : List Row := [⟨50, [], [impl_areAll_impl_Angle_f1_s]⟩]
theorem slices_IndexFunc__impl_Angle_impl_Angle_t : ∀ r, r ∈ slices_IndexFunc__impl_Angle_impl_Angle_tab → RowIs Go.Proofs.Try.prog r := tab_cons (impl_areAll_impl_Angle_f1_is) (tab_nil)
theorem slices_IndexFunc__impl_Angle_impl_Angle_l0_r : RoundIs (mkCtx Go.K.Link.seat slices_IndexFunc__impl_Angle_impl_Angle_c slices_IndexFunc__impl_Angle_impl_Angle_tab) (sums slices_IndexFunc__impl_Angle_impl_Angle_ls) 0 (bodyAt (loopsOf 0 slices_IndexFunc__impl_Angle_impl_Angle_code) 0) slices_IndexFunc__impl_Angle_impl_Angle_l0_s := by
  rintro ⟨s, ⟨_, ⟨⟨_, _⟩, _⟩, ⟨t7, ⟨t8, _⟩⟩⟩⟩
  show _ = (slices_IndexFunc__impl_Angle_impl_Angle_l0 (s, ((), (((), ()), ()), (t7, (t8, ()))))).bind fun r : (Ctl ((List (Int × (Int × Unit))) × Unit × ((Unit × Unit) × Unit) × Int × Int × Unit) ((Int × Unit) ⊕ (Unit))) => some (ctlVal slices_IndexFunc__impl_Angle_impl_Angle_l0_s r)
  simp only [slices_IndexFunc__impl_Angle_impl_Angle_l0, kb_ite, kb_some, kb_none, kb_bind, kb_alt]
  kernel_rfl
theorem slices_IndexFunc__impl_Angle_impl_Angle_rs : RoundsOK (mkCtx Go.K.Link.seat slices_IndexFunc__impl_Angle_impl_Angle_c slices_IndexFunc__impl_Angle_impl_Angle_tab) (sums slices_IndexFunc__impl_Angle_impl_Angle_ls) (loopsOf 0 slices_IndexFunc__impl_Angle_impl_Angle_code) slices_IndexFunc__impl_Angle_impl_Angle_ls := ⟨⟨rfl, rfl, slices_IndexFunc__impl_Angle_impl_Angle_l0_r⟩, trivial⟩
theorem slices_IndexFunc__impl_Angle_impl_Angle_e : ∀ v, (evFn (mkCtx Go.K.Link.seat slices_IndexFunc__impl_Angle_impl_Angle_c slices_IndexFunc__impl_Angle_impl_Angle_tab) (sums slices_IndexFunc__impl_Angle_impl_Angle_ls) 62 Go.Proofs.Try.f62 (encL slices_IndexFunc__impl_Angle_impl_Angle_s.a v)).run = (slices_IndexFunc__impl_Angle_impl_Angle_s.gen v).bind fun y => some (slices_IndexFunc__impl_Angle_impl_Angle_s.out y) := by
  rintro ⟨s, ⟨⟨_, ⟨⟨_, _⟩, _⟩⟩, _⟩⟩
  show _ = (slices_IndexFunc__impl_Angle_impl_Angle s).bind fun y : Int => some (slices_IndexFunc__impl_Angle_impl_Angle_s.out y)
  simp only [slices_IndexFunc__impl_Angle_impl_Angle, kb_ite, kb_some, kb_none, kb_bind, kb_alt]
  kernel_rfl
theorem slices_IndexFunc__impl_Angle_impl_Angle_is : FnIs Go.Proofs.Try.prog 62 (modeOf []) (phi [slices_IndexFunc__impl_Angle_impl_Angle_s]) := spec_is (c := slices_IndexFunc__impl_Angle_impl_Angle_c) seatOK slices_IndexFunc__impl_Angle_impl_Angle_t Go.Proofs.Try.func62 rfl (code := slices_IndexFunc__impl_Angle_impl_Angle_code) rfl rfl slices_IndexFunc__impl_Angle_impl_Angle_rs slices_IndexFunc__impl_Angle_impl_Angle_e
noncomputable def slices_ContainsFunc__impl_Angle_impl_Angle_s : Spec := ⟨[.v (.sl 27 (.pair (.int .i64) (.pair (.int .i64) (.unit)))) .fr, .fn 50 [] [.pfn 33 [] []]], Bool, fun v => slices_ContainsFunc__impl_Angle_impl_Angle v.1, fun r => ([.v (.bool) .fr r], [])⟩
noncomputable def slices_ContainsFunc__impl_Angle_impl_Angle_ls : List LSum := []
noncomputable def slices_ContainsFunc__impl_Angle_impl_Angle_tab : List Row := [⟨62, [], [slices_IndexFunc__impl_Angle_impl_Angle_s]⟩]
theorem slices_ContainsFunc__impl_Angle_impl_Angle_t : ∀ r, r ∈ slices_ContainsFunc__impl_Angle_impl_Angle_tab → RowIs Go.Proofs.Try.prog r := tab_cons (slices_IndexFunc__impl_Angle_impl_Angle_is) (tab_nil)
theorem slices_ContainsFunc__impl_Angle_impl_Angle_rs : RoundsOK (mkCtx Go.K.Link.seat slices_ContainsFunc__impl_Angle_impl_Angle_c slices_ContainsFunc__impl_Angle_impl_Angle_tab) (sums slices_ContainsFunc__impl_Angle_impl_Angle_ls) (loopsOf 0 slices_ContainsFunc__impl_Angle_impl_Angle_code) slices_ContainsFunc__impl_Angle_impl_Angle_ls := trivial
theorem slices_ContainsFunc__impl_Angle_impl_Angle_e : ∀ v, (evFn (mkCtx Go.K.Link.seat slices_ContainsFunc__impl_Angle_impl_Angle_c slices_ContainsFunc__impl_Angle_impl_Angle_tab) (sums slices_ContainsFunc__impl_Angle_impl_Angle_ls) 49 Go.Proofs.Try.f49 (encL slices_ContainsFunc__impl_Angle_impl_Angle_s.a v)).run = (slices_ContainsFunc__impl_Angle_impl_Angle_s.gen v).bind fun y => some (slices_ContainsFunc__impl_Angle_impl_Angle_s.out y) := by
  rintro ⟨s, ⟨⟨_, ⟨⟨_, _⟩, _⟩⟩, _⟩⟩
  show _ = (slices_ContainsFunc__impl_Angle_impl_Angle s).bind fun y : Bool => some (slices_ContainsFunc__impl_Angle_impl_Angle_s.out y)
  simp only [slices_ContainsFunc__impl_Angle_impl_Angle, kb_ite, kb_some, kb_none, kb_bind, kb_alt]
  kernel_rfl
theorem slices_ContainsFunc__impl_Angle_impl_Angle_is : FnIs Go.Proofs.Try.prog 49 (modeOf []) (phi [slices_ContainsFunc__impl_Angle_impl_Angle_s]) := spec_is (c := slices_ContainsFunc__impl_Angle_impl_Angle_c) seatOK slices_ContainsFunc__impl_Angle_impl_Angle_t Go.Proofs.Try.func49 rfl (code := slices_ContainsFunc__impl_Angle_impl_Angle_code) rfl rfl slices_ContainsFunc__impl_Angle_impl_Angle_rs slices_ContainsFunc__impl_Angle_impl_Angle_e
noncomputable def impl_areAll_impl_Angle_s : Spec := ⟨[.v (.sl 27 (.pair (.int .i64) (.pair (.int .i64) (.unit)))) .fr, .fn 33 [] []], Bool, fun v => impl_areAll_impl_Angle v.1, fun r => ([.v (.bool) .fr r], [])⟩
noncomputable def impl_areAll_impl_Angle_ls : List LSum := []
noncomputable def impl_areAll_impl_Angle_tab : List Row := [⟨49, [], [slices_ContainsFunc__impl_Angle_impl_Angle_s]⟩]
theorem impl_areAll_impl_Angle_t : ∀ r, r ∈ impl_areAll_impl_Angle_tab → RowIs Go.Proofs.Try.prog r := tab_cons (slices_ContainsFunc__impl_Angle_impl_Angle_is) (tab_nil)
theorem impl_areAll_impl_Angle_rs : RoundsOK (mkCtx Go.K.Link.seat impl_areAll_impl_Angle_c impl_areAll_impl_Angle_tab) (sums impl_areAll_impl_Angle_ls) (loopsOf 0 impl_areAll_impl_Angle_code) impl_areAll_impl_Angle_ls := trivial
theorem impl_areAll_impl_Angle_e : ∀ v, (evFn (mkCtx Go.K.Link.seat impl_areAll_impl_Angle_c impl_areAll_impl_Angle_tab) (sums impl_areAll_impl_Angle_ls) 32 Go.Proofs.Try.f32 (encL impl_areAll_impl_Angle_s.a v)).run = (impl_areAll_impl_Angle_s.gen v).bind fun y => some (impl_areAll_impl_Angle_s.out y) := by
  rintro ⟨list, ⟨⟨_, _⟩, _⟩⟩
  show _ = (impl_areAll_impl_Angle list).bind fun y : Bool => some (impl_areAll_impl_Angle_s.out y)
  simp only [impl_areAll_impl_Angle, kb_ite, kb_some, kb_none, kb_bind, kb_alt]
  kernel_rfl
theorem impl_areAll_impl_Angle_is : FnIs Go.Proofs.Try.prog 32 (modeOf []) (phi [impl_areAll_impl_Angle_s]) := spec_is (c := impl_areAll_impl_Angle_c) seatOK impl_areAll_impl_Angle_t Go.Proofs.Try.func32 rfl (code := impl_areAll_impl_Angle_code) rfl rfl impl_areAll_impl_Angle_rs impl_areAll_impl_Angle_e
noncomputable def impl_anglesCode_s : Spec := ⟨[.v (.sl 27 (.pair (.int .i64) (.pair (.int .i64) (.unit)))) .fr], Int, fun v => impl_anglesCode v.1, fun r => ([.v (.int .i64) .fr r], [])⟩
noncomputable def impl_anglesCode_ls : List LSum := []
noncomputable def impl_anglesCode_tab : List Row := [⟨32, [], [impl_areAll_impl_Angle_s]⟩]
theorem impl_anglesCode_t : ∀ r, r ∈ impl_anglesCode_tab → RowIs Go.Proofs.Try.prog r := tab_cons (impl_areAll_impl_Angle_is) (tab_nil)
theorem impl_anglesCode_rs : RoundsOK (mkCtx Go.K.Link.seat impl_anglesCode_c impl_anglesCode_tab) (sums impl_anglesCode_ls) (loopsOf 0 impl_anglesCode_code) impl_anglesCode_ls := trivial
theorem impl_anglesCode_e : ∀ v, (evFn (mkCtx Go.K.Link.seat impl_anglesCode_c impl_anglesCode_tab) (sums impl_anglesCode_ls) 14 Go.Proofs.Try.f14 (encL impl_anglesCode_s.a v)).run = (impl_anglesCode_s.gen v).bind fun y => some (impl_anglesCode_s.out y) := by
  rintro ⟨list, _⟩
  show _ = (impl_anglesCode list).bind fun y : Int => some (impl_anglesCode_s.out y)
  simp only [impl_anglesCode, kb_ite, kb_some, kb_none, kb_bind, kb_alt]
  kernel_rfl
theorem impl_anglesCode_is : FnIs Go.Proofs.Try.prog 14 (modeOf []) (phi [impl_anglesCode_s]) := spec_is (c := impl_anglesCode_c) seatOK impl_anglesCode_t Go.Proofs.Try.func14 rfl (code := impl_anglesCode_code) rfl rfl impl_anglesCode_rs impl_anglesCode_e
noncomputable def impl_Angle_orbit_code : Code := (Go.Proofs.Try.f15.body).getD .skip
def impl_Angle_orbit_c : Cfg := ⟨15, [], [[1, 5, 12, 20], [], [2, 3, 4, 5, 12, 20]], [], [], []⟩
noncomputable def slices_Index__impl_Angle_impl_Angle_code : Code := (Go.Proofs.Try.f34.body).getD .skip
def slices_Index__impl_Angle_impl_Angle_c : Cfg := ⟨34, [], [[0, 3, 7, 8], [], [4]], [], [], []⟩
noncomputable def slices_Index__impl_Angle_impl_Angle_l0_s : LSum := ⟨0, ⟨[(0, .val (.sl 27 (.pair (.int .i64) (.pair (.int .i64) (.unit)))) .fr), (2, .val (.ptr (.pair (.int .i64) (.pair (.int .i64) (.unit)))) (.own .fr)), (3, .val (.int .i64) .fr), (0, .val (.int .i64) .fr)], 10⟩, (.ret, ⟨[(4, .val (.int .i64) .fr)], 14⟩), [(.exit 0, ⟨[], 19⟩)], slices_Index__impl_Angle_impl_Angle_l0⟩
noncomputable def slices_Index__impl_Angle_impl_Angle_s : Spec := ⟨[.v (.sl 27 (.pair (.int .i64) (.pair (.int .i64) (.unit)))) .fr, .v (.pair (.int .i64) (.pair (.int .i64) (.unit))) .fr], Int, fun v => slices_Index__impl_Angle_impl_Angle v.1 v.2.1, fun r => ([.v (.int .i64) .fr r], [])⟩
noncomputable def slices_Index__impl_Angle_impl_Angle_ls : List LSum := [slices_Index__impl_Angle_impl_Angle_l0_s]
noncomputable def slices_Index__impl_Angle_impl_Angle_tab : List Row := []
theorem slices_Index__impl_Angle_impl_Angle_t : ∀ r, r ∈ slices_Index__impl_Angle_impl_Angle_tab → RowIs Go.Proofs.Try.prog r := tab_nil
theorem slices_Index__impl_Angle_impl_Angle_l0_r : RoundIs (mkCtx Go.K.Link.seat slices_Index__impl_Angle_impl_Angle_c slices_Index__impl_Angle_impl_Angle_tab) (sums slices_Index__impl_Angle_impl_Angle_ls) 0 (bodyAt (loopsOf 0 slices_Index__impl_Angle_impl_Angle_code) 0) slices_Index__impl_Angle_impl_Angle_l0_s := by
  rintro ⟨s, ⟨v, ⟨t7, ⟨t8, _⟩⟩⟩⟩
  show _ = (slices_Index__impl_Angle_impl_Angle_l0 (s, (v, (t7, (t8, ()))))).bind fun r : (Ctl ((List (Int × (Int × Unit))) × ((Int × (Int × Unit))) × Int × Int × Unit) ((Int × Unit) ⊕ (Unit))) => some (ctlVal slices_Index__impl_Angle_impl_Angle_l0_s r)
  simp only [slices_Index__impl_Angle_impl_Angle_l0, kb_ite, kb_some, kb_none, kb_bind, kb_alt]
  kernel_rfl
theorem slices_Index__impl_Angle_impl_Angle_rs : RoundsOK (mkCtx Go.K.Link.seat slices_Index__impl_Angle_impl_Angle_c slices_Index__impl_Angle_impl_Angle_tab) (sums slices_Index__impl_Angle_impl_Angle_ls) (loopsOf 0 slices_Index__impl_Angle_impl_Angle_code) slices_Index__impl_Angle_impl_Angle_ls := ⟨⟨rfl, rfl, slices_Index__impl_Angle_impl_Angle_l0_r⟩, trivial⟩
theorem slices_Index__impl_Angle_impl_Angle_e : ∀ v, (evFn (mkCtx Go.K.Link.seat slices_Index__impl_Angle_impl_Angle_c slices_Index__impl_Angle_impl_Angle_tab) (sums slices_Index__impl_Angle_impl_Angle_ls) 34 Go.Proofs.Try.f34 (encL slices_Index__impl_Angle_impl_Angle_s.a v)).run = (slices_Index__impl_Angle_impl_Angle_s.gen v).bind fun y => some (slices_Index__impl_Angle_impl_Angle_s.out y) := by
  rintro ⟨s, ⟨v, _⟩⟩
  show _ = (slices_Index__impl_Angle_impl_Angle s v).bind fun y : Int => some (slices_Index__impl_Angle_impl_Angle_s.out y)
  simp only [slices_Index__impl_Angle_impl_Angle, kb_ite, kb_some, kb_none, kb_bind, kb_alt]
  kernel_rfl
theorem slices_Index__impl_Angle_impl_Angle_is : FnIs Go.Proofs.Try.prog 34 (modeOf []) (phi [slices_Index__impl_Angle_impl_Angle_s]) := spec_is (c := slices_Index__impl_Angle_impl_Angle_c) seatOK slices_Index__impl_Angle_impl_Angle_t Go.Proofs.Try.func34 rfl (code := slices_Index__impl_Angle_impl_Angle_code) rfl rfl slices_Index__impl_Angle_impl_Angle_rs slices_Index__impl_Angle_impl_Angle_e
noncomputable def impl_Angle_double_code : Code := (Go.Proofs.Try.f35.body).getD .skip
def impl_Angle_double_c : Cfg := ⟨35, [], [], [], [], []⟩
noncomputable def impl_angle_code : Code := (Go.Proofs.Try.f53.body).getD .skip
def impl_angle_c : Cfg := ⟨53, [], [], [], [], []⟩
noncomputable def impl_angle_s : Spec := ⟨[.v (.int .i64) .fr, .v (.int .i64) .fr], (Int × (Int × Unit)), fun v => impl_angle v.1 v.2.1, fun r => ([.v (.pair (.int .i64) (.pair (.int .i64) (.unit))) .fr r], [])⟩
noncomputable def impl_angle_ls : List LSum := []
noncomputable def impl_angle_tab : List Row := [⟨52, [], [impl_divisor_s]⟩]
theorem impl_angle_t : ∀ r, r ∈ impl_angle_tab → RowIs Go.Proofs.Try.prog r := tab_cons (impl_divisor_is) (tab_nil)
theorem impl_angle_rs : RoundsOK (mkCtx Go.K.Link.seat impl_angle_c impl_angle_tab) (sums impl_angle_ls) (loopsOf 0 impl_angle_code) impl_angle_ls := trivial
theorem impl_angle_e : ∀ v, (evFn (mkCtx Go.K.Link.seat impl_angle_c impl_angle_tab) (sums impl_angle_ls) 53 Go.Proofs.Try.f53 (encL impl_angle_s.a v)).run = (impl_angle_s.gen v).bind fun y => some (impl_angle_s.out y) := by
  rintro ⟨num, ⟨den, _⟩⟩
  show _ = (impl_angle num den).bind fun y : (Int × (Int × Unit)) => some (impl_angle_s.out y)
  simp only [impl_angle, kb_ite, kb_some, kb_none, kb_bind, kb_alt]
  kernel_rfl
theorem impl_angle_is : FnIs Go.Proofs.Try.prog 53 (modeOf []) (phi [impl_angle_s]) := spec_is (c := impl_angle_c) seatOK impl_angle_t Go.Proofs.Try.func53 rfl (code := impl_angle_code) rfl rfl impl_angle_rs impl_angle_e
noncomputable def impl_Angle_double_s : Spec := ⟨[.v (.pair (.int .i64) (.pair (.int .i64) (.unit))) .fr], (Int × (Int × Unit)), fun v => impl_Angle_double v.1, fun r => ([.v (.pair (.int .i64) (.pair (.int .i64) (.unit))) .fr r], [])⟩
noncomputable def impl_Angle_double_ls : List LSum := []
noncomputable def impl_Angle_double_tab : List Row := [⟨53, [], [impl_angle_s]⟩]
theorem impl_Angle_double_t : ∀ r, r ∈ impl_Angle_double_tab → RowIs Go.Proofs.Try.prog r := tab_cons (impl_angle_is) (tab_nil)
theorem impl_Angle_double_rs : RoundsOK (mkCtx Go.K.Link.seat impl_Angle_double_c impl_Angle_double_tab) (sums impl_Angle_double_ls) (loopsOf 0 impl_Angle_double_code) impl_Angle_double_ls := trivial
theorem impl_Angle_double_e : ∀ v, (evFn (mkCtx Go.K.Link.seat impl_Angle_double_c impl_Angle_double_tab) (sums impl_Angle_double_ls) 35 Go.Proofs.Try.f35 (encL impl_Angle_double_s.a v)).run = (impl_Angle_double_s.gen v).bind fun y => some (impl_Angle_double_s.out y) := by
  rintro ⟨a, _⟩
  show _ = (impl_Angle_double a).bind fun y : (Int × (Int × Unit)) => some (impl_Angle_double_s.out y)
  simp only [impl_Angle_double, kb_ite, kb_some, kb_none, kb_bind, kb_alt]
  kernel_rfl
theorem impl_Angle_double_is : FnIs Go.Proofs.Try.prog 35 (modeOf []) (phi [impl_Angle_double_s]) := spec_is (c := impl_Angle_double_c) seatOK impl_Angle_double_t Go.Proofs.Try.func35 rfl (code := impl_Angle_double_code) rfl rfl impl_Angle_double_rs impl_Angle_double_e
noncomputable def impl_Angle_orbit_l0_s : LSum := ⟨0, ⟨[(1, .val (.ptr (.pair (.int .i64) (.pair (.int .i64) (.unit)))) (.own .fr)), (3, .val (.sl 27 (.pair (.int .i64) (.pair (.int .i64) (.unit)))) (.own .fr))], 17⟩, (.ret, ⟨[(2, .sref 5 []), (0, .val (.int .i64) .fr), (0, .val (.bool) .fr), (0, .val (.sl 27 (.pair (.int .i64) (.pair (.int .i64) (.unit)))) (.own .fr)), (6, .sref 5 [])], 10⟩), [(.ret, ⟨[(2, .val (.sl 27 (.pair (.int .i64) (.pair (.int .i64) (.unit)))) (.own .fr)), (0, .val (.int .i64) .fr), (0, .val (.bool) .fr), (0, .val (.sl 27 (.pair (.int .i64) (.pair (.int .i64) (.unit)))) (.own .fr))], 17⟩)], impl_Angle_orbit_l0⟩
noncomputable def impl_Angle_orbit_s : Spec := ⟨[.v (.pair (.int .i64) (.pair (.int .i64) (.unit))) .fr], (List (Int × (Int × Unit))) × Int × Bool, fun v => impl_Angle_orbit v.1, fun r => ([.v (.sl 27 (.pair (.int .i64) (.pair (.int .i64) (.unit)))) (.own .fr) r.1, .v (.int .i64) .fr r.2.1, .v (.bool) .fr r.2.2], [])⟩
noncomputable def impl_Angle_orbit_ls : List LSum := [impl_Angle_orbit_l0_s]
noncomputable def impl_Angle_orbit_tab : List Row := [⟨34, [], [slices_Index__impl_Angle_impl_Angle_s]⟩, ⟨35, [], [impl_Angle_double_s]⟩]
theorem impl_Angle_orbit_t : ∀ r, r ∈ impl_Angle_orbit_tab → RowIs Go.Proofs.Try.prog r := tab_cons (slices_Index__impl_Angle_impl_Angle_is) (tab_cons (impl_Angle_double_is) (tab_nil))
theorem impl_Angle_orbit_l0_r : RoundIs (mkCtx Go.K.Link.seat impl_Angle_orbit_c impl_Angle_orbit_tab) (sums impl_Angle_orbit_ls) 0 (bodyAt (loopsOf 0 impl_Angle_orbit_code) 0) impl_Angle_orbit_l0_s := by
  rintro ⟨a, ⟨list, _⟩⟩
  show _ = (impl_Angle_orbit_l0 (a, (list, ()))).bind fun r : (Ctl (((Int × (Int × Unit))) × (List (Int × (Int × Unit))) × Unit) ((Int × Bool × (List (Int × (Int × Unit))) × Unit) ⊕ ((List (Int × (Int × Unit))) × Int × Bool × (List (Int × (Int × Unit))) × Unit))) => some (ctlVal impl_Angle_orbit_l0_s r)
  simp only [impl_Angle_orbit_l0, kb_ite, kb_some, kb_none, kb_bind, kb_alt]
  kernel_rfl
theorem impl_Angle_orbit_rs : RoundsOK (mkCtx Go.K.Link.seat impl_Angle_orbit_c impl_Angle_orbit_tab) (sums impl_Angle_orbit_ls) (loopsOf 0 impl_Angle_orbit_code) impl_Angle_orbit_ls := ⟨⟨rfl, rfl, impl_Angle_orbit_l0_r⟩, trivial⟩
theorem impl_Angle_orbit_e : ∀ v, (evFn (mkCtx Go.K.Link.seat impl_Angle_orbit_c impl_Angle_orbit_tab) (sums impl_Angle_orbit_ls) 15 Go.Proofs.Try.f15 (encL impl_Angle_orbit_s.a v)).run = (impl_Angle_orbit_s.gen v).bind fun y => some (impl_Angle_orbit_s.out y) := by
  rintro ⟨a, _⟩
  show _ = (impl_Angle_orbit a).bind fun y : (List (Int × (Int × Unit))) × Int × Bool => some (impl_Angle_orbit_s.out y)
  simp only [impl_Angle_orbit, kb_ite, kb_some, kb_none, kb_bind, kb_alt]
  kernel_rfl
theorem impl_Angle_orbit_is : FnIs Go.Proofs.Try.prog 15 (modeOf []) (phi [impl_Angle_orbit_s]) := spec_is (c := impl_Angle_orbit_c) seatOK impl_Angle_orbit_t Go.Proofs.Try.func15 rfl (code := impl_Angle_orbit_code) rfl rfl impl_Angle_orbit_rs impl_Angle_orbit_e
noncomputable def impl_periodic_code : Code := (Go.Proofs.Try.f16.body).getD .skip
def impl_periodic_c : Cfg := ⟨16, [], [], [], [], []⟩
noncomputable def impl_preperiods_code : Code := (Go.Proofs.Try.f36.body).getD .skip
def impl_preperiods_c : Cfg := ⟨36, [], [], [], [], []⟩
noncomputable def impl_preperiods_s : Spec := ⟨[.v (.pair (.int .i64) (.pair (.int .i64) (.unit))) .fr], Int × Int, fun v => impl_preperiods v.1, fun r => ([.v (.int .i64) .fr r.1, .v (.int .i64) .fr r.2], [])⟩
noncomputable def impl_preperiods_ls : List LSum := []
noncomputable def impl_preperiods_tab : List Row := [⟨15, [], [impl_Angle_orbit_s]⟩]
theorem impl_preperiods_t : ∀ r, r ∈ impl_preperiods_tab → RowIs Go.Proofs.Try.prog r := tab_cons (impl_Angle_orbit_is) (tab_nil)
theorem impl_preperiods_rs : RoundsOK (mkCtx Go.K.Link.seat impl_preperiods_c impl_preperiods_tab) (sums impl_preperiods_ls) (loopsOf 0 impl_preperiods_code) impl_preperiods_ls := trivial
theorem impl_preperiods_e : ∀ v, (evFn (mkCtx Go.K.Link.seat impl_preperiods_c impl_preperiods_tab) (sums impl_preperiods_ls) 36 Go.Proofs.Try.f36 (encL impl_preperiods_s.a v)).run = (impl_preperiods_s.gen v).bind fun y => some (impl_preperiods_s.out y) := by
  rintro ⟨a, _⟩
  show _ = (impl_preperiods a).bind fun y : Int × Int => some (impl_preperiods_s.out y)
  simp only [impl_preperiods, kb_ite, kb_some, kb_none, kb_bind, kb_alt]
  kernel_rfl
theorem impl_preperiods_is : FnIs Go.Proofs.Try.prog 36 (modeOf []) (phi [impl_preperiods_s]) := spec_is (c := impl_preperiods_c) seatOK impl_preperiods_t Go.Proofs.Try.func36 rfl (code := impl_preperiods_code) rfl rfl impl_preperiods_rs impl_preperiods_e
noncomputable def impl_areAll_impl_Angle_v3_code : Code := (Go.Proofs.Try.f32.body).getD .skip
def impl_areAll_impl_Angle_v3_c : Cfg := ⟨32, [], [], [], [], []⟩
noncomputable def slices_ContainsFunc__impl_Angle_impl_Angle_v3_code : Code := (Go.Proofs.Try.f49.body).getD .skip
def slices_ContainsFunc__impl_Angle_impl_Angle_v3_c : Cfg := ⟨49, [], [], [], [], []⟩
noncomputable def slices_IndexFunc__impl_Angle_impl_Angle_v3_code : Code := (Go.Proofs.Try.f62.body).getD .skip
def slices_IndexFunc__impl_Angle_impl_Angle_v3_c : Cfg := ⟨62, [], [[0, 1, 7, 8], [], [4]], [], [], []⟩
noncomputable def impl_areAll_impl_Angle_f1_v3_code : Code := (Go.Proofs.Try.f50.body).getD .skip
def impl_areAll_impl_Angle_f1_v3_c : Cfg := ⟨50, [], [], [], [], []⟩
noncomputable def impl_periodic_f1_code : Code := (Go.Proofs.Try.f37.body).getD .skip
def impl_periodic_f1_c : Cfg := ⟨37, [], [], [], [], []⟩
noncomputable def impl_periodic_f1_s : Spec := ⟨[.v (.pair (.int .i64) (.pair (.int .i64) (.unit))) .fr, .v (.ptr (.int .i64)) .fr], Bool, fun v => impl_periodic_f1 v.1 v.2.1, fun r => ([.v (.bool) .fr r], [])⟩
noncomputable def impl_periodic_f1_ls : List LSum := []
noncomputable def impl_periodic_f1_tab : List Row := [⟨36, [], [impl_preperiods_s]⟩]
theorem impl_periodic_f1_t : ∀ r, r ∈ impl_periodic_f1_tab → RowIs Go.Proofs.Try.prog r := tab_cons (impl_preperiods_is) (tab_nil)
theorem impl_periodic_f1_rs : RoundsOK (mkCtx Go.K.Link.seat impl_periodic_f1_c impl_periodic_f1_tab) (sums impl_periodic_f1_ls) (loopsOf 0 impl_periodic_f1_code) impl_periodic_f1_ls := trivial
theorem impl_periodic_f1_e : ∀ v, (evFn (mkCtx Go.K.Link.seat impl_periodic_f1_c impl_periodic_f1_tab) (sums impl_periodic_f1_ls) 37 Go.Proofs.Try.f37 (encL impl_periodic_f1_s.a v)).run = (impl_periodic_f1_s.gen v).bind fun y => some (impl_periodic_f1_s.out y) := by
  rintro ⟨a, ⟨t1, _⟩⟩
  show _ = (impl_periodic_f1 a t1).bind fun y : Bool => some (impl_periodic_f1_s.out y)
  simp only [impl_periodic_f1, kb_ite, kb_some, kb_none, kb_bind, kb_alt]
  kernel_rfl
theorem impl_periodic_f1_is : FnIs Go.Proofs.Try.prog 37 (modeOf []) (phi [impl_periodic_f1_s]) := spec_is (c := impl_periodic_f1_c) seatOK impl_periodic_f1_t Go.Proofs.Try.func37 rfl (code := impl_periodic_f1_code) rfl rfl impl_periodic_f1_rs impl_periodic_f1_e
noncomputable def impl_areAll_impl_Angle_f1_v3_s : Spec := ⟨[.v (.pair (.int .i64) (.pair (.int .i64) (.unit))) .fr, .pfn 37 [] [.v (.ptr (.int .i64)) .fr]], Bool, fun v => impl_areAll_impl_Angle_f1_v3 v.1 v.2.1.2.1, fun r => ([.v (.bool) .fr r], [])⟩
noncomputable def impl_areAll_impl_Angle_f1_v3_ls : List LSum := []
noncomputable def impl_areAll_impl_Angle_f1_v3_tab : List Row := [⟨37, [], [impl_periodic_f1_s]⟩]
theorem impl_areAll_impl_Angle_f1_v3_t : ∀ r, r ∈ impl_areAll_impl_Angle_f1_v3_tab → RowIs Go.Proofs.Try.prog r := tab_cons (impl_periodic_f1_is) (tab_nil)
theorem impl_areAll_impl_Angle_f1_v3_rs : RoundsOK (mkCtx Go.K.Link.seat impl_areAll_impl_Angle_f1_v3_c impl_areAll_impl_Angle_f1_v3_tab) (sums impl_areAll_impl_Angle_f1_v3_ls) (loopsOf 0 impl_areAll_impl_Angle_f1_v3_code) impl_areAll_impl_Angle_f1_v3_ls := trivial
theorem impl_areAll_impl_Angle_f1_v3_e : ∀ v, (evFn (mkCtx Go.K.Link.seat impl_areAll_impl_Angle_f1_v3_c impl_areAll_impl_Angle_f1_v3_tab) (sums impl_areAll_impl_Angle_f1_v3_ls) 50 Go.Proofs.Try.f50 (encL impl_areAll_impl_Angle_f1_v3_s.a v)).run = (impl_areAll_impl_Angle_f1_v3_s.gen v).bind fun y => some (impl_areAll_impl_Angle_f1_v3_s.out y) := by
  rintro ⟨x, ⟨⟨_, ⟨t1_0, _⟩⟩, _⟩⟩
  show _ = (impl_areAll_impl_Angle_f1_v3 x t1_0).bind fun y : Bool => some (impl_areAll_impl_Angle_f1_v3_s.out y)
  simp only [impl_areAll_impl_Angle_f1_v3, kb_ite, kb_some, kb_none, kb_bind, kb_alt]
  kernel_rfl
theorem impl_areAll_impl_Angle_f1_v3_is : FnIs Go.Proofs.Try.prog 50 (modeOf []) (phi [impl_areAll_impl_Angle_f1_v3_s]) := spec_is (c := impl_areAll_impl_Angle_f1_v3_c) seatOK impl_areAll_impl_Angle_f1_v3_t Go.Proofs.Try.func50 rfl (code := impl_areAll_impl_Angle_f1_v3_code) rfl rfl impl_areAll_impl_Angle_f1_v3_rs impl_areAll_impl_Angle_f1_v3_e
noncomputable def slices_IndexFunc__impl_Angle_impl_Angle_v3_l0_s : LSum := ⟨0, ⟨[(0, .val (.sl 27 (.pair (.int .i64) (.pair (.int .i64) (.unit)))) .fr), (0, .fnl 50 [] [.arg (.pfn 37 [] [.v (.ptr (.int .i64)) .fr])]), (5, .val (.int .i64) .fr), (0, .val (.int .i64) .fr)], 10⟩, (.ret, ⟨[(4, .val (.int .i64) .fr)], 14⟩), [(.exit 0, ⟨[], 19⟩)], slices_IndexFunc__impl_Angle_impl_Angle_v3_l0⟩
noncomputable def slices_IndexFunc__impl_Angle_impl_Angle_v3_s : Spec := ⟨[.v (.sl 27 (.pair (.int .i64) (.pair (.int .i64) (.unit)))) .fr, .fn 50 [] [.pfn 37 [] [.v (.ptr (.int .i64)) .fr]]], Int, fun v => slices_IndexFunc__impl_Angle_impl_Angle_v3 v.1 v.2.1.2.1.2.1, fun r => ([.v (.int .i64) .fr r], [])⟩
noncomputable def slices_IndexFunc__impl_Angle_impl_Angle_v3_ls : List LSum := [slices_IndexFunc__impl_Angle_impl_Angle_v3_l0_s]
noncomputable def slices_IndexFunc__impl_Angle_impl_Angle_v3_tab : List Row := [⟨50, [], [impl_areAll_impl_Angle_f1_v3_s]⟩]
theorem slices_IndexFunc__impl_Angle_impl_Angle_v3_t : ∀ r, r ∈ slices_IndexFunc__impl_Angle_impl_Angle_v3_tab → RowIs Go.Proofs.Try.prog r := tab_cons (impl_areAll_impl_Angle_f1_v3_is) (tab_nil)
theorem slices_IndexFunc__impl_Angle_impl_Angle_v3_l0_r : RoundIs (mkCtx Go.K.Link.seat slices_IndexFunc__impl_Angle_impl_Angle_v3_c slices_IndexFunc__impl_Angle_impl_Angle_v3_tab) (sums slices_IndexFunc__impl_Angle_impl_Angle_v3_ls) 0 (bodyAt (loopsOf 0 slices_IndexFunc__impl_Angle_impl_Angle_v3_code) 0) slices_IndexFunc__impl_Angle_impl_Angle_v3_l0_s := by
  rintro ⟨s, ⟨_, ⟨⟨_, ⟨f, _⟩⟩, _⟩, ⟨t7, ⟨t8, _⟩⟩⟩⟩
  show _ = (slices_IndexFunc__impl_Angle_impl_Angle_v3_l0 (s, ((), (((), (f, ())), ()), (t7, (t8, ()))))).bind fun r : (Ctl ((List (Int × (Int × Unit))) × Unit × ((Unit × (Int × Unit)) × Unit) × Int × Int × Unit) ((Int × Unit) ⊕ (Unit))) => some (ctlVal slices_IndexFunc__impl_Angle_impl_Angle_v3_l0_s r)
  simp only [slices_IndexFunc__impl_Angle_impl_Angle_v3_l0, kb_ite, kb_some, kb_none, kb_bind, kb_alt]
  kernel_rfl
theorem slices_IndexFunc__impl_Angle_impl_Angle_v3_rs : RoundsOK (mkCtx Go.K.Link.seat slices_IndexFunc__impl_Angle_impl_Angle_v3_c slices_IndexFunc__impl_Angle_impl_Angle_v3_tab) (sums slices_IndexFunc__impl_Angle_impl_Angle_v3_ls) (loopsOf 0 slices_IndexFunc__impl_Angle_impl_Angle_v3_code) slices_IndexFunc__impl_Angle_impl_Angle_v3_ls := ⟨⟨rfl, rfl, slices_IndexFunc__impl_Angle_impl_Angle_v3_l0_r⟩, trivial⟩
theorem slices_IndexFunc__impl_Angle_impl_Angle_v3_e : ∀ v, (evFn (mkCtx Go.K.Link.seat slices_IndexFunc__impl_Angle_impl_Angle_v3_c slices_IndexFunc__impl_Angle_impl_Angle_v3_tab) (sums slices_IndexFunc__impl_Angle_impl_Angle_v3_ls) 62 Go.Proofs.Try.f62 (encL slices_IndexFunc__impl_Angle_impl_Angle_v3_s.a v)).run = (slices_IndexFunc__impl_Angle_impl_Angle_v3_s.gen v).bind fun y => some (slices_IndexFunc__impl_Angle_impl_Angle_v3_s.out y) := by
  rintro ⟨s, ⟨⟨_, ⟨⟨_, ⟨f_0_1, _⟩⟩, _⟩⟩, _⟩⟩
  show _ = (slices_IndexFunc__impl_Angle_impl_Angle_v3 s f_0_1).bind fun y : Int => some (slices_IndexFunc__impl_Angle_impl_Angle_v3_s.out y)
  simp only [slices_IndexFunc__impl_Angle_impl_Angle_v3, kb_ite, kb_some, kb_none, kb_bind, kb_alt]
  kernel_rfl
theorem slices_IndexFunc__impl_Angle_impl_Angle_v3_is : FnIs Go.Proofs.Try.prog 62 (modeOf []) (phi [slices_IndexFunc__impl_Angle_impl_Angle_v3_s]) := spec_is (c := slices_IndexFunc__impl_Angle_impl_Angle_v3_c) seatOK slices_IndexFunc__impl_Angle_impl_Angle_v3_t Go.Proofs.Try.func62 rfl (code := slices_IndexFunc__impl_Angle_impl_Angle_v3_code) rfl rfl slices_IndexFunc__impl_Angle_impl_Angle_v3_rs slices_IndexFunc__impl_Angle_impl_Angle_v3_e
noncomputable def slices_ContainsFunc__impl_Angle_impl_Angle_v3_s : Spec := ⟨[.v (.sl 27 (.pair (.int .i64) (.pair (.int .i64) (.unit)))) .fr, .fn 50 [] [.pfn 37 [] [.v (.ptr (.int .i64)) .fr]]], Bool, fun v => slices_ContainsFunc__impl_Angle_impl_Angle_v3 v.1 v.2.1.2.1.2.1, fun r => ([.v (.bool) .fr r], [])⟩
noncomputable def slices_ContainsFunc__impl_Angle_impl_Angle_v3_ls : List LSum := []
noncomputable def slices_ContainsFunc__impl_Angle_impl_Angle_v3_tab : List Row := [⟨62, [], [slices_IndexFunc__impl_Angle_impl_Angle_v3_s]⟩]
theorem slices_ContainsFunc__impl_Angle_impl_Angle_v3_t : ∀ r, r ∈ slices_ContainsFunc__impl_Angle_impl_Angle_v3_tab → RowIs Go.Proofs.Try.prog r := tab_cons (slices_IndexFunc__impl_Angle_impl_Angle_v3_is) (tab_nil)
theorem slices_ContainsFunc__impl_Angle_impl_Angle_v3_rs : RoundsOK (mkCtx Go.K.Link.seat slices_ContainsFunc__impl_Angle_impl_Angle_v3_c slices_ContainsFunc__impl_Angle_impl_Angle_v3_tab) (sums slices_ContainsFunc__impl_Angle_impl_Angle_v3_ls) (loopsOf 0 slices_ContainsFunc__impl_Angle_impl_Angle_v3_code) slices_ContainsFunc__impl_Angle_impl_Angle_v3_ls := trivial
theorem slices_ContainsFunc__impl_Angle_impl_Angle_v3_e : ∀ v, (evFn (mkCtx Go.K.Link.seat slices_ContainsFunc__impl_Angle_impl_Angle_v3_c slices_ContainsFunc__impl_Angle_impl_Angle_v3_tab) (sums slices_ContainsFunc__impl_Angle_impl_Angle_v3_ls) 49 Go.Proofs.Try.f49 (encL slices_ContainsFunc__impl_Angle_impl_Angle_v3_s.a v)).run = (slices_ContainsFunc__impl_Angle_impl_Angle_v3_s.gen v).bind fun y => some (slices_ContainsFunc__impl_Angle_impl_Angle_v3_s.out y) := by
  rintro ⟨s, ⟨⟨_, ⟨⟨_, ⟨f_0_1, _⟩⟩, _⟩⟩, _⟩⟩
  show _ = (slices_ContainsFunc__impl_Angle_impl_Angle_v3 s f_0_1).bind fun y : Bool => some (slices_ContainsFunc__impl_Angle_impl_Angle_v3_s.out y)
  simp only [slices_ContainsFunc__impl_Angle_impl_Angle_v3, kb_ite, kb_some, kb_none, kb_bind, kb_alt]
  kernel_rfl
theorem slices_ContainsFunc__impl_Angle_impl_Angle_v3_is : FnIs Go.Proofs.Try.prog 49 (modeOf []) (phi [slices_ContainsFunc__impl_Angle_impl_Angle_v3_s]) := spec_is (c := slices_ContainsFunc__impl_Angle_impl_Angle_v3_c) seatOK slices_ContainsFunc__impl_Angle_impl_Angle_v3_t Go.Proofs.Try.func49 rfl (code := slices_ContainsFunc__impl_Angle_impl_Angle_v3_code) rfl rfl slices_ContainsFunc__impl_Angle_impl_Angle_v3_rs slices_ContainsFunc__impl_Angle_impl_Angle_v3_e
noncomputable def impl_areAll_impl_Angle_v3_s : Spec := ⟨[.v (.sl 27 (.pair (.int .i64) (.pair (.int .i64) (.unit)))) .fr, .fn 37 [] [.v (.ptr (.int .i64)) .fr]], Bool, fun v => impl_areAll_impl_Angle_v3 v.1 v.2.1.2.1, fun r => ([.v (.bool) .fr r], [])⟩
noncomputable def impl_areAll_impl_Angle_v3_ls : List LSum := []
noncomputable def impl_areAll_impl_Angle_v3_tab : List Row := [⟨49, [], [slices_ContainsFunc__impl_Angle_impl_Angle_v3_s]⟩]
theorem impl_areAll_impl_Angle_v3_t : ∀ r, r ∈ impl_areAll_impl_Angle_v3_tab → RowIs Go.Proofs.Try.prog r := tab_cons (slices_ContainsFunc__impl_Angle_impl_Angle_v3_is) (tab_nil)
theorem impl_areAll_impl_Angle_v3_rs : RoundsOK (mkCtx Go.K.Link.seat impl_areAll_impl_Angle_v3_c impl_areAll_impl_Angle_v3_tab) (sums impl_areAll_impl_Angle_v3_ls) (loopsOf 0 impl_areAll_impl_Angle_v3_code) impl_areAll_impl_Angle_v3_ls := trivial
theorem impl_areAll_impl_Angle_v3_e : ∀ v, (evFn (mkCtx Go.K.Link.seat impl_areAll_impl_Angle_v3_c impl_areAll_impl_Angle_v3_tab) (sums impl_areAll_impl_Angle_v3_ls) 32 Go.Proofs.Try.f32 (encL impl_areAll_impl_Angle_v3_s.a v)).run = (impl_areAll_impl_Angle_v3_s.gen v).bind fun y => some (impl_areAll_impl_Angle_v3_s.out y) := by
  rintro ⟨list, ⟨⟨_, ⟨is'_0, _⟩⟩, _⟩⟩
  show _ = (impl_areAll_impl_Angle_v3 list is'_0).bind fun y : Bool => some (impl_areAll_impl_Angle_v3_s.out y)
  simp only [impl_areAll_impl_Angle_v3, kb_ite, kb_some, kb_none, kb_bind, kb_alt]
  kernel_rfl
theorem impl_areAll_impl_Angle_v3_is : FnIs Go.Proofs.Try.prog 32 (modeOf []) (phi [impl_areAll_impl_Angle_v3_s]) := spec_is (c := impl_areAll_impl_Angle_v3_c) seatOK impl_areAll_impl_Angle_v3_t Go.Proofs.Try.func32 rfl (code := impl_areAll_impl_Angle_v3_code) rfl rfl impl_areAll_impl_Angle_v3_rs impl_areAll_impl_Angle_v3_e
noncomputable def impl_periodic_s : Spec := ⟨[.v (.sl 27 (.pair (.int .i64) (.pair (.int .i64) (.unit)))) .fr], Bool, fun v => impl_periodic v.1, fun r => ([.v (.bool) .fr r], [])⟩
noncomputable def impl_periodic_ls : List LSum := []
noncomputable def impl_periodic_tab : List Row := [⟨32, [], [impl_areAll_impl_Angle_v3_s]⟩, ⟨36, [], [impl_preperiods_s]⟩]
theorem impl_periodic_t : ∀ r, r ∈ impl_periodic_tab → RowIs Go.Proofs.Try.prog r := tab_cons (impl_areAll_impl_Angle_v3_is) (tab_cons (impl_preperiods_is) (tab_nil))
theorem impl_periodic_rs : RoundsOK (mkCtx Go.K.Link.seat impl_periodic_c impl_periodic_tab) (sums impl_periodic_ls) (loopsOf 0 impl_periodic_code) impl_periodic_ls := trivial
theorem impl_periodic_e : ∀ v, (evFn (mkCtx Go.K.Link.seat impl_periodic_c impl_periodic_tab) (sums impl_periodic_ls) 16 Go.Proofs.Try.f16 (encL impl_periodic_s.a v)).run = (impl_periodic_s.gen v).bind fun y => some (impl_periodic_s.out y) := by
  rintro ⟨list, _⟩
  show _ = (impl_periodic list).bind fun y : Bool => some (impl_periodic_s.out y)
  simp only [impl_periodic, kb_ite, kb_some, kb_none, kb_bind, kb_alt]
  kernel_rfl
theorem impl_periodic_is : FnIs Go.Proofs.Try.prog 16 (modeOf []) (phi [impl_periodic_s]) := spec_is (c := impl_periodic_c) seatOK impl_periodic_t Go.Proofs.Try.func16 rfl (code := impl_periodic_code) rfl rfl impl_periodic_rs impl_periodic_e
noncomputable def impl_PortraitOf_l0_s : LSum := ⟨1, ⟨[(7, .val (.sl 27 (.pair (.int .i64) (.pair (.int .i64) (.unit)))) (.own .fr)), (2, .val (.sl 27 (.pair (.int .i64) (.pair (.int .i64) (.unit)))) (.own .fr)), (2, .val (.sl 43 (.arr 2 (.pair (.int .i64) (.pair (.int .i64) (.unit))))) (.own .fr)), (43, .val (.int .i64) .fr), (0, .val (.int .i64) .fr)], 53⟩, (.exit 1, ⟨[(7, .val (.sl 27 (.pair (.int .i64) (.pair (.int .i64) (.unit)))) (.own .fr)), (5, .val (.sl 43 (.arr 2 (.pair (.int .i64) (.pair (.int .i64) (.unit))))) (.own .fr))], 98⟩), [], impl_PortraitOf_l0⟩
noncomputable def slices_ContainsFunc___impl_Angle__impl_Angle_v2_code : Code := (Go.Proofs.Try.f17.body).getD .skip
def slices_ContainsFunc___impl_Angle__impl_Angle_v2_c : Cfg := ⟨17, [], [], [], [], []⟩
noncomputable def slices_IndexFunc___impl_Angle__impl_Angle_v2_code : Code := (Go.Proofs.Try.f38.body).getD .skip
def slices_IndexFunc___impl_Angle__impl_Angle_v2_c : Cfg := ⟨38, [], [[0, 1, 7, 8], [], [4]], [], [], []⟩
noncomputable def impl_PortraitOf_f1_code : Code := (Go.Proofs.Try.f18.body).getD .skip
def impl_PortraitOf_f1_c : Cfg := ⟨18, [], [], [], [], []⟩
noncomputable def slices_Contains__impl_Angle_impl_Angle_code : Code := (Go.Proofs.Try.f19.body).getD .skip
def slices_Contains__impl_Angle_impl_Angle_c : Cfg := ⟨19, [], [], [], [], []⟩
noncomputable def slices_Contains__impl_Angle_impl_Angle_s : Spec := ⟨[.v (.sl 27 (.pair (.int .i64) (.pair (.int .i64) (.unit)))) .fr, .v (.pair (.int .i64) (.pair (.int .i64) (.unit))) .fr], Bool, fun v => slices_Contains__impl_Angle_impl_Angle v.1 v.2.1, fun r => ([.v (.bool) .fr r], [])⟩
noncomputable def slices_Contains__impl_Angle_impl_Angle_ls : List LSum := []
noncomputable def slices_Contains__impl_Angle_impl_Angle_tab : List Row := [⟨34, [], [slices_Index__impl_Angle_impl_Angle_s]⟩]
theorem slices_Contains__impl_Angle_impl_Angle_t : ∀ r, r ∈ slices_Contains__impl_Angle_impl_Angle_tab → RowIs Go.Proofs.Try.prog r := tab_cons (slices_Index__impl_Angle_impl_Angle_is) (tab_nil)
theorem slices_Contains__impl_Angle_impl_Angle_rs : RoundsOK (mkCtx Go.K.Link.seat slices_Contains__impl_Angle_impl_Angle_c slices_Contains__impl_Angle_impl_Angle_tab) (sums slices_Contains__impl_Angle_impl_Angle_ls) (loopsOf 0 slices_Contains__impl_Angle_impl_Angle_code) slices_Contains__impl_Angle_impl_Angle_ls := trivial
theorem slices_Contains__impl_Angle_impl_Angle_e : ∀ v, (evFn (mkCtx Go.K.Link.seat slices_Contains__impl_Angle_impl_Angle_c slices_Contains__impl_Angle_impl_Angle_tab) (sums slices_Contains__impl_Angle_impl_Angle_ls) 19 Go.Proofs.Try.f19 (encL slices_Contains__impl_Angle_impl_Angle_s.a v)).run = (slices_Contains__impl_Angle_impl_Angle_s.gen v).bind fun y => some (slices_Contains__impl_Angle_impl_Angle_s.out y) := by
  rintro ⟨s, ⟨v, _⟩⟩
  show _ = (slices_Contains__impl_Angle_impl_Angle s v).bind fun y : Bool => some (slices_Contains__impl_Angle_impl_Angle_s.out y)
  simp only [slices_Contains__impl_Angle_impl_Angle, kb_ite, kb_some, kb_none, kb_bind, kb_alt]
  kernel_rfl
theorem slices_Contains__impl_Angle_impl_Angle_is : FnIs Go.Proofs.Try.prog 19 (modeOf []) (phi [slices_Contains__impl_Angle_impl_Angle_s]) := spec_is (c := slices_Contains__impl_Angle_impl_Angle_c) seatOK slices_Contains__impl_Angle_impl_Angle_t Go.Proofs.Try.func19 rfl (code := slices_Contains__impl_Angle_impl_Angle_code) rfl rfl slices_Contains__impl_Angle_impl_Angle_rs slices_Contains__impl_Angle_impl_Angle_e
noncomputable def impl_PortraitOf_f1_s : Spec := ⟨[.v (.sl 27 (.pair (.int .i64) (.pair (.int .i64) (.unit)))) .fr, .v (.ptr (.pair (.int .i64) (.pair (.int .i64) (.unit)))) .fr], Bool, fun v => impl_PortraitOf_f1 v.1 v.2.1, fun r => ([.v (.bool) .fr r], [])⟩
noncomputable def impl_PortraitOf_f1_ls : List LSum := []
noncomputable def impl_PortraitOf_f1_tab : List Row := [⟨19, [], [slices_Contains__impl_Angle_impl_Angle_s]⟩]
theorem impl_PortraitOf_f1_t : ∀ r, r ∈ impl_PortraitOf_f1_tab → RowIs Go.Proofs.Try.prog r := tab_cons (slices_Contains__impl_Angle_impl_Angle_is) (tab_nil)
theorem impl_PortraitOf_f1_rs : RoundsOK (mkCtx Go.K.Link.seat impl_PortraitOf_f1_c impl_PortraitOf_f1_tab) (sums impl_PortraitOf_f1_ls) (loopsOf 0 impl_PortraitOf_f1_code) impl_PortraitOf_f1_ls := trivial
theorem impl_PortraitOf_f1_e : ∀ v, (evFn (mkCtx Go.K.Link.seat impl_PortraitOf_f1_c impl_PortraitOf_f1_tab) (sums impl_PortraitOf_f1_ls) 18 Go.Proofs.Try.f18 (encL impl_PortraitOf_f1_s.a v)).run = (impl_PortraitOf_f1_s.gen v).bind fun y => some (impl_PortraitOf_f1_s.out y) := by
  rintro ⟨set, ⟨t1, _⟩⟩
  show _ = (impl_PortraitOf_f1 set t1).bind fun y : Bool => some (impl_PortraitOf_f1_s.out y)
  simp only [impl_PortraitOf_f1, kb_ite, kb_some, kb_none, kb_bind, kb_alt]
  kernel_rfl
theorem impl_PortraitOf_f1_is : FnIs Go.Proofs.Try.prog 18 (modeOf []) (phi [impl_PortraitOf_f1_s]) := spec_is (c := impl_PortraitOf_f1_c) seatOK impl_PortraitOf_f1_t Go.Proofs.Try.func18 rfl (code := impl_PortraitOf_f1_code) rfl rfl impl_PortraitOf_f1_rs impl_PortraitOf_f1_e
noncomputable def slices_IndexFunc___impl_Angle__impl_Angle_v2_l0_s : LSum := ⟨0, ⟨[(0, .val (.sl 33 (.sl 27 (.pair (.int .i64) (.pair (.int .i64) (.unit))))) .fr), (0, .fnl 18 [] [.arg (.v (.ptr (.pair (.int .i64) (.pair (.int .i64) (.unit)))) .fr)]), (5, .val (.int .i64) .fr), (0, .val (.int .i64) .fr)], 10⟩, (.ret, ⟨[(4, .val (.int .i64) .fr)], 14⟩), [(.exit 0, ⟨[], 19⟩)], slices_IndexFunc___impl_Angle__impl_Angle_v2_l0⟩
noncomputable def slices_IndexFunc___impl_Angle__impl_Angle_v2_s : Spec := ⟨[.v (.sl 33 (.sl 27 (.pair (.int .i64) (.pair (.int .i64) (.unit))))) .fr, .fn 18 [] [.v (.ptr (.pair (.int .i64) (.pair (.int .i64) (.unit)))) .fr]], Int, fun v => slices_IndexFunc___impl_Angle__impl_Angle_v2 v.1 v.2.1.2.1, fun r => ([.v (.int .i64) .fr r], [])⟩
noncomputable def slices_IndexFunc___impl_Angle__impl_Angle_v2_ls : List LSum := [slices_IndexFunc___impl_Angle__impl_Angle_v2_l0_s]
noncomputable def slices_IndexFunc___impl_Angle__impl_Angle_v2_tab : List Row := [⟨18, [], [impl_PortraitOf_f1_s]⟩]
theorem slices_IndexFunc___impl_Angle__impl_Angle_v2_t : ∀ r, r ∈ slices_IndexFunc___impl_Angle__impl_Angle_v2_tab → RowIs Go.Proofs.Try.prog r := tab_cons (impl_PortraitOf_f1_is) (tab_nil)
theorem slices_IndexFunc___impl_Angle__impl_Angle_v2_l0_r : RoundIs (mkCtx Go.K.Link.seat slices_IndexFunc___impl_Angle__impl_Angle_v2_c slices_IndexFunc___impl_Angle__impl_Angle_v2_tab) (sums slices_IndexFunc___impl_Angle__impl_Angle_v2_ls) 0 (bodyAt (loopsOf 0 slices_IndexFunc___impl_Angle__impl_Angle_v2_code) 0) slices_IndexFunc___impl_Angle__impl_Angle_v2_l0_s := by
  rintro ⟨s, ⟨_, ⟨f, _⟩, ⟨t7, ⟨t8, _⟩⟩⟩⟩
  show _ = (slices_IndexFunc___impl_Angle__impl_Angle_v2_l0 (s, ((), (f, ()), (t7, (t8, ()))))).bind fun r : (Ctl ((List (List (Int × (Int × Unit)))) × Unit × ((Int × (Int × Unit)) × Unit) × Int × Int × Unit) ((Int × Unit) ⊕ (Unit))) => some (ctlVal slices_IndexFunc___impl_Angle__impl_Angle_v2_l0_s r)
  simp only [slices_IndexFunc___impl_Angle__impl_Angle_v2_l0, kb_ite, kb_some, kb_none, kb_bind, kb_alt]
  kernel_rfl
theorem slices_IndexFunc___impl_Angle__impl_Angle_v2_rs : RoundsOK (mkCtx Go.K.Link.seat slices_IndexFunc___impl_Angle__impl_Angle_v2_c slices_IndexFunc___impl_Angle__impl_Angle_v2_tab) (sums slices_IndexFunc___impl_Angle__impl_Angle_v2_ls) (loopsOf 0 slices_IndexFunc___impl_Angle__impl_Angle_v2_code) slices_IndexFunc___impl_Angle__impl_Angle_v2_ls := ⟨⟨rfl, rfl, slices_IndexFunc___impl_Angle__impl_Angle_v2_l0_r⟩, trivial⟩
theorem slices_IndexFunc___impl_Angle__impl_Angle_v2_e : ∀ v, (evFn (mkCtx Go.K.Link.seat slices_IndexFunc___impl_Angle__impl_Angle_v2_c slices_IndexFunc___impl_Angle__impl_Angle_v2_tab) (sums slices_IndexFunc___impl_Angle__impl_Angle_v2_ls) 38 Go.Proofs.Try.f38 (encL slices_IndexFunc___impl_Angle__impl_Angle_v2_s.a v)).run = (slices_IndexFunc___impl_Angle__impl_Angle_v2_s.gen v).bind fun y => some (slices_IndexFunc___impl_Angle__impl_Angle_v2_s.out y) := by
  rintro ⟨s, ⟨⟨_, ⟨f_0, _⟩⟩, _⟩⟩
  show _ = (slices_IndexFunc___impl_Angle__impl_Angle_v2 s f_0).bind fun y : Int => some (slices_IndexFunc___impl_Angle__impl_Angle_v2_s.out y)
  simp only [slices_IndexFunc___impl_Angle__impl_Angle_v2, kb_ite, kb_some, kb_none, kb_bind, kb_alt]
  kernel_rfl
theorem slices_IndexFunc___impl_Angle__impl_Angle_v2_is : FnIs Go.Proofs.Try.prog 38 (modeOf []) (phi [slices_IndexFunc___impl_Angle__impl_Angle_v2_s]) := spec_is (c := slices_IndexFunc___impl_Angle__impl_Angle_v2_c) seatOK slices_IndexFunc___impl_Angle__impl_Angle_v2_t Go.Proofs.Try.func38 rfl (code := slices_IndexFunc___impl_Angle__impl_Angle_v2_code) rfl rfl slices_IndexFunc___impl_Angle__impl_Angle_v2_rs slices_IndexFunc___impl_Angle__impl_Angle_v2_e
noncomputable def slices_ContainsFunc___impl_Angle__impl_Angle_v2_s : Spec := ⟨[.v (.sl 33 (.sl 27 (.pair (.int .i64) (.pair (.int .i64) (.unit))))) .fr, .fn 18 [] [.v (.ptr (.pair (.int .i64) (.pair (.int .i64) (.unit)))) .fr]], Bool, fun v => slices_ContainsFunc___impl_Angle__impl_Angle_v2 v.1 v.2.1.2.1, fun r => ([.v (.bool) .fr r], [])⟩
noncomputable def slices_ContainsFunc___impl_Angle__impl_Angle_v2_ls : List LSum := []
noncomputable def slices_ContainsFunc___impl_Angle__impl_Angle_v2_tab : List Row := [⟨38, [], [slices_IndexFunc___impl_Angle__impl_Angle_v2_s]⟩]
theorem slices_ContainsFunc___impl_Angle__impl_Angle_v2_t : ∀ r, r ∈ slices_ContainsFunc___impl_Angle__impl_Angle_v2_tab → RowIs Go.Proofs.Try.prog r := tab_cons (slices_IndexFunc___impl_Angle__impl_Angle_v2_is) (tab_nil)
theorem slices_ContainsFunc___impl_Angle__impl_Angle_v2_rs : RoundsOK (mkCtx Go.K.Link.seat slices_ContainsFunc___impl_Angle__impl_Angle_v2_c slices_ContainsFunc___impl_Angle__impl_Angle_v2_tab) (sums slices_ContainsFunc___impl_Angle__impl_Angle_v2_ls) (loopsOf 0 slices_ContainsFunc___impl_Angle__impl_Angle_v2_code) slices_ContainsFunc___impl_Angle__impl_Angle_v2_ls := trivial
theorem slices_ContainsFunc___impl_Angle__impl_Angle_v2_e : ∀ v, (evFn (mkCtx Go.K.Link.seat slices_ContainsFunc___impl_Angle__impl_Angle_v2_c slices_ContainsFunc___impl_Angle__impl_Angle_v2_tab) (sums slices_ContainsFunc___impl_Angle__impl_Angle_v2_ls) 17 Go.Proofs.Try.f17 (encL slices_ContainsFunc___impl_Angle__impl_Angle_v2_s.a v)).run = (slices_ContainsFunc___impl_Angle__impl_Angle_v2_s.gen v).bind fun y => some (slices_ContainsFunc___impl_Angle__impl_Angle_v2_s.out y) := by
  rintro ⟨s, ⟨⟨_, ⟨f_0, _⟩⟩, _⟩⟩
  show _ = (slices_ContainsFunc___impl_Angle__impl_Angle_v2 s f_0).bind fun y : Bool => some (slices_ContainsFunc___impl_Angle__impl_Angle_v2_s.out y)
  simp only [slices_ContainsFunc___impl_Angle__impl_Angle_v2, kb_ite, kb_some, kb_none, kb_bind, kb_alt]
  kernel_rfl
theorem slices_ContainsFunc___impl_Angle__impl_Angle_v2_is : FnIs Go.Proofs.Try.prog 17 (modeOf []) (phi [slices_ContainsFunc___impl_Angle__impl_Angle_v2_s]) := spec_is (c := slices_ContainsFunc___impl_Angle__impl_Angle_v2_c) seatOK slices_ContainsFunc___impl_Angle__impl_Angle_v2_t Go.Proofs.Try.func17 rfl (code := slices_ContainsFunc___impl_Angle__impl_Angle_v2_code) rfl rfl slices_ContainsFunc___impl_Angle__impl_Angle_v2_rs slices_ContainsFunc___impl_Angle__impl_Angle_v2_e
noncomputable def impl_hang_code : Code := (Go.Proofs.Try.f20.body).getD .skip
def impl_hang_c : Cfg := ⟨20, [], [[1, 5, 6, 12, 51], [5, 12, 51], [4, 55], [], [], [], [1, 5, 6, 12, 19, 20, 21, 51], [1, 5, 6, 12, 51], [4, 55], [], [], [], [1, 5, 6, 8, 12, 19, 20, 21, 25, 26, 51], [1, 5, 6, 12, 19, 20, 21, 51], [4, 55]], [], [], []⟩
noncomputable def impl_hang_l2_s : LSum := ⟨4, ⟨[(1, .val (.sl 43 (.arr 2 (.pair (.int .i64) (.pair (.int .i64) (.unit))))) .fr), (3, .val (.sl 27 (.pair (.int .i64) (.pair (.int .i64) (.unit)))) (.own .fr)), (0, .val (.int .i64) .fr), (1, .val (.ptr (.arr 2 (.pair (.int .i64) (.pair (.int .i64) (.unit))))) (.own .fr)), (10, .val (.sl 43 (.arr 2 (.pair (.int .i64) (.pair (.int .i64) (.unit))))) .fr), (0, .val (.int .i64) .fr), (0, .val (.int .i64) .fr), (3, .val (.arr 2 (.pair (.int .i64) (.pair (.int .i64) (.unit)))) .fr), (0, .val (.int .i64) .fr)], 29⟩, (.exit 4, ⟨[(1, .val (.sl 43 (.arr 2 (.pair (.int .i64) (.pair (.int .i64) (.unit))))) .fr), (3, .val (.sl 27 (.pair (.int .i64) (.pair (.int .i64) (.unit)))) (.own .fr)), (0, .val (.int .i64) .fr), (12, .val (.sl 43 (.arr 2 (.pair (.int .i64) (.pair (.int .i64) (.unit))))) .fr), (0, .val (.int .i64) .fr), (0, .val (.int .i64) .fr)], 34⟩), [], impl_hang_l2⟩
noncomputable def impl_hang_l1_s : LSum := ⟨2, ⟨[(1, .val (.sl 43 (.arr 2 (.pair (.int .i64) (.pair (.int .i64) (.unit))))) .fr), (3, .val (.sl 27 (.pair (.int .i64) (.pair (.int .i64) (.unit)))) (.own .fr)), (0, .val (.int .i64) .fr), (12, .val (.sl 43 (.arr 2 (.pair (.int .i64) (.pair (.int .i64) (.unit))))) .fr), (0, .val (.int .i64) .fr), (0, .val (.int .i64) .fr)], 34⟩, (.exit 2, ⟨[(1, .val (.sl 43 (.arr 2 (.pair (.int .i64) (.pair (.int .i64) (.unit))))) .fr), (3, .val (.sl 27 (.pair (.int .i64) (.pair (.int .i64) (.unit)))) (.own .fr)), (0, .val (.int .i64) .fr)], 49⟩), [], impl_hang_l1⟩
noncomputable def impl_hang_l0_s : LSum := ⟨0, ⟨[(1, .val (.sl 43 (.arr 2 (.pair (.int .i64) (.pair (.int .i64) (.unit))))) .fr), (3, .val (.sl 27 (.pair (.int .i64) (.pair (.int .i64) (.unit)))) (.own .fr)), (0, .val (.int .i64) .fr)], 49⟩, (.exit 0, ⟨[(5, .val (.sl 27 (.pair (.int .i64) (.pair (.int .i64) (.unit)))) (.own .fr))], 50⟩), [], impl_hang_l0⟩
noncomputable def impl_sorted_code : Code := (Go.Proofs.Try.f39.body).getD .skip
def impl_sorted_c : Cfg := ⟨39, [], [], [], [], []⟩
noncomputable def slices_Values__impl_Angle_impl_Angle_code : Code := (Go.Proofs.Try.f56.body).getD .skip
def slices_Values__impl_Angle_impl_Angle_c : Cfg := ⟨56, [], [], [], [], []⟩
noncomputable def slices_Values__impl_Angle_impl_Angle_s : Spec := ⟨[.v (.sl 27 (.pair (.int .i64) (.pair (.int .i64) (.unit)))) .fr], (List (Int × (Int × Unit))), fun v => slices_Values__impl_Angle_impl_Angle v.1, fun r => ([.fn 65 [] [.v (.ptr (.sl 27 (.pair (.int .i64) (.pair (.int .i64) (.unit))))) .fr r]], [])⟩
noncomputable def slices_Values__impl_Angle_impl_Angle_ls : List LSum := []
noncomputable def slices_Values__impl_Angle_impl_Angle_tab : List Row := []
theorem slices_Values__impl_Angle_impl_Angle_t : ∀ r, r ∈ slices_Values__impl_Angle_impl_Angle_tab → RowIs Go.Proofs.Try.prog r := tab_nil
theorem slices_Values__impl_Angle_impl_Angle_rs : RoundsOK (mkCtx Go.K.Link.seat slices_Values__impl_Angle_impl_Angle_c slices_Values__impl_Angle_impl_Angle_tab) (sums slices_Values__impl_Angle_impl_Angle_ls) (loopsOf 0 slices_Values__impl_Angle_impl_Angle_code) slices_Values__impl_Angle_impl_Angle_ls := trivial
theorem slices_Values__impl_Angle_impl_Angle_e : ∀ v, (evFn (mkCtx Go.K.Link.seat slices_Values__impl_Angle_impl_Angle_c slices_Values__impl_Angle_impl_Angle_tab) (sums slices_Values__impl_Angle_impl_Angle_ls) 56 Go.Proofs.Try.f56 (encL slices_Values__impl_Angle_impl_Angle_s.a v)).run = (slices_Values__impl_Angle_impl_Angle_s.gen v).bind fun y => some (slices_Values__impl_Angle_impl_Angle_s.out y) := by
  rintro ⟨s, _⟩
  show _ = (slices_Values__impl_Angle_impl_Angle s).bind fun y : (List (Int × (Int × Unit))) => some (slices_Values__impl_Angle_impl_Angle_s.out y)
  simp only [slices_Values__impl_Angle_impl_Angle, kb_ite, kb_some, kb_none, kb_bind, kb_alt]
  kernel_rfl
theorem slices_Values__impl_Angle_impl_Angle_is : FnIs Go.Proofs.Try.prog 56 (modeOf []) (phi [slices_Values__impl_Angle_impl_Angle_s]) := spec_is (c := slices_Values__impl_Angle_impl_Angle_c) seatOK slices_Values__impl_Angle_impl_Angle_t Go.Proofs.Try.func56 rfl (code := slices_Values__impl_Angle_impl_Angle_code) rfl rfl slices_Values__impl_Angle_impl_Angle_rs slices_Values__impl_Angle_impl_Angle_e
noncomputable def slices_SortedFunc_impl_Angle_code : Code := (Go.Proofs.Try.f55.body).getD .skip
def slices_SortedFunc_impl_Angle_c : Cfg := ⟨55, [], [], [], [], []⟩
noncomputable def slices_Collect_impl_Angle_s : Spec := ⟨[.fn 65 [] [.v (.ptr (.sl 27 (.pair (.int .i64) (.pair (.int .i64) (.unit))))) .fr]], List (Int × (Int × Unit)), fun v => slices_Collect_impl_Angle v.1.2.1, fun r => ([.v (.sl 27 (.pair (.int .i64) (.pair (.int .i64) (.unit)))) (.own .fr) r], [])⟩
theorem slices_Collect_impl_Angle_is : FnIs Go.Proofs.Try.prog 63 (modeOf []) (phi [slices_Collect_impl_Angle_s]) := collect_is ⟨Go.Proofs.Try.underlying33, by kernel_rfl, Go.Proofs.Try.isAgg33, Go.Proofs.Try.sizeOf33, Go.Proofs.Try.isAgg27, Go.Proofs.Try.sizeOf27, Go.Proofs.Try.zeroValue27⟩ (by decide) Go.Proofs.Try.underlying3 Go.Proofs.Try.underlying4 Go.Proofs.Try.func63 rfl rfl rfl rfl Go.Proofs.Try.func76 rfl rfl rfl rfl Go.Proofs.Try.func65 rfl rfl rfl rfl
noncomputable def impl_Angle_compare_code : Code := (Go.Proofs.Try.f57.body).getD .skip
def impl_Angle_compare_c : Cfg := ⟨57, [], [], [], [], []⟩
noncomputable def cmp_Compare_int64_code : Code := (Go.Proofs.Try.f66.body).getD .skip
def cmp_Compare_int64_c : Cfg := ⟨66, [], [], [], [], []⟩
noncomputable def cmp_isNaN_int64_code : Code := (Go.Proofs.Try.f79.body).getD .skip
def cmp_isNaN_int64_c : Cfg := ⟨79, [], [], [], [], []⟩
noncomputable def cmp_isNaN_int64_s : Spec := ⟨[.v (.int .i64) .fr], Bool, fun v => cmp_isNaN_int64 v.1, fun r => ([.v (.bool) .fr r], [])⟩
noncomputable def cmp_isNaN_int64_ls : List LSum := []
noncomputable def cmp_isNaN_int64_tab : List Row := []
theorem cmp_isNaN_int64_t : ∀ r, r ∈ cmp_isNaN_int64_tab → RowIs Go.Proofs.Try.prog r := tab_nil
theorem cmp_isNaN_int64_rs : RoundsOK (mkCtx Go.K.Link.seat cmp_isNaN_int64_c cmp_isNaN_int64_tab) (sums cmp_isNaN_int64_ls) (loopsOf 0 cmp_isNaN_int64_code) cmp_isNaN_int64_ls := trivial
theorem cmp_isNaN_int64_e : ∀ v, (evFn (mkCtx Go.K.Link.seat cmp_isNaN_int64_c cmp_isNaN_int64_tab) (sums cmp_isNaN_int64_ls) 79 Go.Proofs.Try.f79 (encL cmp_isNaN_int64_s.a v)).run = (cmp_isNaN_int64_s.gen v).bind fun y => some (cmp_isNaN_int64_s.out y) := by
  rintro ⟨x, _⟩
  show _ = (cmp_isNaN_int64 x).bind fun y : Bool => some (cmp_isNaN_int64_s.out y)
  simp only [cmp_isNaN_int64, kb_ite, kb_some, kb_none, kb_bind, kb_alt]
  kernel_rfl
theorem cmp_isNaN_int64_is : FnIs Go.Proofs.Try.prog 79 (modeOf []) (phi [cmp_isNaN_int64_s]) := spec_is (c := cmp_isNaN_int64_c) seatOK cmp_isNaN_int64_t Go.Proofs.Try.func79 rfl (code := cmp_isNaN_int64_code) rfl rfl cmp_isNaN_int64_rs cmp_isNaN_int64_e
noncomputable def cmp_Compare_int64_s : Spec := ⟨[.v (.int .i64) .fr, .v (.int .i64) .fr], Int, fun v => cmp_Compare_int64 v.1 v.2.1, fun r => ([.v (.int .i64) .fr r], [])⟩
noncomputable def cmp_Compare_int64_ls : List LSum := []
noncomputable def cmp_Compare_int64_tab : List Row := [⟨79, [], [cmp_isNaN_int64_s]⟩]
theorem cmp_Compare_int64_t : ∀ r, r ∈ cmp_Compare_int64_tab → RowIs Go.Proofs.Try.prog r := tab_cons (cmp_isNaN_int64_is) (tab_nil)
theorem cmp_Compare_int64_rs : RoundsOK (mkCtx Go.K.Link.seat cmp_Compare_int64_c cmp_Compare_int64_tab) (sums cmp_Compare_int64_ls) (loopsOf 0 cmp_Compare_int64_code) cmp_Compare_int64_ls := trivial
theorem cmp_Compare_int64_e : ∀ v, (evFn (mkCtx Go.K.Link.seat cmp_Compare_int64_c cmp_Compare_int64_tab) (sums cmp_Compare_int64_ls) 66 Go.Proofs.Try.f66 (encL cmp_Compare_int64_s.a v)).run = (cmp_Compare_int64_s.gen v).bind fun y => some (cmp_Compare_int64_s.out y) := by
  rintro ⟨x, ⟨y, _⟩⟩
  show _ = (cmp_Compare_int64 x y).bind fun y : Int => some (cmp_Compare_int64_s.out y)
  simp only [cmp_Compare_int64, kb_ite, kb_some, kb_none, kb_bind, kb_alt]
  kernel_rfl
theorem cmp_Compare_int64_is : FnIs Go.Proofs.Try.prog 66 (modeOf []) (phi [cmp_Compare_int64_s]) := spec_is (c := cmp_Compare_int64_c) seatOK cmp_Compare_int64_t Go.Proofs.Try.func66 rfl (code := cmp_Compare_int64_code) rfl rfl cmp_Compare_int64_rs cmp_Compare_int64_e
noncomputable def impl_Angle_compare_s : Spec := ⟨[.v (.pair (.int .i64) (.pair (.int .i64) (.unit))) .fr, .v (.pair (.int .i64) (.pair (.int .i64) (.unit))) .fr], Int, fun v => impl_Angle_compare v.1 v.2.1, fun r => ([.v (.int .i64) .fr r], [])⟩
noncomputable def impl_Angle_compare_ls : List LSum := []
noncomputable def impl_Angle_compare_tab : List Row := [⟨66, [], [cmp_Compare_int64_s]⟩]
theorem impl_Angle_compare_t : ∀ r, r ∈ impl_Angle_compare_tab → RowIs Go.Proofs.Try.prog r := tab_cons (cmp_Compare_int64_is) (tab_nil)
theorem impl_Angle_compare_rs : RoundsOK (mkCtx Go.K.Link.seat impl_Angle_compare_c impl_Angle_compare_tab) (sums impl_Angle_compare_ls) (loopsOf 0 impl_Angle_compare_code) impl_Angle_compare_ls := trivial
theorem impl_Angle_compare_e : ∀ v, (evFn (mkCtx Go.K.Link.seat impl_Angle_compare_c impl_Angle_compare_tab) (sums impl_Angle_compare_ls) 57 Go.Proofs.Try.f57 (encL impl_Angle_compare_s.a v)).run = (impl_Angle_compare_s.gen v).bind fun y => some (impl_Angle_compare_s.out y) := by
  rintro ⟨a, ⟨b, _⟩⟩
  show _ = (impl_Angle_compare a b).bind fun y : Int => some (impl_Angle_compare_s.out y)
  simp only [impl_Angle_compare, kb_ite, kb_some, kb_none, kb_bind, kb_alt]
  kernel_rfl
theorem impl_Angle_compare_is : FnIs Go.Proofs.Try.prog 57 (modeOf []) (phi [impl_Angle_compare_s]) := spec_is (c := impl_Angle_compare_c) seatOK impl_Angle_compare_t Go.Proofs.Try.func57 rfl (code := impl_Angle_compare_code) rfl rfl impl_Angle_compare_rs impl_Angle_compare_e
noncomputable def slices_SortFunc__impl_Angle_impl_Angle_s : Spec := ⟨[.v (.sl 27 (.pair (.int .i64) (.pair (.int .i64) (.unit)))) (.own .fr), .fn 57 [] []], List (Int × (Int × Unit)), fun v => slices_SortFunc__impl_Angle_impl_Angle v.1, fun r => ([], [.v (.sl 27 (.pair (.int .i64) (.pair (.int .i64) (.unit)))) (.own .fr) r])⟩
theorem slices_SortFunc__impl_Angle_impl_Angle_is : FnIs Go.Proofs.Try.prog 64 (modeOf [.mut]) (phi [slices_SortFunc__impl_Angle_impl_Angle_s]) := sortFunc_is (cs := []) (cf := fun c x y => impl_Angle_compare x y ) Go.Proofs.Try.sortL64 ⟨_, Go.Proofs.Try.func64, rfl, rfl⟩ (T := 27) (e := (.pair (.int .i64) (.pair (.int .i64) (.unit)))) rfl rfl Go.Proofs.Try.isAgg27 Go.Proofs.Try.sizeOf27 impl_Angle_compare_is (fun c x y r h => by
  have e : (phi [impl_Angle_compare_s] (.v (.pair (.int .i64) (.pair (.int .i64) (.unit))) .fr x :: .v (.pair (.int .i64) (.pair (.int .i64) (.unit))) .fr y :: encL [] c)).run = (impl_Angle_compare x y ).bind fun r => some ([.v (.int .i64) .fr r], []) := by kernel_rfl
  rw [e]
  show (impl_Angle_compare x y ).bind _ = _
  rw [show impl_Angle_compare x y  = some r from h]
  rfl)
noncomputable def slices_SortedFunc_impl_Angle_s : Spec := ⟨[.fn 65 [] [.v (.ptr (.sl 27 (.pair (.int .i64) (.pair (.int .i64) (.unit))))) .fr], .fn 57 [] []], (List (Int × (Int × Unit))), fun v => slices_SortedFunc_impl_Angle v.1.2.1, fun r => ([.v (.sl 27 (.pair (.int .i64) (.pair (.int .i64) (.unit)))) (.own .fr) r], [])⟩
noncomputable def slices_SortedFunc_impl_Angle_ls : List LSum := []
noncomputable def slices_SortedFunc_impl_Angle_tab : List Row := [⟨64, [.mut], [slices_SortFunc__impl_Angle_impl_Angle_s]⟩, ⟨63, [], [slices_Collect_impl_Angle_s]⟩]
theorem slices_SortedFunc_impl_Angle_t : ∀ r, r ∈ slices_SortedFunc_impl_Angle_tab → RowIs Go.Proofs.Try.prog r := tab_cons (slices_SortFunc__impl_Angle_impl_Angle_is) (tab_cons (slices_Collect_impl_Angle_is) (tab_nil))
theorem slices_SortedFunc_impl_Angle_rs : RoundsOK (mkCtx Go.K.Link.seat slices_SortedFunc_impl_Angle_c slices_SortedFunc_impl_Angle_tab) (sums slices_SortedFunc_impl_Angle_ls) (loopsOf 0 slices_SortedFunc_impl_Angle_code) slices_SortedFunc_impl_Angle_ls := trivial
theorem slices_SortedFunc_impl_Angle_e : ∀ v, (evFn (mkCtx Go.K.Link.seat slices_SortedFunc_impl_Angle_c slices_SortedFunc_impl_Angle_tab) (sums slices_SortedFunc_impl_Angle_ls) 55 Go.Proofs.Try.f55 (encL slices_SortedFunc_impl_Angle_s.a v)).run = (slices_SortedFunc_impl_Angle_s.gen v).bind fun y => some (slices_SortedFunc_impl_Angle_s.out y) := by
  rintro ⟨⟨_, ⟨seq_0, _⟩⟩, ⟨⟨_, _⟩, _⟩⟩
  show _ = (slices_SortedFunc_impl_Angle seq_0).bind fun y : (List (Int × (Int × Unit))) => some (slices_SortedFunc_impl_Angle_s.out y)
  simp only [slices_SortedFunc_impl_Angle, kb_ite, kb_some, kb_none, kb_bind, kb_alt]
  kernel_rfl
theorem slices_SortedFunc_impl_Angle_is : FnIs Go.Proofs.Try.prog 55 (modeOf []) (phi [slices_SortedFunc_impl_Angle_s]) := spec_is (c := slices_SortedFunc_impl_Angle_c) seatOK slices_SortedFunc_impl_Angle_t Go.Proofs.Try.func55 rfl (code := slices_SortedFunc_impl_Angle_code) rfl rfl slices_SortedFunc_impl_Angle_rs slices_SortedFunc_impl_Angle_e
noncomputable def slices_Compact__impl_Angle_impl_Angle_code : Code := (Go.Proofs.Try.f54.body).getD .skip
def slices_Compact__impl_Angle_impl_Angle_c : Cfg := ⟨54, [.own], [[0, 3, 9, 57, 59, 60], [0, 9, 57, 59], [0, 2, 9, 57, 59, 60], [], [], [], [0, 3, 4, 5, 9, 26, 28, 60], [0, 3, 9, 60], [0, 2, 9, 57, 59, 60]], [], [], []⟩
noncomputable def slices_Compact__impl_Angle_impl_Angle_l1_s : LSum := ⟨2, ⟨[(0, .val (.sl 27 (.pair (.int .i64) (.pair (.int .i64) (.unit)))) (.own .fr)), (2, .val (.int .i64) .fr), (0, .win 0 []), (0, .val (.int .i64) .fr), (20, .sref 0 []), (1, .win 0 [])], 32⟩, (.exit 2, ⟨[(0, .val (.sl 27 (.pair (.int .i64) (.pair (.int .i64) (.unit)))) (.own .fr)), (2, .val (.int .i64) .fr)], 57⟩), [], slices_Compact__impl_Angle_impl_Angle_l1⟩
noncomputable def slices_Compact__impl_Angle_impl_Angle_l0_s : LSum := ⟨0, ⟨[(0, .val (.sl 27 (.pair (.int .i64) (.pair (.int .i64) (.unit)))) (.own .fr)), (2, .val (.int .i64) .fr)], 57⟩, (.ret, ⟨[(0, .val (.sl 27 (.pair (.int .i64) (.pair (.int .i64) (.unit)))) (.own .fr)), (1, .win 0 []), (54, .sref 0 []), (1, .win 0 [])], 1⟩), [(.exit 0, ⟨[(0, .val (.sl 27 (.pair (.int .i64) (.pair (.int .i64) (.unit)))) (.own .fr))], 60⟩)], slices_Compact__impl_Angle_impl_Angle_l0⟩
noncomputable def slices_Compact__impl_Angle_impl_Angle_s : Spec := ⟨[.v (.sl 27 (.pair (.int .i64) (.pair (.int .i64) (.unit)))) (.own .fr)], (List (Int × (Int × Unit))), fun v => slices_Compact__impl_Angle_impl_Angle v.1, fun r => ([.v (.sl 27 (.pair (.int .i64) (.pair (.int .i64) (.unit)))) (.own .fr) r], [])⟩
noncomputable def slices_Compact__impl_Angle_impl_Angle_ls : List LSum := [slices_Compact__impl_Angle_impl_Angle_l0_s, slices_Compact__impl_Angle_impl_Angle_l1_s]
noncomputable def slices_Compact__impl_Angle_impl_Angle_tab : List Row := []
theorem slices_Compact__impl_Angle_impl_Angle_t : ∀ r, r ∈ slices_Compact__impl_Angle_impl_Angle_tab → RowIs Go.Proofs.Try.prog r := tab_nil
theorem slices_Compact__impl_Angle_impl_Angle_l0_r : RoundIs (mkCtx Go.K.Link.seat slices_Compact__impl_Angle_impl_Angle_c slices_Compact__impl_Angle_impl_Angle_tab) (sums slices_Compact__impl_Angle_impl_Angle_ls) 0 (bodyAt (loopsOf 0 slices_Compact__impl_Angle_impl_Angle_code) 0) slices_Compact__impl_Angle_impl_Angle_l0_s := by
  rintro ⟨s, ⟨k, _⟩⟩
  show _ = (slices_Compact__impl_Angle_impl_Angle_l0 (s, (k, ()))).bind fun r : (Ctl ((List (Int × (Int × Unit))) × Int × Unit) (((List (Int × (Int × Unit))) × Nat × Nat × Nat × Nat × Unit) ⊕ ((List (Int × (Int × Unit))) × Unit))) => some (ctlVal slices_Compact__impl_Angle_impl_Angle_l0_s r)
  simp only [slices_Compact__impl_Angle_impl_Angle_l0, kb_ite, kb_some, kb_none, kb_bind, kb_alt]
  kernel_rfl
theorem slices_Compact__impl_Angle_impl_Angle_l1_r : RoundIs (mkCtx Go.K.Link.seat slices_Compact__impl_Angle_impl_Angle_c slices_Compact__impl_Angle_impl_Angle_tab) (sums slices_Compact__impl_Angle_impl_Angle_ls) 2 (bodyAt (loopsOf 0 slices_Compact__impl_Angle_impl_Angle_code) 1) slices_Compact__impl_Angle_impl_Angle_l1_s := by
  rintro ⟨s, ⟨k, ⟨s2_0, s2_1, ⟨k2, ⟨t28_0, t28_1, _⟩⟩⟩⟩⟩
  show _ = (slices_Compact__impl_Angle_impl_Angle_l1 (s, (k, (s2_0, s2_1, (k2, (t28_0, t28_1, ())))))).bind fun r : (Ctl ((List (Int × (Int × Unit))) × Int × Nat × Nat × Int × Nat × Nat × Unit) (((List (Int × (Int × Unit))) × Int × Unit))) => some (ctlVal slices_Compact__impl_Angle_impl_Angle_l1_s r)
  simp only [slices_Compact__impl_Angle_impl_Angle_l1, kb_ite, kb_some, kb_none, kb_bind, kb_alt]
  kernel_rfl
theorem slices_Compact__impl_Angle_impl_Angle_rs : RoundsOK (mkCtx Go.K.Link.seat slices_Compact__impl_Angle_impl_Angle_c slices_Compact__impl_Angle_impl_Angle_tab) (sums slices_Compact__impl_Angle_impl_Angle_ls) (loopsOf 0 slices_Compact__impl_Angle_impl_Angle_code) slices_Compact__impl_Angle_impl_Angle_ls := ⟨⟨rfl, rfl, slices_Compact__impl_Angle_impl_Angle_l0_r⟩, ⟨⟨rfl, rfl, slices_Compact__impl_Angle_impl_Angle_l1_r⟩, trivial⟩⟩
theorem slices_Compact__impl_Angle_impl_Angle_e : ∀ v, (evFn (mkCtx Go.K.Link.seat slices_Compact__impl_Angle_impl_Angle_c slices_Compact__impl_Angle_impl_Angle_tab) (sums slices_Compact__impl_Angle_impl_Angle_ls) 54 Go.Proofs.Try.f54 (encL slices_Compact__impl_Angle_impl_Angle_s.a v)).run = (slices_Compact__impl_Angle_impl_Angle_s.gen v).bind fun y => some (slices_Compact__impl_Angle_impl_Angle_s.out y) := by
  rintro ⟨s, _⟩
  show _ = (slices_Compact__impl_Angle_impl_Angle s).bind fun y : (List (Int × (Int × Unit))) => some (slices_Compact__impl_Angle_impl_Angle_s.out y)
  simp only [slices_Compact__impl_Angle_impl_Angle, kb_ite, kb_some, kb_none, kb_bind, kb_alt]
  kernel_rfl
theorem slices_Compact__impl_Angle_impl_Angle_is : FnIs Go.Proofs.Try.prog 54 (modeOf [.own]) (phi [slices_Compact__impl_Angle_impl_Angle_s]) := spec_is (c := slices_Compact__impl_Angle_impl_Angle_c) seatOK slices_Compact__impl_Angle_impl_Angle_t Go.Proofs.Try.func54 rfl (code := slices_Compact__impl_Angle_impl_Angle_code) rfl rfl slices_Compact__impl_Angle_impl_Angle_rs slices_Compact__impl_Angle_impl_Angle_e
noncomputable def impl_sorted_s : Spec := ⟨[.v (.sl 27 (.pair (.int .i64) (.pair (.int .i64) (.unit)))) .fr], (List (Int × (Int × Unit))), fun v => impl_sorted v.1, fun r => ([.v (.sl 27 (.pair (.int .i64) (.pair (.int .i64) (.unit)))) (.own .fr) r], [])⟩
noncomputable def impl_sorted_ls : List LSum := []
noncomputable def impl_sorted_tab : List Row := [⟨54, [.own], [slices_Compact__impl_Angle_impl_Angle_s]⟩, ⟨55, [], [slices_SortedFunc_impl_Angle_s]⟩, ⟨56, [], [slices_Values__impl_Angle_impl_Angle_s]⟩]
theorem impl_sorted_t : ∀ r, r ∈ impl_sorted_tab → RowIs Go.Proofs.Try.prog r := tab_cons (slices_Compact__impl_Angle_impl_Angle_is) (tab_cons (slices_SortedFunc_impl_Angle_is) (tab_cons (slices_Values__impl_Angle_impl_Angle_is) (tab_nil)))
theorem impl_sorted_rs : RoundsOK (mkCtx Go.K.Link.seat impl_sorted_c impl_sorted_tab) (sums impl_sorted_ls) (loopsOf 0 impl_sorted_code) impl_sorted_ls := trivial
theorem impl_sorted_e : ∀ v, (evFn (mkCtx Go.K.Link.seat impl_sorted_c impl_sorted_tab) (sums impl_sorted_ls) 39 Go.Proofs.Try.f39 (encL impl_sorted_s.a v)).run = (impl_sorted_s.gen v).bind fun y => some (impl_sorted_s.out y) := by
  rintro ⟨list, _⟩
  show _ = (impl_sorted list).bind fun y : (List (Int × (Int × Unit))) => some (impl_sorted_s.out y)
  simp only [impl_sorted, kb_ite, kb_some, kb_none, kb_bind, kb_alt]
  kernel_rfl
theorem impl_sorted_is : FnIs Go.Proofs.Try.prog 39 (modeOf []) (phi [impl_sorted_s]) := spec_is (c := impl_sorted_c) seatOK impl_sorted_t Go.Proofs.Try.func39 rfl (code := impl_sorted_code) rfl rfl impl_sorted_rs impl_sorted_e
noncomputable def impl_hang_s : Spec := ⟨[.v (.pair (.int .i64) (.pair (.int .i64) (.unit))) .fr, .v (.sl 43 (.arr 2 (.pair (.int .i64) (.pair (.int .i64) (.unit))))) .fr], (List (Int × (Int × Unit))), fun v => impl_hang v.1 v.2.1, fun r => ([.v (.sl 27 (.pair (.int .i64) (.pair (.int .i64) (.unit)))) (.own .fr) r], [])⟩
noncomputable def impl_hang_ls : List LSum := [impl_hang_l0_s, impl_hang_l1_s, impl_hang_l2_s]
noncomputable def impl_hang_tab : List Row := [⟨19, [], [slices_Contains__impl_Angle_impl_Angle_s]⟩, ⟨39, [], [impl_sorted_s]⟩]
theorem impl_hang_t : ∀ r, r ∈ impl_hang_tab → RowIs Go.Proofs.Try.prog r := tab_cons (slices_Contains__impl_Angle_impl_Angle_is) (tab_cons (impl_sorted_is) (tab_nil))
theorem impl_hang_l0_r : RoundIs (mkCtx Go.K.Link.seat impl_hang_c impl_hang_tab) (sums impl_hang_ls) 0 (bodyAt (loopsOf 0 impl_hang_code) 0) impl_hang_l0_s := by
  rintro ⟨pairs, ⟨out, ⟨i, _⟩⟩⟩
  show _ = (impl_hang_l0 (pairs, (out, (i, ())))).bind fun r : (Ctl ((List (List (Int × (Int × Unit)))) × (List (Int × (Int × Unit))) × Int × Unit) (((List (Int × (Int × Unit))) × Unit))) => some (ctlVal impl_hang_l0_s r)
  simp only [impl_hang_l0, kb_ite, kb_some, kb_none, kb_bind, kb_alt]
  kernel_rfl
theorem impl_hang_l1_r : RoundIs (mkCtx Go.K.Link.seat impl_hang_c impl_hang_tab) (sums impl_hang_ls) 2 (bodyAt (loopsOf 0 impl_hang_code) 1) impl_hang_l1_s := by
  rintro ⟨pairs, ⟨out, ⟨i, ⟨t19, ⟨t20, ⟨t21, _⟩⟩⟩⟩⟩⟩
  show _ = (impl_hang_l1 (pairs, (out, (i, (t19, (t20, (t21, ()))))))).bind fun r : (Ctl ((List (List (Int × (Int × Unit)))) × (List (Int × (Int × Unit))) × Int × (List (List (Int × (Int × Unit)))) × Int × Int × Unit) (((List (List (Int × (Int × Unit)))) × (List (Int × (Int × Unit))) × Int × Unit))) => some (ctlVal impl_hang_l1_s r)
  simp only [impl_hang_l1, kb_ite, kb_some, kb_none, kb_bind, kb_alt]
  kernel_rfl
theorem impl_hang_l2_r : RoundIs (mkCtx Go.K.Link.seat impl_hang_c impl_hang_tab) (sums impl_hang_ls) 4 (bodyAt (loopsOf 0 impl_hang_code) 2) impl_hang_l2_s := by
  rintro ⟨pairs, ⟨out, ⟨i, ⟨p, ⟨t19, ⟨t20, ⟨t21, ⟨t25, ⟨t26, _⟩⟩⟩⟩⟩⟩⟩⟩⟩
  show _ = (impl_hang_l2 (pairs, (out, (i, (p, (t19, (t20, (t21, (t25, (t26, ())))))))))).bind fun r : (Ctl ((List (List (Int × (Int × Unit)))) × (List (Int × (Int × Unit))) × Int × (List (Int × (Int × Unit))) × (List (List (Int × (Int × Unit)))) × Int × Int × (List (Int × (Int × Unit))) × Int × Unit) (((List (List (Int × (Int × Unit)))) × (List (Int × (Int × Unit))) × Int × (List (List (Int × (Int × Unit)))) × Int × Int × Unit))) => some (ctlVal impl_hang_l2_s r)
  simp only [impl_hang_l2, kb_ite, kb_some, kb_none, kb_bind, kb_alt]
  kernel_rfl
theorem impl_hang_rs : RoundsOK (mkCtx Go.K.Link.seat impl_hang_c impl_hang_tab) (sums impl_hang_ls) (loopsOf 0 impl_hang_code) impl_hang_ls := ⟨⟨rfl, rfl, impl_hang_l0_r⟩, ⟨⟨rfl, rfl, impl_hang_l1_r⟩, ⟨⟨rfl, rfl, impl_hang_l2_r⟩, trivial⟩⟩⟩
theorem impl_hang_e : ∀ v, (evFn (mkCtx Go.K.Link.seat impl_hang_c impl_hang_tab) (sums impl_hang_ls) 20 Go.Proofs.Try.f20 (encL impl_hang_s.a v)).run = (impl_hang_s.gen v).bind fun y => some (impl_hang_s.out y) := by
  rintro ⟨a, ⟨pairs, _⟩⟩
  show _ = (impl_hang a pairs).bind fun y : (List (Int × (Int × Unit))) => some (impl_hang_s.out y)
  simp only [impl_hang, kb_ite, kb_some, kb_none, kb_bind, kb_alt]
  kernel_rfl
theorem impl_hang_is : FnIs Go.Proofs.Try.prog 20 (modeOf []) (phi [impl_hang_s]) := spec_is (c := impl_hang_c) seatOK impl_hang_t Go.Proofs.Try.func20 rfl (code := impl_hang_code) rfl rfl impl_hang_rs impl_hang_e
noncomputable def impl_PortraitOf_l1_s : LSum := ⟨3, ⟨[(7, .val (.sl 27 (.pair (.int .i64) (.pair (.int .i64) (.unit)))) (.own .fr)), (5, .val (.sl 43 (.arr 2 (.pair (.int .i64) (.pair (.int .i64) (.unit))))) (.own .fr)), (1, .val (.sl 33 (.sl 27 (.pair (.int .i64) (.pair (.int .i64) (.unit))))) (.own (.own .fr))), (0, .val (.int .i64) .fr), (57, .sref 7 []), (0, .val (.int .i64) .fr), (0, .val (.int .i64) .fr)], 35⟩, (.exit 3, ⟨[(15, .val (.sl 33 (.sl 27 (.pair (.int .i64) (.pair (.int .i64) (.unit))))) (.own (.own .fr))), (0, .val (.int .i64) .fr)], 95⟩), [], impl_PortraitOf_l1⟩
noncomputable def impl_IsPortrait_code : Code := (Go.Proofs.Try.f21.body).getD .skip
def impl_IsPortrait_c : Cfg := ⟨21, [], [], [], [], []⟩
noncomputable def impl_PortraitThatFails_code : Code := (Go.Proofs.Try.f40.body).getD .skip
def impl_PortraitThatFails_c : Cfg := ⟨40, [], [], [], [], []⟩
noncomputable def slices_Concat__impl_Angle_impl_Angle_code : Code := (Go.Proofs.Try.f58.body).getD .skip
def slices_Concat__impl_Angle_impl_Angle_c : Cfg := ⟨58, [], [[0, 3, 9, 10, 11, 33], [0, 3, 33], [2, 6, 24, 33, 35], [], [], [], [0, 6, 24, 25, 26, 27, 33], [6, 24, 33], [2, 6, 24, 33, 35]], [], [], []⟩
noncomputable def slices_Concat__impl_Angle_impl_Angle_l0_s : LSum := ⟨0, ⟨[(0, .val (.sl 33 (.sl 27 (.pair (.int .i64) (.pair (.int .i64) (.unit))))) .fr), (2, .val (.int .i64) .fr), (5, .val (.sl 33 (.sl 27 (.pair (.int .i64) (.pair (.int .i64) (.unit))))) .fr), (0, .val (.int .i64) .fr), (0, .val (.int .i64) .fr)], 24⟩, (.exit 0, ⟨[(0, .val (.sl 33 (.sl 27 (.pair (.int .i64) (.pair (.int .i64) (.unit))))) .fr), (2, .val (.int .i64) .fr)], 32⟩), [], slices_Concat__impl_Angle_impl_Angle_l0⟩
noncomputable def slices_Grow__impl_Angle_impl_Angle_s : Spec := ⟨[.v (.sl 27 (.pair (.int .i64) (.pair (.int .i64) (.unit)))) (.own .fr), .v (.int .i64) .fr], List (Int × (Int × Unit)), fun v => slices_Grow__impl_Angle_impl_Angle v.1 v.2.1, fun r => ([.v (.sl 27 (.pair (.int .i64) (.pair (.int .i64) (.unit)))) (.own .fr) r], [])⟩
theorem slices_Grow__impl_Angle_impl_Angle_is : FnIs Go.Proofs.Try.prog 67 (modeOf [.own]) (phi [slices_Grow__impl_Angle_impl_Angle_s]) := grow_is (TS := 33) (TE := 27) (e := (.pair (.int .i64) (.pair (.int .i64) (.unit)))) (q := .fr) (bytes := 16) ⟨Go.Proofs.Try.underlying33, by kernel_rfl, Go.Proofs.Try.isAgg33, Go.Proofs.Try.sizeOf33, Go.Proofs.Try.sizeOf27, by decide, by decide⟩ Go.Proofs.Try.underlying3 Go.Proofs.Try.func67 rfl rfl rfl rfl
noncomputable def slices_Concat__impl_Angle_impl_Angle_l1_s : LSum := ⟨2, ⟨[(0, .val (.sl 33 (.sl 27 (.pair (.int .i64) (.pair (.int .i64) (.unit))))) .fr), (5, .val (.sl 27 (.pair (.int .i64) (.pair (.int .i64) (.unit)))) (.own .fr)), (18, .val (.sl 33 (.sl 27 (.pair (.int .i64) (.pair (.int .i64) (.unit))))) .fr), (0, .val (.int .i64) .fr), (0, .val (.int .i64) .fr)], 8⟩, (.exit 2, ⟨[(6, .val (.sl 27 (.pair (.int .i64) (.pair (.int .i64) (.unit)))) (.own .fr))], 29⟩), [], slices_Concat__impl_Angle_impl_Angle_l1⟩
noncomputable def slices_Concat__impl_Angle_impl_Angle_s : Spec := ⟨[.v (.sl 33 (.sl 27 (.pair (.int .i64) (.pair (.int .i64) (.unit))))) .fr], (List (Int × (Int × Unit))), fun v => slices_Concat__impl_Angle_impl_Angle v.1, fun r => ([.v (.sl 27 (.pair (.int .i64) (.pair (.int .i64) (.unit)))) (.own .fr) r], [])⟩
noncomputable def slices_Concat__impl_Angle_impl_Angle_ls : List LSum := [slices_Concat__impl_Angle_impl_Angle_l0_s, slices_Concat__impl_Angle_impl_Angle_l1_s]
noncomputable def slices_Concat__impl_Angle_impl_Angle_tab : List Row := [⟨67, [.own], [slices_Grow__impl_Angle_impl_Angle_s]⟩]
theorem slices_Concat__impl_Angle_impl_Angle_t : ∀ r, r ∈ slices_Concat__impl_Angle_impl_Angle_tab → RowIs Go.Proofs.Try.prog r := tab_cons (slices_Grow__impl_Angle_impl_Angle_is) (tab_nil)
theorem slices_Concat__impl_Angle_impl_Angle_l0_r : RoundIs (mkCtx Go.K.Link.seat slices_Concat__impl_Angle_impl_Angle_c slices_Concat__impl_Angle_impl_Angle_tab) (sums slices_Concat__impl_Angle_impl_Angle_ls) 0 (bodyAt (loopsOf 0 slices_Concat__impl_Angle_impl_Angle_code) 0) slices_Concat__impl_Angle_impl_Angle_l0_s := by
  rintro ⟨slices, ⟨size, ⟨t9, ⟨t10, ⟨t11, _⟩⟩⟩⟩⟩
  show _ = (slices_Concat__impl_Angle_impl_Angle_l0 (slices, (size, (t9, (t10, (t11, ())))))).bind fun r : (Ctl ((List (List (Int × (Int × Unit)))) × Int × (List (List (Int × (Int × Unit)))) × Int × Int × Unit) (((List (List (Int × (Int × Unit)))) × Int × Unit))) => some (ctlVal slices_Concat__impl_Angle_impl_Angle_l0_s r)
  simp only [slices_Concat__impl_Angle_impl_Angle_l0, kb_ite, kb_some, kb_none, kb_bind, kb_alt]
  kernel_rfl
theorem slices_Concat__impl_Angle_impl_Angle_l1_r : RoundIs (mkCtx Go.K.Link.seat slices_Concat__impl_Angle_impl_Angle_c slices_Concat__impl_Angle_impl_Angle_tab) (sums slices_Concat__impl_Angle_impl_Angle_ls) 2 (bodyAt (loopsOf 0 slices_Concat__impl_Angle_impl_Angle_code) 1) slices_Concat__impl_Angle_impl_Angle_l1_s := by
  rintro ⟨slices, ⟨newslice, ⟨t25, ⟨t26, ⟨t27, _⟩⟩⟩⟩⟩
  show _ = (slices_Concat__impl_Angle_impl_Angle_l1 (slices, (newslice, (t25, (t26, (t27, ())))))).bind fun r : (Ctl ((List (List (Int × (Int × Unit)))) × (List (Int × (Int × Unit))) × (List (List (Int × (Int × Unit)))) × Int × Int × Unit) (((List (Int × (Int × Unit))) × Unit))) => some (ctlVal slices_Concat__impl_Angle_impl_Angle_l1_s r)
  simp only [slices_Concat__impl_Angle_impl_Angle_l1, kb_ite, kb_some, kb_none, kb_bind, kb_alt]
  kernel_rfl
theorem slices_Concat__impl_Angle_impl_Angle_rs : RoundsOK (mkCtx Go.K.Link.seat slices_Concat__impl_Angle_impl_Angle_c slices_Concat__impl_Angle_impl_Angle_tab) (sums slices_Concat__impl_Angle_impl_Angle_ls) (loopsOf 0 slices_Concat__impl_Angle_impl_Angle_code) slices_Concat__impl_Angle_impl_Angle_ls := ⟨⟨rfl, rfl, slices_Concat__impl_Angle_impl_Angle_l0_r⟩, ⟨⟨rfl, rfl, slices_Concat__impl_Angle_impl_Angle_l1_r⟩, trivial⟩⟩
theorem slices_Concat__impl_Angle_impl_Angle_e : ∀ v, (evFn (mkCtx Go.K.Link.seat slices_Concat__impl_Angle_impl_Angle_c slices_Concat__impl_Angle_impl_Angle_tab) (sums slices_Concat__impl_Angle_impl_Angle_ls) 58 Go.Proofs.Try.f58 (encL slices_Concat__impl_Angle_impl_Angle_s.a v)).run = (slices_Concat__impl_Angle_impl_Angle_s.gen v).bind fun y => some (slices_Concat__impl_Angle_impl_Angle_s.out y) := by
  rintro ⟨slices, _⟩
  show _ = (slices_Concat__impl_Angle_impl_Angle slices).bind fun y : (List (Int × (Int × Unit))) => some (slices_Concat__impl_Angle_impl_Angle_s.out y)
  simp only [slices_Concat__impl_Angle_impl_Angle, kb_ite, kb_some, kb_none, kb_bind, kb_alt]
  kernel_rfl
theorem slices_Concat__impl_Angle_impl_Angle_is : FnIs Go.Proofs.Try.prog 58 (modeOf []) (phi [slices_Concat__impl_Angle_impl_Angle_s]) := spec_is (c := slices_Concat__impl_Angle_impl_Angle_c) seatOK slices_Concat__impl_Angle_impl_Angle_t Go.Proofs.Try.func58 rfl (code := slices_Concat__impl_Angle_impl_Angle_code) rfl rfl slices_Concat__impl_Angle_impl_Angle_rs slices_Concat__impl_Angle_impl_Angle_e
noncomputable def impl_areSets_code : Code := (Go.Proofs.Try.f59.body).getD .skip
def impl_areSets_c : Cfg := ⟨59, [], [[0, 3, 6, 7, 8], [0, 3], [2]], [], [], []⟩
noncomputable def impl_areSets_l0_s : LSum := ⟨0, ⟨[(0, .val (.sl 33 (.sl 27 (.pair (.int .i64) (.pair (.int .i64) (.unit))))) .fr), (2, .val (.int .i64) .fr), (2, .val (.sl 33 (.sl 27 (.pair (.int .i64) (.pair (.int .i64) (.unit))))) .fr), (0, .val (.int .i64) .fr), (0, .val (.int .i64) .fr)], 19⟩, (.exit 0, ⟨[(0, .val (.sl 33 (.sl 27 (.pair (.int .i64) (.pair (.int .i64) (.unit))))) .fr), (2, .val (.int .i64) .fr)], 24⟩), [], impl_areSets_l0⟩
noncomputable def impl_length__impl_Angle_code : Code := (Go.Proofs.Try.f68.body).getD .skip
def impl_length__impl_Angle_c : Cfg := ⟨68, [], [], [], [], []⟩
noncomputable def impl_length__impl_Angle_s : Spec := ⟨[.v (.sl 33 (.sl 27 (.pair (.int .i64) (.pair (.int .i64) (.unit))))) .fr], Int, fun v => impl_length__impl_Angle v.1, fun r => ([.v (.int .i64) .fr r], [])⟩
noncomputable def impl_length__impl_Angle_ls : List LSum := []
noncomputable def impl_length__impl_Angle_tab : List Row := []
theorem impl_length__impl_Angle_t : ∀ r, r ∈ impl_length__impl_Angle_tab → RowIs Go.Proofs.Try.prog r := tab_nil
theorem impl_length__impl_Angle_rs : RoundsOK (mkCtx Go.K.Link.seat impl_length__impl_Angle_c impl_length__impl_Angle_tab) (sums impl_length__impl_Angle_ls) (loopsOf 0 impl_length__impl_Angle_code) impl_length__impl_Angle_ls := trivial
theorem impl_length__impl_Angle_e : ∀ v, (evFn (mkCtx Go.K.Link.seat impl_length__impl_Angle_c impl_length__impl_Angle_tab) (sums impl_length__impl_Angle_ls) 68 Go.Proofs.Try.f68 (encL impl_length__impl_Angle_s.a v)).run = (impl_length__impl_Angle_s.gen v).bind fun y => some (impl_length__impl_Angle_s.out y) := by
  rintro ⟨list, _⟩
  show _ = (impl_length__impl_Angle list).bind fun y : Int => some (impl_length__impl_Angle_s.out y)
  simp only [impl_length__impl_Angle, kb_ite, kb_some, kb_none, kb_bind, kb_alt]
  kernel_rfl
theorem impl_length__impl_Angle_is : FnIs Go.Proofs.Try.prog 68 (modeOf []) (phi [impl_length__impl_Angle_s]) := spec_is (c := impl_length__impl_Angle_c) seatOK impl_length__impl_Angle_t Go.Proofs.Try.func68 rfl (code := impl_length__impl_Angle_code) rfl rfl impl_length__impl_Angle_rs impl_length__impl_Angle_e
noncomputable def impl_areAll__impl_Angle_code : Code := (Go.Proofs.Try.f69.body).getD .skip
def impl_areAll__impl_Angle_c : Cfg := ⟨69, [], [], [], [], []⟩
noncomputable def slices_ContainsFunc___impl_Angle__impl_Angle_code : Code := (Go.Proofs.Try.f17.body).getD .skip
def slices_ContainsFunc___impl_Angle__impl_Angle_c : Cfg := ⟨17, [], [], [], [], []⟩
noncomputable def slices_IndexFunc___impl_Angle__impl_Angle_code : Code := (Go.Proofs.Try.f38.body).getD .skip
def slices_IndexFunc___impl_Angle__impl_Angle_c : Cfg := ⟨38, [], [[0, 1, 7, 8], [], [4]], [], [], []⟩
noncomputable def impl_areAll__impl_Angle_f1_code : Code := (Go.Proofs.Try.f80.body).getD .skip
def impl_areAll__impl_Angle_f1_c : Cfg := ⟨80, [], [], [], [], []⟩
noncomputable def impl_areSets_f1_code : Code := (Go.Proofs.Try.f70.body).getD .skip
def impl_areSets_f1_c : Cfg := ⟨70, [], [], [], [], []⟩
noncomputable def impl_areAscending_code : Code := (Go.Proofs.Try.f71.body).getD .skip
def impl_areAscending_c : Cfg := ⟨71, [], [[0, 3], [], [2]], [], [], []⟩
noncomputable def impl_areAscending_l0_s : LSum := ⟨0, ⟨[(0, .val (.sl 27 (.pair (.int .i64) (.pair (.int .i64) (.unit)))) .fr), (2, .val (.int .i64) .fr)], 17⟩, (.ret, ⟨[(2, .val (.bool) .fr)], 18⟩), [(.exit 0, ⟨[], 21⟩)], impl_areAscending_l0⟩
noncomputable def impl_areAscending_s : Spec := ⟨[.v (.sl 27 (.pair (.int .i64) (.pair (.int .i64) (.unit)))) .fr], Bool, fun v => impl_areAscending v.1, fun r => ([.v (.bool) .fr r], [])⟩
noncomputable def impl_areAscending_ls : List LSum := [impl_areAscending_l0_s]
noncomputable def impl_areAscending_tab : List Row := [⟨57, [], [impl_Angle_compare_s]⟩]
theorem impl_areAscending_t : ∀ r, r ∈ impl_areAscending_tab → RowIs Go.Proofs.Try.prog r := tab_cons (impl_Angle_compare_is) (tab_nil)
theorem impl_areAscending_l0_r : RoundIs (mkCtx Go.K.Link.seat impl_areAscending_c impl_areAscending_tab) (sums impl_areAscending_ls) 0 (bodyAt (loopsOf 0 impl_areAscending_code) 0) impl_areAscending_l0_s := by
  rintro ⟨list, ⟨i, _⟩⟩
  show _ = (impl_areAscending_l0 (list, (i, ()))).bind fun r : (Ctl ((List (Int × (Int × Unit))) × Int × Unit) ((Bool × Unit) ⊕ (Unit))) => some (ctlVal impl_areAscending_l0_s r)
  simp only [impl_areAscending_l0, kb_ite, kb_some, kb_none, kb_bind, kb_alt]
  kernel_rfl
theorem impl_areAscending_rs : RoundsOK (mkCtx Go.K.Link.seat impl_areAscending_c impl_areAscending_tab) (sums impl_areAscending_ls) (loopsOf 0 impl_areAscending_code) impl_areAscending_ls := ⟨⟨rfl, rfl, impl_areAscending_l0_r⟩, trivial⟩
theorem impl_areAscending_e : ∀ v, (evFn (mkCtx Go.K.Link.seat impl_areAscending_c impl_areAscending_tab) (sums impl_areAscending_ls) 71 Go.Proofs.Try.f71 (encL impl_areAscending_s.a v)).run = (impl_areAscending_s.gen v).bind fun y => some (impl_areAscending_s.out y) := by
  rintro ⟨list, _⟩
  show _ = (impl_areAscending list).bind fun y : Bool => some (impl_areAscending_s.out y)
  simp only [impl_areAscending, kb_ite, kb_some, kb_none, kb_bind, kb_alt]
  kernel_rfl
theorem impl_areAscending_is : FnIs Go.Proofs.Try.prog 71 (modeOf []) (phi [impl_areAscending_s]) := spec_is (c := impl_areAscending_c) seatOK impl_areAscending_t Go.Proofs.Try.func71 rfl (code := impl_areAscending_code) rfl rfl impl_areAscending_rs impl_areAscending_e
noncomputable def impl_areSets_f1_s : Spec := ⟨[.v (.sl 27 (.pair (.int .i64) (.pair (.int .i64) (.unit)))) .fr], Bool, fun v => impl_areSets_f1 v.1, fun r => ([.v (.bool) .fr r], [])⟩
noncomputable def impl_areSets_f1_ls : List LSum := []
noncomputable def impl_areSets_f1_tab : List Row := [⟨71, [], [impl_areAscending_s]⟩]
theorem impl_areSets_f1_t : ∀ r, r ∈ impl_areSets_f1_tab → RowIs Go.Proofs.Try.prog r := tab_cons (impl_areAscending_is) (tab_nil)
theorem impl_areSets_f1_rs : RoundsOK (mkCtx Go.K.Link.seat impl_areSets_f1_c impl_areSets_f1_tab) (sums impl_areSets_f1_ls) (loopsOf 0 impl_areSets_f1_code) impl_areSets_f1_ls := trivial
theorem impl_areSets_f1_e : ∀ v, (evFn (mkCtx Go.K.Link.seat impl_areSets_f1_c impl_areSets_f1_tab) (sums impl_areSets_f1_ls) 70 Go.Proofs.Try.f70 (encL impl_areSets_f1_s.a v)).run = (impl_areSets_f1_s.gen v).bind fun y => some (impl_areSets_f1_s.out y) := by
  rintro ⟨set, _⟩
  show _ = (impl_areSets_f1 set).bind fun y : Bool => some (impl_areSets_f1_s.out y)
  simp only [impl_areSets_f1, kb_ite, kb_some, kb_none, kb_bind, kb_alt]
  kernel_rfl
theorem impl_areSets_f1_is : FnIs Go.Proofs.Try.prog 70 (modeOf []) (phi [impl_areSets_f1_s]) := spec_is (c := impl_areSets_f1_c) seatOK impl_areSets_f1_t Go.Proofs.Try.func70 rfl (code := impl_areSets_f1_code) rfl rfl impl_areSets_f1_rs impl_areSets_f1_e
noncomputable def impl_areAll__impl_Angle_f1_s : Spec := ⟨[.v (.sl 27 (.pair (.int .i64) (.pair (.int .i64) (.unit)))) .fr, .pfn 70 [] []], Bool, fun v => impl_areAll__impl_Angle_f1 v.1, fun r => ([.v (.bool) .fr r], [])⟩
noncomputable def impl_areAll__impl_Angle_f1_ls : List LSum := []
noncomputable def impl_areAll__impl_Angle_f1_tab : List Row := [⟨70, [], [impl_areSets_f1_s]⟩]
theorem impl_areAll__impl_Angle_f1_t : ∀ r, r ∈ impl_areAll__impl_Angle_f1_tab → RowIs Go.Proofs.Try.prog r := tab_cons (impl_areSets_f1_is) (tab_nil)
theorem impl_areAll__impl_Angle_f1_rs : RoundsOK (mkCtx Go.K.Link.seat impl_areAll__impl_Angle_f1_c impl_areAll__impl_Angle_f1_tab) (sums impl_areAll__impl_Angle_f1_ls) (loopsOf 0 impl_areAll__impl_Angle_f1_code) impl_areAll__impl_Angle_f1_ls := trivial
theorem impl_areAll__impl_Angle_f1_e : ∀ v, (evFn (mkCtx Go.K.Link.seat impl_areAll__impl_Angle_f1_c impl_areAll__impl_Angle_f1_tab) (sums impl_areAll__impl_Angle_f1_ls) 80 Go.Proofs.Try.f80 (encL impl_areAll__impl_Angle_f1_s.a v)).run = (impl_areAll__impl_Angle_f1_s.gen v).bind fun y => some (impl_areAll__impl_Angle_f1_s.out y) := by
  rintro ⟨x, ⟨⟨_, _⟩, _⟩⟩
  show _ = (impl_areAll__impl_Angle_f1 x).bind fun y : Bool => some (impl_areAll__impl_Angle_f1_s.out y)
  simp only [impl_areAll__impl_Angle_f1, kb_ite, kb_some, kb_none, kb_bind, kb_alt]
  kernel_rfl
theorem impl_areAll__impl_Angle_f1_is : FnIs Go.Proofs.Try.prog 80 (modeOf []) (phi [impl_areAll__impl_Angle_f1_s]) := spec_is (c := impl_areAll__impl_Angle_f1_c) seatOK impl_areAll__impl_Angle_f1_t Go.Proofs.Try.func80 rfl (code := impl_areAll__impl_Angle_f1_code) rfl rfl impl_areAll__impl_Angle_f1_rs impl_areAll__impl_Angle_f1_e
noncomputable def slices_IndexFunc___impl_Angle__impl_Angle_l0_s : LSum := ⟨0, ⟨[(0, .val (.sl 33 (.sl 27 (.pair (.int .i64) (.pair (.int .i64) (.unit))))) .fr), (0, .fnl 80 [] [.arg (.pfn 70 [] [])]), (5, .val (.int .i64) .fr), (0, .val (.int .i64) .fr)], 10⟩, (.ret, ⟨[(4, .val (.int .i64) .fr)], 14⟩), [(.exit 0, ⟨[], 19⟩)], slices_IndexFunc___impl_Angle__impl_Angle_l0⟩
noncomputable def slices_IndexFunc___impl_Angle__impl_Angle_s : Spec := ⟨[.v (.sl 33 (.sl 27 (.pair (.int .i64) (.pair (.int .i64) (.unit))))) .fr, .fn 80 [] [.pfn 70 [] []]], Int, fun v => slices_IndexFunc___impl_Angle__impl_Angle v.1, fun r => ([.v (.int .i64) .fr r], [])⟩
noncomputable def slices_IndexFunc___impl_Angle__impl_Angle_ls : List LSum := [slices_IndexFunc___impl_Angle__impl_Angle_l0_s]
noncomputable def slices_IndexFunc___impl_Angle__impl_Angle_tab : List Row := [⟨80, [], [impl_areAll__impl_Angle_f1_s]⟩]
theorem slices_IndexFunc___impl_Angle__impl_Angle_t : ∀ r, r ∈ slices_IndexFunc___impl_Angle__impl_Angle_tab → RowIs Go.Proofs.Try.prog r := tab_cons (impl_areAll__impl_Angle_f1_is) (tab_nil)
theorem slices_IndexFunc___impl_Angle__impl_Angle_l0_r : RoundIs (mkCtx Go.K.Link.seat slices_IndexFunc___impl_Angle__impl_Angle_c slices_IndexFunc___impl_Angle__impl_Angle_tab) (sums slices_IndexFunc___impl_Angle__impl_Angle_ls) 0 (bodyAt (loopsOf 0 slices_IndexFunc___impl_Angle__impl_Angle_code) 0) slices_IndexFunc___impl_Angle__impl_Angle_l0_s := by
  rintro ⟨s, ⟨_, ⟨⟨_, _⟩, _⟩, ⟨t7, ⟨t8, _⟩⟩⟩⟩
  show _ = (slices_IndexFunc___impl_Angle__impl_Angle_l0 (s, ((), (((), ()), ()), (t7, (t8, ()))))).bind fun r : (Ctl ((List (List (Int × (Int × Unit)))) × Unit × ((Unit × Unit) × Unit) × Int × Int × Unit) ((Int × Unit) ⊕ (Unit))) => some (ctlVal slices_IndexFunc___impl_Angle__impl_Angle_l0_s r)
  simp only [slices_IndexFunc___impl_Angle__impl_Angle_l0, kb_ite, kb_some, kb_none, kb_bind, kb_alt]
  kernel_rfl
theorem slices_IndexFunc___impl_Angle__impl_Angle_rs : RoundsOK (mkCtx Go.K.Link.seat slices_IndexFunc___impl_Angle__impl_Angle_c slices_IndexFunc___impl_Angle__impl_Angle_tab) (sums slices_IndexFunc___impl_Angle__impl_Angle_ls) (loopsOf 0 slices_IndexFunc___impl_Angle__impl_Angle_code) slices_IndexFunc___impl_Angle__impl_Angle_ls := ⟨⟨rfl, rfl, slices_IndexFunc___impl_Angle__impl_Angle_l0_r⟩, trivial⟩
theorem slices_IndexFunc___impl_Angle__impl_Angle_e : ∀ v, (evFn (mkCtx Go.K.Link.seat slices_IndexFunc___impl_Angle__impl_Angle_c slices_IndexFunc___impl_Angle__impl_Angle_tab) (sums slices_IndexFunc___impl_Angle__impl_Angle_ls) 38 Go.Proofs.Try.f38 (encL slices_IndexFunc___impl_Angle__impl_Angle_s.a v)).run = (slices_IndexFunc___impl_Angle__impl_Angle_s.gen v).bind fun y => some (slices_IndexFunc___impl_Angle__impl_Angle_s.out y) := by
  rintro ⟨s, ⟨⟨_, ⟨⟨_, _⟩, _⟩⟩, _⟩⟩
  show _ = (slices_IndexFunc___impl_Angle__impl_Angle s).bind fun y : Int => some (slices_IndexFunc___impl_Angle__impl_Angle_s.out y)
  simp only [slices_IndexFunc___impl_Angle__impl_Angle, kb_ite, kb_some, kb_none, kb_bind, kb_alt]
  kernel_rfl
theorem slices_IndexFunc___impl_Angle__impl_Angle_is : FnIs Go.Proofs.Try.prog 38 (modeOf []) (phi [slices_IndexFunc___impl_Angle__impl_Angle_s]) := spec_is (c := slices_IndexFunc___impl_Angle__impl_Angle_c) seatOK slices_IndexFunc___impl_Angle__impl_Angle_t Go.Proofs.Try.func38 rfl (code := slices_IndexFunc___impl_Angle__impl_Angle_code) rfl rfl slices_IndexFunc___impl_Angle__impl_Angle_rs slices_IndexFunc___impl_Angle__impl_Angle_e
noncomputable def slices_ContainsFunc___impl_Angle__impl_Angle_s : Spec := ⟨[.v (.sl 33 (.sl 27 (.pair (.int .i64) (.pair (.int .i64) (.unit))))) .fr, .fn 80 [] [.pfn 70 [] []]], Bool, fun v => slices_ContainsFunc___impl_Angle__impl_Angle v.1, fun r => ([.v (.bool) .fr r], [])⟩
noncomputable def slices_ContainsFunc___impl_Angle__impl_Angle_ls : List LSum := []
noncomputable def slices_ContainsFunc___impl_Angle__impl_Angle_tab : List Row := [⟨38, [], [slices_IndexFunc___impl_Angle__impl_Angle_s]⟩]
theorem slices_ContainsFunc___impl_Angle__impl_Angle_t : ∀ r, r ∈ slices_ContainsFunc___impl_Angle__impl_Angle_tab → RowIs Go.Proofs.Try.prog r := tab_cons (slices_IndexFunc___impl_Angle__impl_Angle_is) (tab_nil)
theorem slices_ContainsFunc___impl_Angle__impl_Angle_rs : RoundsOK (mkCtx Go.K.Link.seat slices_ContainsFunc___impl_Angle__impl_Angle_c slices_ContainsFunc___impl_Angle__impl_Angle_tab) (sums slices_ContainsFunc___impl_Angle__impl_Angle_ls) (loopsOf 0 slices_ContainsFunc___impl_Angle__impl_Angle_code) slices_ContainsFunc___impl_Angle__impl_Angle_ls := trivial
theorem slices_ContainsFunc___impl_Angle__impl_Angle_e : ∀ v, (evFn (mkCtx Go.K.Link.seat slices_ContainsFunc___impl_Angle__impl_Angle_c slices_ContainsFunc___impl_Angle__impl_Angle_tab) (sums slices_ContainsFunc___impl_Angle__impl_Angle_ls) 17 Go.Proofs.Try.f17 (encL slices_ContainsFunc___impl_Angle__impl_Angle_s.a v)).run = (slices_ContainsFunc___impl_Angle__impl_Angle_s.gen v).bind fun y => some (slices_ContainsFunc___impl_Angle__impl_Angle_s.out y) := by
  rintro ⟨s, ⟨⟨_, ⟨⟨_, _⟩, _⟩⟩, _⟩⟩
  show _ = (slices_ContainsFunc___impl_Angle__impl_Angle s).bind fun y : Bool => some (slices_ContainsFunc___impl_Angle__impl_Angle_s.out y)
  simp only [slices_ContainsFunc___impl_Angle__impl_Angle, kb_ite, kb_some, kb_none, kb_bind, kb_alt]
  kernel_rfl
theorem slices_ContainsFunc___impl_Angle__impl_Angle_is : FnIs Go.Proofs.Try.prog 17 (modeOf []) (phi [slices_ContainsFunc___impl_Angle__impl_Angle_s]) := spec_is (c := slices_ContainsFunc___impl_Angle__impl_Angle_c) seatOK slices_ContainsFunc___impl_Angle__impl_Angle_t Go.Proofs.Try.func17 rfl (code := slices_ContainsFunc___impl_Angle__impl_Angle_code) rfl rfl slices_ContainsFunc___impl_Angle__impl_Angle_rs slices_ContainsFunc___impl_Angle__impl_Angle_e
noncomputable def impl_areAll__impl_Angle_s : Spec := ⟨[.v (.sl 33 (.sl 27 (.pair (.int .i64) (.pair (.int .i64) (.unit))))) .fr, .fn 70 [] []], Bool, fun v => impl_areAll__impl_Angle v.1, fun r => ([.v (.bool) .fr r], [])⟩
noncomputable def impl_areAll__impl_Angle_ls : List LSum := []
noncomputable def impl_areAll__impl_Angle_tab : List Row := [⟨17, [], [slices_ContainsFunc___impl_Angle__impl_Angle_s]⟩]
theorem impl_areAll__impl_Angle_t : ∀ r, r ∈ impl_areAll__impl_Angle_tab → RowIs Go.Proofs.Try.prog r := tab_cons (slices_ContainsFunc___impl_Angle__impl_Angle_is) (tab_nil)
theorem impl_areAll__impl_Angle_rs : RoundsOK (mkCtx Go.K.Link.seat impl_areAll__impl_Angle_c impl_areAll__impl_Angle_tab) (sums impl_areAll__impl_Angle_ls) (loopsOf 0 impl_areAll__impl_Angle_code) impl_areAll__impl_Angle_ls := trivial
theorem impl_areAll__impl_Angle_e : ∀ v, (evFn (mkCtx Go.K.Link.seat impl_areAll__impl_Angle_c impl_areAll__impl_Angle_tab) (sums impl_areAll__impl_Angle_ls) 69 Go.Proofs.Try.f69 (encL impl_areAll__impl_Angle_s.a v)).run = (impl_areAll__impl_Angle_s.gen v).bind fun y => some (impl_areAll__impl_Angle_s.out y) := by
  rintro ⟨list, ⟨⟨_, _⟩, _⟩⟩
  show _ = (impl_areAll__impl_Angle list).bind fun y : Bool => some (impl_areAll__impl_Angle_s.out y)
  simp only [impl_areAll__impl_Angle, kb_ite, kb_some, kb_none, kb_bind, kb_alt]
  kernel_rfl
theorem impl_areAll__impl_Angle_is : FnIs Go.Proofs.Try.prog 69 (modeOf []) (phi [impl_areAll__impl_Angle_s]) := spec_is (c := impl_areAll__impl_Angle_c) seatOK impl_areAll__impl_Angle_t Go.Proofs.Try.func69 rfl (code := impl_areAll__impl_Angle_code) rfl rfl impl_areAll__impl_Angle_rs impl_areAll__impl_Angle_e
noncomputable def impl_areSets_s : Spec := ⟨[.v (.sl 33 (.sl 27 (.pair (.int .i64) (.pair (.int .i64) (.unit))))) .fr], Bool, fun v => impl_areSets v.1, fun r => ([.v (.bool) .fr r], [])⟩
noncomputable def impl_areSets_ls : List LSum := [impl_areSets_l0_s]
noncomputable def impl_areSets_tab : List Row := [⟨51, [], [impl_within_s]⟩, ⟨68, [], [impl_length__impl_Angle_s]⟩, ⟨69, [], [impl_areAll__impl_Angle_s]⟩]
theorem impl_areSets_t : ∀ r, r ∈ impl_areSets_tab → RowIs Go.Proofs.Try.prog r := tab_cons (impl_within_is) (tab_cons (impl_length__impl_Angle_is) (tab_cons (impl_areAll__impl_Angle_is) (tab_nil)))
theorem impl_areSets_l0_r : RoundIs (mkCtx Go.K.Link.seat impl_areSets_c impl_areSets_tab) (sums impl_areSets_ls) 0 (bodyAt (loopsOf 0 impl_areSets_code) 0) impl_areSets_l0_s := by
  rintro ⟨sets, ⟨all, ⟨t6, ⟨t7, ⟨t8, _⟩⟩⟩⟩⟩
  show _ = (impl_areSets_l0 (sets, (all, (t6, (t7, (t8, ())))))).bind fun r : (Ctl ((List (List (Int × (Int × Unit)))) × Int × (List (List (Int × (Int × Unit)))) × Int × Int × Unit) (((List (List (Int × (Int × Unit)))) × Int × Unit))) => some (ctlVal impl_areSets_l0_s r)
  simp only [impl_areSets_l0, kb_ite, kb_some, kb_none, kb_bind, kb_alt]
  kernel_rfl
theorem impl_areSets_rs : RoundsOK (mkCtx Go.K.Link.seat impl_areSets_c impl_areSets_tab) (sums impl_areSets_ls) (loopsOf 0 impl_areSets_code) impl_areSets_ls := ⟨⟨rfl, rfl, impl_areSets_l0_r⟩, trivial⟩
theorem impl_areSets_e : ∀ v, (evFn (mkCtx Go.K.Link.seat impl_areSets_c impl_areSets_tab) (sums impl_areSets_ls) 59 Go.Proofs.Try.f59 (encL impl_areSets_s.a v)).run = (impl_areSets_s.gen v).bind fun y => some (impl_areSets_s.out y) := by
  rintro ⟨sets, _⟩
  show _ = (impl_areSets sets).bind fun y : Bool => some (impl_areSets_s.out y)
  simp only [impl_areSets, kb_ite, kb_some, kb_none, kb_bind, kb_alt]
  kernel_rfl
theorem impl_areSets_is : FnIs Go.Proofs.Try.prog 59 (modeOf []) (phi [impl_areSets_s]) := spec_is (c := impl_areSets_c) seatOK impl_areSets_t Go.Proofs.Try.func59 rfl (code := impl_areSets_code) rfl rfl impl_areSets_rs impl_areSets_e
noncomputable def impl_fails_code : Code := (Go.Proofs.Try.f60.body).getD .skip
def impl_fails_c : Cfg := ⟨60, [], [[0, 3, 4, 14, 28, 29, 30, 31], [0, 3, 4, 14, 28], [2], [], [], [], [0, 3, 4, 14, 28, 44, 45, 46], [0, 3, 14], [2], [], [], [], [0, 62, 63, 64], [], [2], [], [], [], [0, 9, 10, 62, 63, 64, 67, 68, 69, 70, 71], [0, 62, 63, 64], [2]], [], [], []⟩
noncomputable def slices_Clone___impl_Angle__impl_Angle_s : Spec := ⟨[.v (.sl 33 (.sl 27 (.pair (.int .i64) (.pair (.int .i64) (.unit))))) .fr], List (List (Int × (Int × Unit))), fun v => slices_Clone___impl_Angle__impl_Angle v.1, fun r => ([.v (.sl 33 (.sl 27 (.pair (.int .i64) (.pair (.int .i64) (.unit))))) (.own .fr) r], [])⟩
theorem slices_Clone___impl_Angle__impl_Angle_is : FnIs Go.Proofs.Try.prog 72 (modeOf []) (phi [slices_Clone___impl_Angle__impl_Angle_s]) := clone_is (TS := 24) (TE := 33) (e := (.sl 27 (.pair (.int .i64) (.pair (.int .i64) (.unit))))) (bytes := 24) ⟨Go.Proofs.Try.underlying24, by kernel_rfl, Go.Proofs.Try.isAgg24, Go.Proofs.Try.sizeOf24, Go.Proofs.Try.sizeOf33, by decide, by decide⟩ Go.Proofs.Try.func72 rfl rfl rfl rfl
noncomputable def impl_leads_code : Code := (Go.Proofs.Try.f73.body).getD .skip
def impl_leads_c : Cfg := ⟨73, [], [[0, 3, 5, 8, 9, 10, 18], [0, 3, 5, 18], [4]], [], [], []⟩
noncomputable def impl_leads_l0_s : LSum := ⟨0, ⟨[(0, .val (.sl 27 (.pair (.int .i64) (.pair (.int .i64) (.unit)))) .fr), (2, .val (.ptr (.sl 27 (.pair (.int .i64) (.pair (.int .i64) (.unit))))) (.own .fr)), (1, .val (.sl 27 (.pair (.int .i64) (.pair (.int .i64) (.unit)))) (.own .fr)), (2, .val (.sl 27 (.pair (.int .i64) (.pair (.int .i64) (.unit)))) .fr), (0, .val (.int .i64) .fr), (0, .val (.int .i64) .fr)], 20⟩, (.exit 0, ⟨[(0, .val (.sl 27 (.pair (.int .i64) (.pair (.int .i64) (.unit)))) .fr), (2, .val (.ptr (.sl 27 (.pair (.int .i64) (.pair (.int .i64) (.unit))))) (.own .fr)), (1, .val (.sl 27 (.pair (.int .i64) (.pair (.int .i64) (.unit)))) (.own .fr))], 25⟩), [], impl_leads_l0⟩
noncomputable def impl_areAll_impl_Angle_v2_code : Code := (Go.Proofs.Try.f32.body).getD .skip
def impl_areAll_impl_Angle_v2_c : Cfg := ⟨32, [], [], [], [], []⟩
noncomputable def slices_ContainsFunc__impl_Angle_impl_Angle_v2_code : Code := (Go.Proofs.Try.f49.body).getD .skip
def slices_ContainsFunc__impl_Angle_impl_Angle_v2_c : Cfg := ⟨49, [], [], [], [], []⟩
noncomputable def slices_IndexFunc__impl_Angle_impl_Angle_v2_code : Code := (Go.Proofs.Try.f62.body).getD .skip
def slices_IndexFunc__impl_Angle_impl_Angle_v2_c : Cfg := ⟨62, [], [[0, 1, 7, 8], [], [4]], [], [], []⟩
noncomputable def impl_areAll_impl_Angle_f1_v2_code : Code := (Go.Proofs.Try.f50.body).getD .skip
def impl_areAll_impl_Angle_f1_v2_c : Cfg := ⟨50, [], [], [], [], []⟩
noncomputable def impl_leads_f1_code : Code := (Go.Proofs.Try.f81.body).getD .skip
def impl_leads_f1_c : Cfg := ⟨81, [], [], [], [], []⟩
noncomputable def impl_leads_f1_s : Spec := ⟨[.v (.pair (.int .i64) (.pair (.int .i64) (.unit))) .fr, .v (.ptr (.sl 27 (.pair (.int .i64) (.pair (.int .i64) (.unit))))) .fr], Bool, fun v => impl_leads_f1 v.1 v.2.1, fun r => ([.v (.bool) .fr r], [])⟩
noncomputable def impl_leads_f1_ls : List LSum := []
noncomputable def impl_leads_f1_tab : List Row := [⟨19, [], [slices_Contains__impl_Angle_impl_Angle_s]⟩]
theorem impl_leads_f1_t : ∀ r, r ∈ impl_leads_f1_tab → RowIs Go.Proofs.Try.prog r := tab_cons (slices_Contains__impl_Angle_impl_Angle_is) (tab_nil)
theorem impl_leads_f1_rs : RoundsOK (mkCtx Go.K.Link.seat impl_leads_f1_c impl_leads_f1_tab) (sums impl_leads_f1_ls) (loopsOf 0 impl_leads_f1_code) impl_leads_f1_ls := trivial
theorem impl_leads_f1_e : ∀ v, (evFn (mkCtx Go.K.Link.seat impl_leads_f1_c impl_leads_f1_tab) (sums impl_leads_f1_ls) 81 Go.Proofs.Try.f81 (encL impl_leads_f1_s.a v)).run = (impl_leads_f1_s.gen v).bind fun y => some (impl_leads_f1_s.out y) := by
  rintro ⟨a, ⟨t1, _⟩⟩
  show _ = (impl_leads_f1 a t1).bind fun y : Bool => some (impl_leads_f1_s.out y)
  simp only [impl_leads_f1, kb_ite, kb_some, kb_none, kb_bind, kb_alt]
  kernel_rfl
theorem impl_leads_f1_is : FnIs Go.Proofs.Try.prog 81 (modeOf []) (phi [impl_leads_f1_s]) := spec_is (c := impl_leads_f1_c) seatOK impl_leads_f1_t Go.Proofs.Try.func81 rfl (code := impl_leads_f1_code) rfl rfl impl_leads_f1_rs impl_leads_f1_e
noncomputable def impl_areAll_impl_Angle_f1_v2_s : Spec := ⟨[.v (.pair (.int .i64) (.pair (.int .i64) (.unit))) .fr, .pfn 81 [] [.v (.ptr (.sl 27 (.pair (.int .i64) (.pair (.int .i64) (.unit))))) .fr]], Bool, fun v => impl_areAll_impl_Angle_f1_v2 v.1 v.2.1.2.1, fun r => ([.v (.bool) .fr r], [])⟩
noncomputable def impl_areAll_impl_Angle_f1_v2_ls : List LSum := []
noncomputable def impl_areAll_impl_Angle_f1_v2_tab : List Row := [⟨81, [], [impl_leads_f1_s]⟩]
theorem impl_areAll_impl_Angle_f1_v2_t : ∀ r, r ∈ impl_areAll_impl_Angle_f1_v2_tab → RowIs Go.Proofs.Try.prog r := tab_cons (impl_leads_f1_is) (tab_nil)
theorem impl_areAll_impl_Angle_f1_v2_rs : RoundsOK (mkCtx Go.K.Link.seat impl_areAll_impl_Angle_f1_v2_c impl_areAll_impl_Angle_f1_v2_tab) (sums impl_areAll_impl_Angle_f1_v2_ls) (loopsOf 0 impl_areAll_impl_Angle_f1_v2_code) impl_areAll_impl_Angle_f1_v2_ls := trivial
theorem impl_areAll_impl_Angle_f1_v2_e : ∀ v, (evFn (mkCtx Go.K.Link.seat impl_areAll_impl_Angle_f1_v2_c impl_areAll_impl_Angle_f1_v2_tab) (sums impl_areAll_impl_Angle_f1_v2_ls) 50 Go.Proofs.Try.f50 (encL impl_areAll_impl_Angle_f1_v2_s.a v)).run = (impl_areAll_impl_Angle_f1_v2_s.gen v).bind fun y => some (impl_areAll_impl_Angle_f1_v2_s.out y) := by
  rintro ⟨x, ⟨⟨_, ⟨t1_0, _⟩⟩, _⟩⟩
  show _ = (impl_areAll_impl_Angle_f1_v2 x t1_0).bind fun y : Bool => some (impl_areAll_impl_Angle_f1_v2_s.out y)
  simp only [impl_areAll_impl_Angle_f1_v2, kb_ite, kb_some, kb_none, kb_bind, kb_alt]
  kernel_rfl
theorem impl_areAll_impl_Angle_f1_v2_is : FnIs Go.Proofs.Try.prog 50 (modeOf []) (phi [impl_areAll_impl_Angle_f1_v2_s]) := spec_is (c := impl_areAll_impl_Angle_f1_v2_c) seatOK impl_areAll_impl_Angle_f1_v2_t Go.Proofs.Try.func50 rfl (code := impl_areAll_impl_Angle_f1_v2_code) rfl rfl impl_areAll_impl_Angle_f1_v2_rs impl_areAll_impl_Angle_f1_v2_e
noncomputable def slices_IndexFunc__impl_Angle_impl_Angle_v2_l0_s : LSum := ⟨0, ⟨[(0, .val (.sl 27 (.pair (.int .i64) (.pair (.int .i64) (.unit)))) .fr), (0, .fnl 50 [] [.arg (.pfn 81 [] [.v (.ptr (.sl 27 (.pair (.int .i64) (.pair (.int .i64) (.unit))))) .fr])]), (5, .val (.int .i64) .fr), (0, .val (.int .i64) .fr)], 10⟩, (.ret, ⟨[(4, .val (.int .i64) .fr)], 14⟩), [(.exit 0, ⟨[], 19⟩)], slices_IndexFunc__impl_Angle_impl_Angle_v2_l0⟩
noncomputable def slices_IndexFunc__impl_Angle_impl_Angle_v2_s : Spec := ⟨[.v (.sl 27 (.pair (.int .i64) (.pair (.int .i64) (.unit)))) .fr, .fn 50 [] [.pfn 81 [] [.v (.ptr (.sl 27 (.pair (.int .i64) (.pair (.int .i64) (.unit))))) .fr]]], Int, fun v => slices_IndexFunc__impl_Angle_impl_Angle_v2 v.1 v.2.1.2.1.2.1, fun r => ([.v (.int .i64) .fr r], [])⟩
noncomputable def slices_IndexFunc__impl_Angle_impl_Angle_v2_ls : List LSum := [slices_IndexFunc__impl_Angle_impl_Angle_v2_l0_s]
noncomputable def slices_IndexFunc__impl_Angle_impl_Angle_v2_tab : List Row := [⟨50, [], [impl_areAll_impl_Angle_f1_v2_s]⟩]
theorem slices_IndexFunc__impl_Angle_impl_Angle_v2_t : ∀ r, r ∈ slices_IndexFunc__impl_Angle_impl_Angle_v2_tab → RowIs Go.Proofs.Try.prog r := tab_cons (impl_areAll_impl_Angle_f1_v2_is) (tab_nil)
theorem slices_IndexFunc__impl_Angle_impl_Angle_v2_l0_r : RoundIs (mkCtx Go.K.Link.seat slices_IndexFunc__impl_Angle_impl_Angle_v2_c slices_IndexFunc__impl_Angle_impl_Angle_v2_tab) (sums slices_IndexFunc__impl_Angle_impl_Angle_v2_ls) 0 (bodyAt (loopsOf 0 slices_IndexFunc__impl_Angle_impl_Angle_v2_code) 0) slices_IndexFunc__impl_Angle_impl_Angle_v2_l0_s := by
  rintro ⟨s, ⟨_, ⟨⟨_, ⟨f, _⟩⟩, _⟩, ⟨t7, ⟨t8, _⟩⟩⟩⟩
  show _ = (slices_IndexFunc__impl_Angle_impl_Angle_v2_l0 (s, ((), (((), (f, ())), ()), (t7, (t8, ()))))).bind fun r : (Ctl ((List (Int × (Int × Unit))) × Unit × ((Unit × (List (Int × (Int × Unit)) × Unit)) × Unit) × Int × Int × Unit) ((Int × Unit) ⊕ (Unit))) => some (ctlVal slices_IndexFunc__impl_Angle_impl_Angle_v2_l0_s r)
  simp only [slices_IndexFunc__impl_Angle_impl_Angle_v2_l0, kb_ite, kb_some, kb_none, kb_bind, kb_alt]
  kernel_rfl
theorem slices_IndexFunc__impl_Angle_impl_Angle_v2_rs : RoundsOK (mkCtx Go.K.Link.seat slices_IndexFunc__impl_Angle_impl_Angle_v2_c slices_IndexFunc__impl_Angle_impl_Angle_v2_tab) (sums slices_IndexFunc__impl_Angle_impl_Angle_v2_ls) (loopsOf 0 slices_IndexFunc__impl_Angle_impl_Angle_v2_code) slices_IndexFunc__impl_Angle_impl_Angle_v2_ls := ⟨⟨rfl, rfl, slices_IndexFunc__impl_Angle_impl_Angle_v2_l0_r⟩, trivial⟩
theorem slices_IndexFunc__impl_Angle_impl_Angle_v2_e : ∀ v, (evFn (mkCtx Go.K.Link.seat slices_IndexFunc__impl_Angle_impl_Angle_v2_c slices_IndexFunc__impl_Angle_impl_Angle_v2_tab) (sums slices_IndexFunc__impl_Angle_impl_Angle_v2_ls) 62 Go.Proofs.Try.f62 (encL slices_IndexFunc__impl_Angle_impl_Angle_v2_s.a v)).run = (slices_IndexFunc__impl_Angle_impl_Angle_v2_s.gen v).bind fun y => some (slices_IndexFunc__impl_Angle_impl_Angle_v2_s.out y) := by
  rintro ⟨s, ⟨⟨_, ⟨⟨_, ⟨f_0_1, _⟩⟩, _⟩⟩, _⟩⟩
  show _ = (slices_IndexFunc__impl_Angle_impl_Angle_v2 s f_0_1).bind fun y : Int => some (slices_IndexFunc__impl_Angle_impl_Angle_v2_s.out y)
  simp only [slices_IndexFunc__impl_Angle_impl_Angle_v2, kb_ite, kb_some, kb_none, kb_bind, kb_alt]
  kernel_rfl
theorem slices_IndexFunc__impl_Angle_impl_Angle_v2_is : FnIs Go.Proofs.Try.prog 62 (modeOf []) (phi [slices_IndexFunc__impl_Angle_impl_Angle_v2_s]) := spec_is (c := slices_IndexFunc__impl_Angle_impl_Angle_v2_c) seatOK slices_IndexFunc__impl_Angle_impl_Angle_v2_t Go.Proofs.Try.func62 rfl (code := slices_IndexFunc__impl_Angle_impl_Angle_v2_code) rfl rfl slices_IndexFunc__impl_Angle_impl_Angle_v2_rs slices_IndexFunc__impl_Angle_impl_Angle_v2_e
noncomputable def slices_ContainsFunc__impl_Angle_impl_Angle_v2_s : Spec := ⟨[.v (.sl 27 (.pair (.int .i64) (.pair (.int .i64) (.unit)))) .fr, .fn 50 [] [.pfn 81 [] [.v (.ptr (.sl 27 (.pair (.int .i64) (.pair (.int .i64) (.unit))))) .fr]]], Bool, fun v => slices_ContainsFunc__impl_Angle_impl_Angle_v2 v.1 v.2.1.2.1.2.1, fun r => ([.v (.bool) .fr r], [])⟩
noncomputable def slices_ContainsFunc__impl_Angle_impl_Angle_v2_ls : List LSum := []
noncomputable def slices_ContainsFunc__impl_Angle_impl_Angle_v2_tab : List Row := [⟨62, [], [slices_IndexFunc__impl_Angle_impl_Angle_v2_s]⟩]
theorem slices_ContainsFunc__impl_Angle_impl_Angle_v2_t : ∀ r, r ∈ slices_ContainsFunc__impl_Angle_impl_Angle_v2_tab → RowIs Go.Proofs.Try.prog r := tab_cons (slices_IndexFunc__impl_Angle_impl_Angle_v2_is) (tab_nil)
theorem slices_ContainsFunc__impl_Angle_impl_Angle_v2_rs : RoundsOK (mkCtx Go.K.Link.seat slices_ContainsFunc__impl_Angle_impl_Angle_v2_c slices_ContainsFunc__impl_Angle_impl_Angle_v2_tab) (sums slices_ContainsFunc__impl_Angle_impl_Angle_v2_ls) (loopsOf 0 slices_ContainsFunc__impl_Angle_impl_Angle_v2_code) slices_ContainsFunc__impl_Angle_impl_Angle_v2_ls := trivial
theorem slices_ContainsFunc__impl_Angle_impl_Angle_v2_e : ∀ v, (evFn (mkCtx Go.K.Link.seat slices_ContainsFunc__impl_Angle_impl_Angle_v2_c slices_ContainsFunc__impl_Angle_impl_Angle_v2_tab) (sums slices_ContainsFunc__impl_Angle_impl_Angle_v2_ls) 49 Go.Proofs.Try.f49 (encL slices_ContainsFunc__impl_Angle_impl_Angle_v2_s.a v)).run = (slices_ContainsFunc__impl_Angle_impl_Angle_v2_s.gen v).bind fun y => some (slices_ContainsFunc__impl_Angle_impl_Angle_v2_s.out y) := by
  rintro ⟨s, ⟨⟨_, ⟨⟨_, ⟨f_0_1, _⟩⟩, _⟩⟩, _⟩⟩
  show _ = (slices_ContainsFunc__impl_Angle_impl_Angle_v2 s f_0_1).bind fun y : Bool => some (slices_ContainsFunc__impl_Angle_impl_Angle_v2_s.out y)
  simp only [slices_ContainsFunc__impl_Angle_impl_Angle_v2, kb_ite, kb_some, kb_none, kb_bind, kb_alt]
  kernel_rfl
theorem slices_ContainsFunc__impl_Angle_impl_Angle_v2_is : FnIs Go.Proofs.Try.prog 49 (modeOf []) (phi [slices_ContainsFunc__impl_Angle_impl_Angle_v2_s]) := spec_is (c := slices_ContainsFunc__impl_Angle_impl_Angle_v2_c) seatOK slices_ContainsFunc__impl_Angle_impl_Angle_v2_t Go.Proofs.Try.func49 rfl (code := slices_ContainsFunc__impl_Angle_impl_Angle_v2_code) rfl rfl slices_ContainsFunc__impl_Angle_impl_Angle_v2_rs slices_ContainsFunc__impl_Angle_impl_Angle_v2_e
noncomputable def impl_areAll_impl_Angle_v2_s : Spec := ⟨[.v (.sl 27 (.pair (.int .i64) (.pair (.int .i64) (.unit)))) .fr, .fn 81 [] [.v (.ptr (.sl 27 (.pair (.int .i64) (.pair (.int .i64) (.unit))))) .fr]], Bool, fun v => impl_areAll_impl_Angle_v2 v.1 v.2.1.2.1, fun r => ([.v (.bool) .fr r], [])⟩
noncomputable def impl_areAll_impl_Angle_v2_ls : List LSum := []
noncomputable def impl_areAll_impl_Angle_v2_tab : List Row := [⟨49, [], [slices_ContainsFunc__impl_Angle_impl_Angle_v2_s]⟩]
theorem impl_areAll_impl_Angle_v2_t : ∀ r, r ∈ impl_areAll_impl_Angle_v2_tab → RowIs Go.Proofs.Try.prog r := tab_cons (slices_ContainsFunc__impl_Angle_impl_Angle_v2_is) (tab_nil)
theorem impl_areAll_impl_Angle_v2_rs : RoundsOK (mkCtx Go.K.Link.seat impl_areAll_impl_Angle_v2_c impl_areAll_impl_Angle_v2_tab) (sums impl_areAll_impl_Angle_v2_ls) (loopsOf 0 impl_areAll_impl_Angle_v2_code) impl_areAll_impl_Angle_v2_ls := trivial
theorem impl_areAll_impl_Angle_v2_e : ∀ v, (evFn (mkCtx Go.K.Link.seat impl_areAll_impl_Angle_v2_c impl_areAll_impl_Angle_v2_tab) (sums impl_areAll_impl_Angle_v2_ls) 32 Go.Proofs.Try.f32 (encL impl_areAll_impl_Angle_v2_s.a v)).run = (impl_areAll_impl_Angle_v2_s.gen v).bind fun y => some (impl_areAll_impl_Angle_v2_s.out y) := by
  rintro ⟨list, ⟨⟨_, ⟨is'_0, _⟩⟩, _⟩⟩
  show _ = (impl_areAll_impl_Angle_v2 list is'_0).bind fun y : Bool => some (impl_areAll_impl_Angle_v2_s.out y)
  simp only [impl_areAll_impl_Angle_v2, kb_ite, kb_some, kb_none, kb_bind, kb_alt]
  kernel_rfl
theorem impl_areAll_impl_Angle_v2_is : FnIs Go.Proofs.Try.prog 32 (modeOf []) (phi [impl_areAll_impl_Angle_v2_s]) := spec_is (c := impl_areAll_impl_Angle_v2_c) seatOK impl_areAll_impl_Angle_v2_t Go.Proofs.Try.func32 rfl (code := impl_areAll_impl_Angle_v2_code) rfl rfl impl_areAll_impl_Angle_v2_rs impl_areAll_impl_Angle_v2_e
noncomputable def impl_leads_s : Spec := ⟨[.v (.sl 27 (.pair (.int .i64) (.pair (.int .i64) (.unit)))) .fr, .v (.sl 27 (.pair (.int .i64) (.pair (.int .i64) (.unit)))) .fr], Bool, fun v => impl_leads v.1 v.2.1, fun r => ([.v (.bool) .fr r], [])⟩
noncomputable def impl_leads_ls : List LSum := [impl_leads_l0_s]
noncomputable def impl_leads_tab : List Row := [⟨32, [], [impl_areAll_impl_Angle_v2_s]⟩, ⟨35, [], [impl_Angle_double_s]⟩, ⟨39, [], [impl_sorted_s]⟩]
theorem impl_leads_t : ∀ r, r ∈ impl_leads_tab → RowIs Go.Proofs.Try.prog r := tab_cons (impl_areAll_impl_Angle_v2_is) (tab_cons (impl_Angle_double_is) (tab_cons (impl_sorted_is) (tab_nil)))
theorem impl_leads_l0_r : RoundIs (mkCtx Go.K.Link.seat impl_leads_c impl_leads_tab) (sums impl_leads_ls) 0 (bodyAt (loopsOf 0 impl_leads_code) 0) impl_leads_l0_s := by
  rintro ⟨set, ⟨next', ⟨images, ⟨t8, ⟨t9, ⟨t10, _⟩⟩⟩⟩⟩⟩
  show _ = (impl_leads_l0 (set, (next', (images, (t8, (t9, (t10, ()))))))).bind fun r : (Ctl ((List (Int × (Int × Unit))) × (List (Int × (Int × Unit))) × (List (Int × (Int × Unit))) × (List (Int × (Int × Unit))) × Int × Int × Unit) (((List (Int × (Int × Unit))) × (List (Int × (Int × Unit))) × (List (Int × (Int × Unit))) × Unit))) => some (ctlVal impl_leads_l0_s r)
  simp only [impl_leads_l0, kb_ite, kb_some, kb_none, kb_bind, kb_alt]
  kernel_rfl
theorem impl_leads_rs : RoundsOK (mkCtx Go.K.Link.seat impl_leads_c impl_leads_tab) (sums impl_leads_ls) (loopsOf 0 impl_leads_code) impl_leads_ls := ⟨⟨rfl, rfl, impl_leads_l0_r⟩, trivial⟩
theorem impl_leads_e : ∀ v, (evFn (mkCtx Go.K.Link.seat impl_leads_c impl_leads_tab) (sums impl_leads_ls) 73 Go.Proofs.Try.f73 (encL impl_leads_s.a v)).run = (impl_leads_s.gen v).bind fun y => some (impl_leads_s.out y) := by
  rintro ⟨set, ⟨next', _⟩⟩
  show _ = (impl_leads set next').bind fun y : Bool => some (impl_leads_s.out y)
  simp only [impl_leads, kb_ite, kb_some, kb_none, kb_bind, kb_alt]
  kernel_rfl
theorem impl_leads_is : FnIs Go.Proofs.Try.prog 73 (modeOf []) (phi [impl_leads_s]) := spec_is (c := impl_leads_c) seatOK impl_leads_t Go.Proofs.Try.func73 rfl (code := impl_leads_code) rfl rfl impl_leads_rs impl_leads_e
noncomputable def impl_fails_l0_s : LSum := ⟨0, ⟨[(0, .val (.sl 33 (.sl 27 (.pair (.int .i64) (.pair (.int .i64) (.unit))))) .fr), (2, .val (.sl 27 (.pair (.int .i64) (.pair (.int .i64) (.unit)))) (.own .fr)), (0, .val (.sl 33 (.sl 27 (.pair (.int .i64) (.pair (.int .i64) (.unit))))) (.own .fr)), (24, .val (.sl 33 (.sl 27 (.pair (.int .i64) (.pair (.int .i64) (.unit))))) .fr), (0, .val (.int .i64) .fr), (0, .val (.int .i64) .fr)], 55⟩, (.ret, ⟨[(2, .val (.int .i64) .fr)], 84⟩), [(.exit 0, ⟨[(0, .val (.sl 33 (.sl 27 (.pair (.int .i64) (.pair (.int .i64) (.unit))))) .fr), (2, .val (.sl 27 (.pair (.int .i64) (.pair (.int .i64) (.unit)))) (.own .fr)), (0, .val (.sl 33 (.sl 27 (.pair (.int .i64) (.pair (.int .i64) (.unit))))) (.own .fr))], 82⟩)], impl_fails_l0⟩
noncomputable def impl_keeps_code : Code := (Go.Proofs.Try.f74.body).getD .skip
def impl_keeps_c : Cfg := ⟨74, [], [[0, 1, 7, 8, 9], [], [4]], [], [], []⟩
noncomputable def impl_at_code : Code := (Go.Proofs.Try.f82.body).getD .skip
def impl_at_c : Cfg := ⟨82, [], [], [], [], []⟩
noncomputable def impl_at_s : Spec := ⟨[.v (.sl 27 (.pair (.int .i64) (.pair (.int .i64) (.unit)))) .fr, .v (.int .i64) .fr], (Int × (Int × Unit)), fun v => impl_at v.1 v.2.1, fun r => ([.v (.pair (.int .i64) (.pair (.int .i64) (.unit))) .fr r], [])⟩
noncomputable def impl_at_ls : List LSum := []
noncomputable def impl_at_tab : List Row := []
theorem impl_at_t : ∀ r, r ∈ impl_at_tab → RowIs Go.Proofs.Try.prog r := tab_nil
theorem impl_at_rs : RoundsOK (mkCtx Go.K.Link.seat impl_at_c impl_at_tab) (sums impl_at_ls) (loopsOf 0 impl_at_code) impl_at_ls := trivial
theorem impl_at_e : ∀ v, (evFn (mkCtx Go.K.Link.seat impl_at_c impl_at_tab) (sums impl_at_ls) 82 Go.Proofs.Try.f82 (encL impl_at_s.a v)).run = (impl_at_s.gen v).bind fun y => some (impl_at_s.out y) := by
  rintro ⟨set, ⟨i, _⟩⟩
  show _ = (impl_at set i).bind fun y : (Int × (Int × Unit)) => some (impl_at_s.out y)
  simp only [impl_at, kb_ite, kb_some, kb_none, kb_bind, kb_alt]
  kernel_rfl
theorem impl_at_is : FnIs Go.Proofs.Try.prog 82 (modeOf []) (phi [impl_at_s]) := spec_is (c := impl_at_c) seatOK impl_at_t Go.Proofs.Try.func82 rfl (code := impl_at_code) rfl rfl impl_at_rs impl_at_e
noncomputable def impl_keeps_l0_s : LSum := ⟨0, ⟨[(0, .val (.sl 27 (.pair (.int .i64) (.pair (.int .i64) (.unit)))) .fr), (0, .val (.sl 27 (.pair (.int .i64) (.pair (.int .i64) (.unit)))) .fr), (5, .val (.sl 27 (.pair (.int .i64) (.pair (.int .i64) (.unit)))) .fr), (0, .val (.int .i64) .fr), (0, .val (.int .i64) .fr)], 18⟩, (.ret, ⟨[(4, .val (.bool) .fr)], 23⟩), [(.exit 0, ⟨[], 28⟩)], impl_keeps_l0⟩
noncomputable def impl_keeps_s : Spec := ⟨[.v (.sl 27 (.pair (.int .i64) (.pair (.int .i64) (.unit)))) .fr, .v (.sl 27 (.pair (.int .i64) (.pair (.int .i64) (.unit)))) .fr], Bool, fun v => impl_keeps v.1 v.2.1, fun r => ([.v (.bool) .fr r], [])⟩
noncomputable def impl_keeps_ls : List LSum := [impl_keeps_l0_s]
noncomputable def impl_keeps_tab : List Row := [⟨34, [], [slices_Index__impl_Angle_impl_Angle_s]⟩, ⟨35, [], [impl_Angle_double_s]⟩, ⟨82, [], [impl_at_s]⟩]
theorem impl_keeps_t : ∀ r, r ∈ impl_keeps_tab → RowIs Go.Proofs.Try.prog r := tab_cons (slices_Index__impl_Angle_impl_Angle_is) (tab_cons (impl_Angle_double_is) (tab_cons (impl_at_is) (tab_nil)))
theorem impl_keeps_l0_r : RoundIs (mkCtx Go.K.Link.seat impl_keeps_c impl_keeps_tab) (sums impl_keeps_ls) 0 (bodyAt (loopsOf 0 impl_keeps_code) 0) impl_keeps_l0_s := by
  rintro ⟨set, ⟨next', ⟨t7, ⟨t8, ⟨t9, _⟩⟩⟩⟩⟩
  show _ = (impl_keeps_l0 (set, (next', (t7, (t8, (t9, ())))))).bind fun r : (Ctl ((List (Int × (Int × Unit))) × (List (Int × (Int × Unit))) × (List (Int × (Int × Unit))) × Int × Int × Unit) ((Bool × Unit) ⊕ (Unit))) => some (ctlVal impl_keeps_l0_s r)
  simp only [impl_keeps_l0, kb_ite, kb_some, kb_none, kb_bind, kb_alt]
  kernel_rfl
theorem impl_keeps_rs : RoundsOK (mkCtx Go.K.Link.seat impl_keeps_c impl_keeps_tab) (sums impl_keeps_ls) (loopsOf 0 impl_keeps_code) impl_keeps_ls := ⟨⟨rfl, rfl, impl_keeps_l0_r⟩, trivial⟩
theorem impl_keeps_e : ∀ v, (evFn (mkCtx Go.K.Link.seat impl_keeps_c impl_keeps_tab) (sums impl_keeps_ls) 74 Go.Proofs.Try.f74 (encL impl_keeps_s.a v)).run = (impl_keeps_s.gen v).bind fun y => some (impl_keeps_s.out y) := by
  rintro ⟨set, ⟨next', _⟩⟩
  show _ = (impl_keeps set next').bind fun y : Bool => some (impl_keeps_s.out y)
  simp only [impl_keeps, kb_ite, kb_some, kb_none, kb_bind, kb_alt]
  kernel_rfl
theorem impl_keeps_is : FnIs Go.Proofs.Try.prog 74 (modeOf []) (phi [impl_keeps_s]) := spec_is (c := impl_keeps_c) seatOK impl_keeps_t Go.Proofs.Try.func74 rfl (code := impl_keeps_code) rfl rfl impl_keeps_rs impl_keeps_e
noncomputable def impl_fails_l1_s : LSum := ⟨2, ⟨[(0, .val (.sl 33 (.sl 27 (.pair (.int .i64) (.pair (.int .i64) (.unit))))) .fr), (2, .val (.sl 27 (.pair (.int .i64) (.pair (.int .i64) (.unit)))) (.own .fr)), (0, .val (.sl 33 (.sl 27 (.pair (.int .i64) (.pair (.int .i64) (.unit))))) (.own .fr)), (39, .val (.sl 33 (.sl 27 (.pair (.int .i64) (.pair (.int .i64) (.unit))))) .fr), (0, .val (.int .i64) .fr), (0, .val (.int .i64) .fr)], 40⟩, (.ret, ⟨[(2, .val (.int .i64) .fr)], 84⟩), [(.exit 2, ⟨[(0, .val (.sl 33 (.sl 27 (.pair (.int .i64) (.pair (.int .i64) (.unit))))) .fr), (2, .val (.sl 27 (.pair (.int .i64) (.pair (.int .i64) (.unit)))) (.own .fr))], 83⟩)], impl_fails_l1⟩
noncomputable def impl_areUnlinked_code : Code := (Go.Proofs.Try.f75.body).getD .skip
def impl_areUnlinked_c : Cfg := ⟨75, [], [[0, 1, 11, 12, 13], [], [4]], [], [], []⟩
noncomputable def impl_areAll_impl_Angle_v4_code : Code := (Go.Proofs.Try.f32.body).getD .skip
def impl_areAll_impl_Angle_v4_c : Cfg := ⟨32, [], [], [], [], []⟩
noncomputable def slices_ContainsFunc__impl_Angle_impl_Angle_v4_code : Code := (Go.Proofs.Try.f49.body).getD .skip
def slices_ContainsFunc__impl_Angle_impl_Angle_v4_c : Cfg := ⟨49, [], [], [], [], []⟩
noncomputable def slices_IndexFunc__impl_Angle_impl_Angle_v4_code : Code := (Go.Proofs.Try.f62.body).getD .skip
def slices_IndexFunc__impl_Angle_impl_Angle_v4_c : Cfg := ⟨62, [], [[0, 1, 7, 8], [], [4]], [], [], []⟩
noncomputable def impl_areAll_impl_Angle_f1_v4_code : Code := (Go.Proofs.Try.f50.body).getD .skip
def impl_areAll_impl_Angle_f1_v4_c : Cfg := ⟨50, [], [], [], [], []⟩
noncomputable def impl_areUnlinked_f1_code : Code := (Go.Proofs.Try.f83.body).getD .skip
def impl_areUnlinked_f1_c : Cfg := ⟨83, [], [], [], [], []⟩
noncomputable def impl_order_code : Code := (Go.Proofs.Try.f84.body).getD .skip
def impl_order_c : Cfg := ⟨84, [], [], [], [], []⟩
noncomputable def impl_Angle_minus_code : Code := (Go.Proofs.Try.f95.body).getD .skip
def impl_Angle_minus_c : Cfg := ⟨95, [], [], [], [], []⟩
noncomputable def impl_Angle_minus_s : Spec := ⟨[.v (.pair (.int .i64) (.pair (.int .i64) (.unit))) .fr, .v (.pair (.int .i64) (.pair (.int .i64) (.unit))) .fr], (Int × (Int × Unit)), fun v => impl_Angle_minus v.1 v.2.1, fun r => ([.v (.pair (.int .i64) (.pair (.int .i64) (.unit))) .fr r], [])⟩
noncomputable def impl_Angle_minus_ls : List LSum := []
noncomputable def impl_Angle_minus_tab : List Row := [⟨53, [], [impl_angle_s]⟩]
theorem impl_Angle_minus_t : ∀ r, r ∈ impl_Angle_minus_tab → RowIs Go.Proofs.Try.prog r := tab_cons (impl_angle_is) (tab_nil)
theorem impl_Angle_minus_rs : RoundsOK (mkCtx Go.K.Link.seat impl_Angle_minus_c impl_Angle_minus_tab) (sums impl_Angle_minus_ls) (loopsOf 0 impl_Angle_minus_code) impl_Angle_minus_ls := trivial
theorem impl_Angle_minus_e : ∀ v, (evFn (mkCtx Go.K.Link.seat impl_Angle_minus_c impl_Angle_minus_tab) (sums impl_Angle_minus_ls) 95 Go.Proofs.Try.f95 (encL impl_Angle_minus_s.a v)).run = (impl_Angle_minus_s.gen v).bind fun y => some (impl_Angle_minus_s.out y) := by
  rintro ⟨a, ⟨b, _⟩⟩
  show _ = (impl_Angle_minus a b).bind fun y : (Int × (Int × Unit)) => some (impl_Angle_minus_s.out y)
  simp only [impl_Angle_minus, kb_ite, kb_some, kb_none, kb_bind, kb_alt]
  kernel_rfl
theorem impl_Angle_minus_is : FnIs Go.Proofs.Try.prog 95 (modeOf []) (phi [impl_Angle_minus_s]) := spec_is (c := impl_Angle_minus_c) seatOK impl_Angle_minus_t Go.Proofs.Try.func95 rfl (code := impl_Angle_minus_code) rfl rfl impl_Angle_minus_rs impl_Angle_minus_e
noncomputable def impl_order_s : Spec := ⟨[.v (.pair (.int .i64) (.pair (.int .i64) (.unit))) .fr, .v (.pair (.int .i64) (.pair (.int .i64) (.unit))) .fr, .v (.pair (.int .i64) (.pair (.int .i64) (.unit))) .fr], Int, fun v => impl_order v.1 v.2.1 v.2.2.1, fun r => ([.v (.int .i64) .fr r], [])⟩
noncomputable def impl_order_ls : List LSum := []
noncomputable def impl_order_tab : List Row := [⟨57, [], [impl_Angle_compare_s]⟩, ⟨95, [], [impl_Angle_minus_s]⟩]
theorem impl_order_t : ∀ r, r ∈ impl_order_tab → RowIs Go.Proofs.Try.prog r := tab_cons (impl_Angle_compare_is) (tab_cons (impl_Angle_minus_is) (tab_nil))
theorem impl_order_rs : RoundsOK (mkCtx Go.K.Link.seat impl_order_c impl_order_tab) (sums impl_order_ls) (loopsOf 0 impl_order_code) impl_order_ls := trivial
theorem impl_order_e : ∀ v, (evFn (mkCtx Go.K.Link.seat impl_order_c impl_order_tab) (sums impl_order_ls) 84 Go.Proofs.Try.f84 (encL impl_order_s.a v)).run = (impl_order_s.gen v).bind fun y => some (impl_order_s.out y) := by
  rintro ⟨a, ⟨b, ⟨c, _⟩⟩⟩
  show _ = (impl_order a b c).bind fun y : Int => some (impl_order_s.out y)
  simp only [impl_order, kb_ite, kb_some, kb_none, kb_bind, kb_alt]
  kernel_rfl
theorem impl_order_is : FnIs Go.Proofs.Try.prog 84 (modeOf []) (phi [impl_order_s]) := spec_is (c := impl_order_c) seatOK impl_order_t Go.Proofs.Try.func84 rfl (code := impl_order_code) rfl rfl impl_order_rs impl_order_e
noncomputable def impl_areUnlinked_f1_s : Spec := ⟨[.v (.pair (.int .i64) (.pair (.int .i64) (.unit))) .fr, .v (.ptr (.pair (.int .i64) (.pair (.int .i64) (.unit)))) .fr, .v (.ptr (.pair (.int .i64) (.pair (.int .i64) (.unit)))) .fr], Bool, fun v => impl_areUnlinked_f1 v.1 v.2.1 v.2.2.1, fun r => ([.v (.bool) .fr r], [])⟩
noncomputable def impl_areUnlinked_f1_ls : List LSum := []
noncomputable def impl_areUnlinked_f1_tab : List Row := [⟨84, [], [impl_order_s]⟩]
theorem impl_areUnlinked_f1_t : ∀ r, r ∈ impl_areUnlinked_f1_tab → RowIs Go.Proofs.Try.prog r := tab_cons (impl_order_is) (tab_nil)
theorem impl_areUnlinked_f1_rs : RoundsOK (mkCtx Go.K.Link.seat impl_areUnlinked_f1_c impl_areUnlinked_f1_tab) (sums impl_areUnlinked_f1_ls) (loopsOf 0 impl_areUnlinked_f1_code) impl_areUnlinked_f1_ls := trivial
theorem impl_areUnlinked_f1_e : ∀ v, (evFn (mkCtx Go.K.Link.seat impl_areUnlinked_f1_c impl_areUnlinked_f1_tab) (sums impl_areUnlinked_f1_ls) 83 Go.Proofs.Try.f83 (encL impl_areUnlinked_f1_s.a v)).run = (impl_areUnlinked_f1_s.gen v).bind fun y => some (impl_areUnlinked_f1_s.out y) := by
  rintro ⟨x, ⟨t1, ⟨t2, _⟩⟩⟩
  show _ = (impl_areUnlinked_f1 x t1 t2).bind fun y : Bool => some (impl_areUnlinked_f1_s.out y)
  simp only [impl_areUnlinked_f1, kb_ite, kb_some, kb_none, kb_bind, kb_alt]
  kernel_rfl
theorem impl_areUnlinked_f1_is : FnIs Go.Proofs.Try.prog 83 (modeOf []) (phi [impl_areUnlinked_f1_s]) := spec_is (c := impl_areUnlinked_f1_c) seatOK impl_areUnlinked_f1_t Go.Proofs.Try.func83 rfl (code := impl_areUnlinked_f1_code) rfl rfl impl_areUnlinked_f1_rs impl_areUnlinked_f1_e
noncomputable def impl_areAll_impl_Angle_f1_v4_s : Spec := ⟨[.v (.pair (.int .i64) (.pair (.int .i64) (.unit))) .fr, .pfn 83 [] [.v (.ptr (.pair (.int .i64) (.pair (.int .i64) (.unit)))) .fr, .v (.ptr (.pair (.int .i64) (.pair (.int .i64) (.unit)))) .fr]], Bool, fun v => impl_areAll_impl_Angle_f1_v4 v.1 v.2.1.2.1 v.2.1.2.2.1, fun r => ([.v (.bool) .fr r], [])⟩
noncomputable def impl_areAll_impl_Angle_f1_v4_ls : List LSum := []
noncomputable def impl_areAll_impl_Angle_f1_v4_tab : List Row := [⟨83, [], [impl_areUnlinked_f1_s]⟩]
theorem impl_areAll_impl_Angle_f1_v4_t : ∀ r, r ∈ impl_areAll_impl_Angle_f1_v4_tab → RowIs Go.Proofs.Try.prog r := tab_cons (impl_areUnlinked_f1_is) (tab_nil)
theorem impl_areAll_impl_Angle_f1_v4_rs : RoundsOK (mkCtx Go.K.Link.seat impl_areAll_impl_Angle_f1_v4_c impl_areAll_impl_Angle_f1_v4_tab) (sums impl_areAll_impl_Angle_f1_v4_ls) (loopsOf 0 impl_areAll_impl_Angle_f1_v4_code) impl_areAll_impl_Angle_f1_v4_ls := trivial
theorem impl_areAll_impl_Angle_f1_v4_e : ∀ v, (evFn (mkCtx Go.K.Link.seat impl_areAll_impl_Angle_f1_v4_c impl_areAll_impl_Angle_f1_v4_tab) (sums impl_areAll_impl_Angle_f1_v4_ls) 50 Go.Proofs.Try.f50 (encL impl_areAll_impl_Angle_f1_v4_s.a v)).run = (impl_areAll_impl_Angle_f1_v4_s.gen v).bind fun y => some (impl_areAll_impl_Angle_f1_v4_s.out y) := by
  rintro ⟨x, ⟨⟨_, ⟨t1_0, ⟨t1_1, _⟩⟩⟩, _⟩⟩
  show _ = (impl_areAll_impl_Angle_f1_v4 x t1_0 t1_1).bind fun y : Bool => some (impl_areAll_impl_Angle_f1_v4_s.out y)
  simp only [impl_areAll_impl_Angle_f1_v4, kb_ite, kb_some, kb_none, kb_bind, kb_alt]
  kernel_rfl
theorem impl_areAll_impl_Angle_f1_v4_is : FnIs Go.Proofs.Try.prog 50 (modeOf []) (phi [impl_areAll_impl_Angle_f1_v4_s]) := spec_is (c := impl_areAll_impl_Angle_f1_v4_c) seatOK impl_areAll_impl_Angle_f1_v4_t Go.Proofs.Try.func50 rfl (code := impl_areAll_impl_Angle_f1_v4_code) rfl rfl impl_areAll_impl_Angle_f1_v4_rs impl_areAll_impl_Angle_f1_v4_e
noncomputable def slices_IndexFunc__impl_Angle_impl_Angle_v4_l0_s : LSum := ⟨0, ⟨[(0, .val (.sl 27 (.pair (.int .i64) (.pair (.int .i64) (.unit)))) .fr), (0, .fnl 50 [] [.arg (.pfn 83 [] [.v (.ptr (.pair (.int .i64) (.pair (.int .i64) (.unit)))) .fr, .v (.ptr (.pair (.int .i64) (.pair (.int .i64) (.unit)))) .fr])]), (5, .val (.int .i64) .fr), (0, .val (.int .i64) .fr)], 10⟩, (.ret, ⟨[(4, .val (.int .i64) .fr)], 14⟩), [(.exit 0, ⟨[], 19⟩)], slices_IndexFunc__impl_Angle_impl_Angle_v4_l0⟩
noncomputable def slices_IndexFunc__impl_Angle_impl_Angle_v4_s : Spec := ⟨[.v (.sl 27 (.pair (.int .i64) (.pair (.int .i64) (.unit)))) .fr, .fn 50 [] [.pfn 83 [] [.v (.ptr (.pair (.int .i64) (.pair (.int .i64) (.unit)))) .fr, .v (.ptr (.pair (.int .i64) (.pair (.int .i64) (.unit)))) .fr]]], Int, fun v => slices_IndexFunc__impl_Angle_impl_Angle_v4 v.1 v.2.1.2.1.2.1 v.2.1.2.1.2.2.1, fun r => ([.v (.int .i64) .fr r], [])⟩
noncomputable def slices_IndexFunc__impl_Angle_impl_Angle_v4_ls : List LSum := [slices_IndexFunc__impl_Angle_impl_Angle_v4_l0_s]
noncomputable def slices_IndexFunc__impl_Angle_impl_Angle_v4_tab : List Row := [⟨50, [], [impl_areAll_impl_Angle_f1_v4_s]⟩]
theorem slices_IndexFunc__impl_Angle_impl_Angle_v4_t : ∀ r, r ∈ slices_IndexFunc__impl_Angle_impl_Angle_v4_tab → RowIs Go.Proofs.Try.prog r := tab_cons (impl_areAll_impl_Angle_f1_v4_is) (tab_nil)
theorem slices_IndexFunc__impl_Angle_impl_Angle_v4_l0_r : RoundIs (mkCtx Go.K.Link.seat slices_IndexFunc__impl_Angle_impl_Angle_v4_c slices_IndexFunc__impl_Angle_impl_Angle_v4_tab) (sums slices_IndexFunc__impl_Angle_impl_Angle_v4_ls) 0 (bodyAt (loopsOf 0 slices_IndexFunc__impl_Angle_impl_Angle_v4_code) 0) slices_IndexFunc__impl_Angle_impl_Angle_v4_l0_s := by
  rintro ⟨s, ⟨_, ⟨⟨_, ⟨f_0, ⟨f_1, _⟩⟩⟩, _⟩, ⟨t7, ⟨t8, _⟩⟩⟩⟩
  show _ = (slices_IndexFunc__impl_Angle_impl_Angle_v4_l0 (s, ((), (((), (f_0, (f_1, ()))), ()), (t7, (t8, ()))))).bind fun r : (Ctl ((List (Int × (Int × Unit))) × Unit × ((Unit × ((Int × (Int × Unit)) × ((Int × (Int × Unit)) × Unit))) × Unit) × Int × Int × Unit) ((Int × Unit) ⊕ (Unit))) => some (ctlVal slices_IndexFunc__impl_Angle_impl_Angle_v4_l0_s r)
  simp only [slices_IndexFunc__impl_Angle_impl_Angle_v4_l0, kb_ite, kb_some, kb_none, kb_bind, kb_alt]
  kernel_rfl
theorem slices_IndexFunc__impl_Angle_impl_Angle_v4_rs : RoundsOK (mkCtx Go.K.Link.seat slices_IndexFunc__impl_Angle_impl_Angle_v4_c slices_IndexFunc__impl_Angle_impl_Angle_v4_tab) (sums slices_IndexFunc__impl_Angle_impl_Angle_v4_ls) (loopsOf 0 slices_IndexFunc__impl_Angle_impl_Angle_v4_code) slices_IndexFunc__impl_Angle_impl_Angle_v4_ls := ⟨⟨rfl, rfl, slices_IndexFunc__impl_Angle_impl_Angle_v4_l0_r⟩, trivial⟩
theorem slices_IndexFunc__impl_Angle_impl_Angle_v4_e : ∀ v, (evFn (mkCtx Go.K.Link.seat slices_IndexFunc__impl_Angle_impl_Angle_v4_c slices_IndexFunc__impl_Angle_impl_Angle_v4_tab) (sums slices_IndexFunc__impl_Angle_impl_Angle_v4_ls) 62 Go.Proofs.Try.f62 (encL slices_IndexFunc__impl_Angle_impl_Angle_v4_s.a v)).run = (slices_IndexFunc__impl_Angle_impl_Angle_v4_s.gen v).bind fun y => some (slices_IndexFunc__impl_Angle_impl_Angle_v4_s.out y) := by
  rintro ⟨s, ⟨⟨_, ⟨⟨_, ⟨f_0_1, ⟨f_0_2, _⟩⟩⟩, _⟩⟩, _⟩⟩
  show _ = (slices_IndexFunc__impl_Angle_impl_Angle_v4 s f_0_1 f_0_2).bind fun y : Int => some (slices_IndexFunc__impl_Angle_impl_Angle_v4_s.out y)
  simp only [slices_IndexFunc__impl_Angle_impl_Angle_v4, kb_ite, kb_some, kb_none, kb_bind, kb_alt]
  kernel_rfl
theorem slices_IndexFunc__impl_Angle_impl_Angle_v4_is : FnIs Go.Proofs.Try.prog 62 (modeOf []) (phi [slices_IndexFunc__impl_Angle_impl_Angle_v4_s]) := spec_is (c := slices_IndexFunc__impl_Angle_impl_Angle_v4_c) seatOK slices_IndexFunc__impl_Angle_impl_Angle_v4_t Go.Proofs.Try.func62 rfl (code := slices_IndexFunc__impl_Angle_impl_Angle_v4_code) rfl rfl slices_IndexFunc__impl_Angle_impl_Angle_v4_rs slices_IndexFunc__impl_Angle_impl_Angle_v4_e
noncomputable def slices_ContainsFunc__impl_Angle_impl_Angle_v4_s : Spec := ⟨[.v (.sl 27 (.pair (.int .i64) (.pair (.int .i64) (.unit)))) .fr, .fn 50 [] [.pfn 83 [] [.v (.ptr (.pair (.int .i64) (.pair (.int .i64) (.unit)))) .fr, .v (.ptr (.pair (.int .i64) (.pair (.int .i64) (.unit)))) .fr]]], Bool, fun v => slices_ContainsFunc__impl_Angle_impl_Angle_v4 v.1 v.2.1.2.1.2.1 v.2.1.2.1.2.2.1, fun r => ([.v (.bool) .fr r], [])⟩
noncomputable def slices_ContainsFunc__impl_Angle_impl_Angle_v4_ls : List LSum := []
noncomputable def slices_ContainsFunc__impl_Angle_impl_Angle_v4_tab : List Row := [⟨62, [], [slices_IndexFunc__impl_Angle_impl_Angle_v4_s]⟩]
theorem slices_ContainsFunc__impl_Angle_impl_Angle_v4_t : ∀ r, r ∈ slices_ContainsFunc__impl_Angle_impl_Angle_v4_tab → RowIs Go.Proofs.Try.prog r := tab_cons (slices_IndexFunc__impl_Angle_impl_Angle_v4_is) (tab_nil)
theorem slices_ContainsFunc__impl_Angle_impl_Angle_v4_rs : RoundsOK (mkCtx Go.K.Link.seat slices_ContainsFunc__impl_Angle_impl_Angle_v4_c slices_ContainsFunc__impl_Angle_impl_Angle_v4_tab) (sums slices_ContainsFunc__impl_Angle_impl_Angle_v4_ls) (loopsOf 0 slices_ContainsFunc__impl_Angle_impl_Angle_v4_code) slices_ContainsFunc__impl_Angle_impl_Angle_v4_ls := trivial
theorem slices_ContainsFunc__impl_Angle_impl_Angle_v4_e : ∀ v, (evFn (mkCtx Go.K.Link.seat slices_ContainsFunc__impl_Angle_impl_Angle_v4_c slices_ContainsFunc__impl_Angle_impl_Angle_v4_tab) (sums slices_ContainsFunc__impl_Angle_impl_Angle_v4_ls) 49 Go.Proofs.Try.f49 (encL slices_ContainsFunc__impl_Angle_impl_Angle_v4_s.a v)).run = (slices_ContainsFunc__impl_Angle_impl_Angle_v4_s.gen v).bind fun y => some (slices_ContainsFunc__impl_Angle_impl_Angle_v4_s.out y) := by
  rintro ⟨s, ⟨⟨_, ⟨⟨_, ⟨f_0_1, ⟨f_0_2, _⟩⟩⟩, _⟩⟩, _⟩⟩
  show _ = (slices_ContainsFunc__impl_Angle_impl_Angle_v4 s f_0_1 f_0_2).bind fun y : Bool => some (slices_ContainsFunc__impl_Angle_impl_Angle_v4_s.out y)
  simp only [slices_ContainsFunc__impl_Angle_impl_Angle_v4, kb_ite, kb_some, kb_none, kb_bind, kb_alt]
  kernel_rfl
theorem slices_ContainsFunc__impl_Angle_impl_Angle_v4_is : FnIs Go.Proofs.Try.prog 49 (modeOf []) (phi [slices_ContainsFunc__impl_Angle_impl_Angle_v4_s]) := spec_is (c := slices_ContainsFunc__impl_Angle_impl_Angle_v4_c) seatOK slices_ContainsFunc__impl_Angle_impl_Angle_v4_t Go.Proofs.Try.func49 rfl (code := slices_ContainsFunc__impl_Angle_impl_Angle_v4_code) rfl rfl slices_ContainsFunc__impl_Angle_impl_Angle_v4_rs slices_ContainsFunc__impl_Angle_impl_Angle_v4_e
noncomputable def impl_areAll_impl_Angle_v4_s : Spec := ⟨[.v (.sl 27 (.pair (.int .i64) (.pair (.int .i64) (.unit)))) .fr, .fn 83 [] [.v (.ptr (.pair (.int .i64) (.pair (.int .i64) (.unit)))) .fr, .v (.ptr (.pair (.int .i64) (.pair (.int .i64) (.unit)))) .fr]], Bool, fun v => impl_areAll_impl_Angle_v4 v.1 v.2.1.2.1 v.2.1.2.2.1, fun r => ([.v (.bool) .fr r], [])⟩
noncomputable def impl_areAll_impl_Angle_v4_ls : List LSum := []
noncomputable def impl_areAll_impl_Angle_v4_tab : List Row := [⟨49, [], [slices_ContainsFunc__impl_Angle_impl_Angle_v4_s]⟩]
theorem impl_areAll_impl_Angle_v4_t : ∀ r, r ∈ impl_areAll_impl_Angle_v4_tab → RowIs Go.Proofs.Try.prog r := tab_cons (slices_ContainsFunc__impl_Angle_impl_Angle_v4_is) (tab_nil)
theorem impl_areAll_impl_Angle_v4_rs : RoundsOK (mkCtx Go.K.Link.seat impl_areAll_impl_Angle_v4_c impl_areAll_impl_Angle_v4_tab) (sums impl_areAll_impl_Angle_v4_ls) (loopsOf 0 impl_areAll_impl_Angle_v4_code) impl_areAll_impl_Angle_v4_ls := trivial
theorem impl_areAll_impl_Angle_v4_e : ∀ v, (evFn (mkCtx Go.K.Link.seat impl_areAll_impl_Angle_v4_c impl_areAll_impl_Angle_v4_tab) (sums impl_areAll_impl_Angle_v4_ls) 32 Go.Proofs.Try.f32 (encL impl_areAll_impl_Angle_v4_s.a v)).run = (impl_areAll_impl_Angle_v4_s.gen v).bind fun y => some (impl_areAll_impl_Angle_v4_s.out y) := by
  rintro ⟨list, ⟨⟨_, ⟨is'_0, ⟨is'_1, _⟩⟩⟩, _⟩⟩
  show _ = (impl_areAll_impl_Angle_v4 list is'_0 is'_1).bind fun y : Bool => some (impl_areAll_impl_Angle_v4_s.out y)
  simp only [impl_areAll_impl_Angle_v4, kb_ite, kb_some, kb_none, kb_bind, kb_alt]
  kernel_rfl
theorem impl_areAll_impl_Angle_v4_is : FnIs Go.Proofs.Try.prog 32 (modeOf []) (phi [impl_areAll_impl_Angle_v4_s]) := spec_is (c := impl_areAll_impl_Angle_v4_c) seatOK impl_areAll_impl_Angle_v4_t Go.Proofs.Try.func32 rfl (code := impl_areAll_impl_Angle_v4_code) rfl rfl impl_areAll_impl_Angle_v4_rs impl_areAll_impl_Angle_v4_e
noncomputable def impl_areUnlinked_l0_s : LSum := ⟨0, ⟨[(0, .val (.sl 27 (.pair (.int .i64) (.pair (.int .i64) (.unit)))) .fr), (0, .val (.sl 27 (.pair (.int .i64) (.pair (.int .i64) (.unit)))) .fr), (9, .val (.sl 27 (.pair (.int .i64) (.pair (.int .i64) (.unit)))) .fr), (0, .val (.int .i64) .fr), (0, .val (.int .i64) .fr)], 12⟩, (.ret, ⟨[(4, .val (.bool) .fr)], 21⟩), [(.exit 0, ⟨[], 26⟩)], impl_areUnlinked_l0⟩
noncomputable def impl_areUnlinked_s : Spec := ⟨[.v (.sl 27 (.pair (.int .i64) (.pair (.int .i64) (.unit)))) .fr, .v (.sl 27 (.pair (.int .i64) (.pair (.int .i64) (.unit)))) .fr], Bool, fun v => impl_areUnlinked v.1 v.2.1, fun r => ([.v (.bool) .fr r], [])⟩
noncomputable def impl_areUnlinked_ls : List LSum := [impl_areUnlinked_l0_s]
noncomputable def impl_areUnlinked_tab : List Row := [⟨32, [], [impl_areAll_impl_Angle_v4_s]⟩, ⟨82, [], [impl_at_s]⟩]
theorem impl_areUnlinked_t : ∀ r, r ∈ impl_areUnlinked_tab → RowIs Go.Proofs.Try.prog r := tab_cons (impl_areAll_impl_Angle_v4_is) (tab_cons (impl_at_is) (tab_nil))
theorem impl_areUnlinked_l0_r : RoundIs (mkCtx Go.K.Link.seat impl_areUnlinked_c impl_areUnlinked_tab) (sums impl_areUnlinked_ls) 0 (bodyAt (loopsOf 0 impl_areUnlinked_code) 0) impl_areUnlinked_l0_s := by
  rintro ⟨set, ⟨other, ⟨t11, ⟨t12, ⟨t13, _⟩⟩⟩⟩⟩
  show _ = (impl_areUnlinked_l0 (set, (other, (t11, (t12, (t13, ())))))).bind fun r : (Ctl ((List (Int × (Int × Unit))) × (List (Int × (Int × Unit))) × (List (Int × (Int × Unit))) × Int × Int × Unit) ((Bool × Unit) ⊕ (Unit))) => some (ctlVal impl_areUnlinked_l0_s r)
  simp only [impl_areUnlinked_l0, kb_ite, kb_some, kb_none, kb_bind, kb_alt]
  kernel_rfl
theorem impl_areUnlinked_rs : RoundsOK (mkCtx Go.K.Link.seat impl_areUnlinked_c impl_areUnlinked_tab) (sums impl_areUnlinked_ls) (loopsOf 0 impl_areUnlinked_code) impl_areUnlinked_ls := ⟨⟨rfl, rfl, impl_areUnlinked_l0_r⟩, trivial⟩
theorem impl_areUnlinked_e : ∀ v, (evFn (mkCtx Go.K.Link.seat impl_areUnlinked_c impl_areUnlinked_tab) (sums impl_areUnlinked_ls) 75 Go.Proofs.Try.f75 (encL impl_areUnlinked_s.a v)).run = (impl_areUnlinked_s.gen v).bind fun y => some (impl_areUnlinked_s.out y) := by
  rintro ⟨set, ⟨other, _⟩⟩
  show _ = (impl_areUnlinked set other).bind fun y : Bool => some (impl_areUnlinked_s.out y)
  simp only [impl_areUnlinked, kb_ite, kb_some, kb_none, kb_bind, kb_alt]
  kernel_rfl
theorem impl_areUnlinked_is : FnIs Go.Proofs.Try.prog 75 (modeOf []) (phi [impl_areUnlinked_s]) := spec_is (c := impl_areUnlinked_c) seatOK impl_areUnlinked_t Go.Proofs.Try.func75 rfl (code := impl_areUnlinked_code) rfl rfl impl_areUnlinked_rs impl_areUnlinked_e
noncomputable def impl_fails_l3_s : LSum := ⟨6, ⟨[(0, .val (.sl 33 (.sl 27 (.pair (.int .i64) (.pair (.int .i64) (.unit))))) .fr), (8, .val (.int .i64) .fr), (0, .val (.sl 27 (.pair (.int .i64) (.pair (.int .i64) (.unit)))) .fr), (51, .val (.sl 33 (.sl 27 (.pair (.int .i64) (.pair (.int .i64) (.unit))))) .fr), (0, .val (.int .i64) .fr), (0, .val (.int .i64) .fr), (2, .val (.ptr (.sl 27 (.pair (.int .i64) (.pair (.int .i64) (.unit))))) .fr), (0, .val (.sl 27 (.pair (.int .i64) (.pair (.int .i64) (.unit)))) .fr), (0, .val (.sl 33 (.sl 27 (.pair (.int .i64) (.pair (.int .i64) (.unit))))) .fr), (0, .val (.int .i64) .fr), (0, .val (.int .i64) .fr)], 15⟩, (.ret, ⟨[(2, .val (.int .i64) .fr)], 84⟩), [(.exit 6, ⟨[(0, .val (.sl 33 (.sl 27 (.pair (.int .i64) (.pair (.int .i64) (.unit))))) .fr), (61, .val (.sl 33 (.sl 27 (.pair (.int .i64) (.pair (.int .i64) (.unit))))) .fr), (0, .val (.int .i64) .fr), (0, .val (.int .i64) .fr)], 22⟩)], impl_fails_l3⟩
noncomputable def impl_fails_l2_s : LSum := ⟨4, ⟨[(0, .val (.sl 33 (.sl 27 (.pair (.int .i64) (.pair (.int .i64) (.unit))))) .fr), (61, .val (.sl 33 (.sl 27 (.pair (.int .i64) (.pair (.int .i64) (.unit))))) .fr), (0, .val (.int .i64) .fr), (0, .val (.int .i64) .fr)], 22⟩, (.ret, ⟨[(2, .val (.int .i64) .fr)], 84⟩), [(.exit 4, ⟨[], 87⟩)], impl_fails_l2⟩
noncomputable def impl_fails_s : Spec := ⟨[.v (.sl 33 (.sl 27 (.pair (.int .i64) (.pair (.int .i64) (.unit))))) .fr], Int, fun v => impl_fails v.1, fun r => ([.v (.int .i64) .fr r], [])⟩
noncomputable def impl_fails_ls : List LSum := [impl_fails_l0_s, impl_fails_l1_s, impl_fails_l2_s, impl_fails_l3_s]
noncomputable def impl_fails_tab : List Row := [⟨16, [], [impl_periodic_s]⟩, ⟨39, [], [impl_sorted_s]⟩, ⟨58, [], [slices_Concat__impl_Angle_impl_Angle_s]⟩, ⟨72, [], [slices_Clone___impl_Angle__impl_Angle_s]⟩, ⟨73, [], [impl_leads_s]⟩, ⟨74, [], [impl_keeps_s]⟩, ⟨75, [], [impl_areUnlinked_s]⟩]
theorem impl_fails_t : ∀ r, r ∈ impl_fails_tab → RowIs Go.Proofs.Try.prog r := tab_cons (impl_periodic_is) (tab_cons (impl_sorted_is) (tab_cons (slices_Concat__impl_Angle_impl_Angle_is) (tab_cons (slices_Clone___impl_Angle__impl_Angle_is) (tab_cons (impl_leads_is) (tab_cons (impl_keeps_is) (tab_cons (impl_areUnlinked_is) (tab_nil)))))))
theorem impl_fails_l0_r : RoundIs (mkCtx Go.K.Link.seat impl_fails_c impl_fails_tab) (sums impl_fails_ls) 0 (bodyAt (loopsOf 0 impl_fails_code) 0) impl_fails_l0_s := by
  rintro ⟨sets, ⟨all, ⟨next', ⟨t29, ⟨t30, ⟨t31, _⟩⟩⟩⟩⟩⟩
  show _ = (impl_fails_l0 (sets, (all, (next', (t29, (t30, (t31, ()))))))).bind fun r : (Ctl ((List (List (Int × (Int × Unit)))) × (List (Int × (Int × Unit))) × (List (List (Int × (Int × Unit)))) × (List (List (Int × (Int × Unit)))) × Int × Int × Unit) ((Int × Unit) ⊕ ((List (List (Int × (Int × Unit)))) × (List (Int × (Int × Unit))) × (List (List (Int × (Int × Unit)))) × Unit))) => some (ctlVal impl_fails_l0_s r)
  simp only [impl_fails_l0, kb_ite, kb_some, kb_none, kb_bind, kb_alt]
  kernel_rfl
theorem impl_fails_l1_r : RoundIs (mkCtx Go.K.Link.seat impl_fails_c impl_fails_tab) (sums impl_fails_ls) 2 (bodyAt (loopsOf 0 impl_fails_code) 1) impl_fails_l1_s := by
  rintro ⟨sets, ⟨all, ⟨next', ⟨t44, ⟨t45, ⟨t46, _⟩⟩⟩⟩⟩⟩
  show _ = (impl_fails_l1 (sets, (all, (next', (t44, (t45, (t46, ()))))))).bind fun r : (Ctl ((List (List (Int × (Int × Unit)))) × (List (Int × (Int × Unit))) × (List (List (Int × (Int × Unit)))) × (List (List (Int × (Int × Unit)))) × Int × Int × Unit) ((Int × Unit) ⊕ ((List (List (Int × (Int × Unit)))) × (List (Int × (Int × Unit))) × Unit))) => some (ctlVal impl_fails_l1_s r)
  simp only [impl_fails_l1, kb_ite, kb_some, kb_none, kb_bind, kb_alt]
  kernel_rfl
theorem impl_fails_l2_r : RoundIs (mkCtx Go.K.Link.seat impl_fails_c impl_fails_tab) (sums impl_fails_ls) 4 (bodyAt (loopsOf 0 impl_fails_code) 2) impl_fails_l2_s := by
  rintro ⟨sets, ⟨t62, ⟨t63, ⟨t64, _⟩⟩⟩⟩
  show _ = (impl_fails_l2 (sets, (t62, (t63, (t64, ()))))).bind fun r : (Ctl ((List (List (Int × (Int × Unit)))) × (List (List (Int × (Int × Unit)))) × Int × Int × Unit) ((Int × Unit) ⊕ (Unit))) => some (ctlVal impl_fails_l2_s r)
  simp only [impl_fails_l2, kb_ite, kb_some, kb_none, kb_bind, kb_alt]
  kernel_rfl
theorem impl_fails_l3_r : RoundIs (mkCtx Go.K.Link.seat impl_fails_c impl_fails_tab) (sums impl_fails_ls) 6 (bodyAt (loopsOf 0 impl_fails_code) 3) impl_fails_l3_s := by
  rintro ⟨sets, ⟨i, ⟨set, ⟨t62, ⟨t63, ⟨t64, ⟨t67, ⟨t68, ⟨t69, ⟨t70, ⟨t71, _⟩⟩⟩⟩⟩⟩⟩⟩⟩⟩⟩
  show _ = (impl_fails_l3 (sets, (i, (set, (t62, (t63, (t64, (t67, (t68, (t69, (t70, (t71, ())))))))))))).bind fun r : (Ctl ((List (List (Int × (Int × Unit)))) × Int × (List (Int × (Int × Unit))) × (List (List (Int × (Int × Unit)))) × Int × Int × (List (Int × (Int × Unit))) × (List (Int × (Int × Unit))) × (List (List (Int × (Int × Unit)))) × Int × Int × Unit) ((Int × Unit) ⊕ ((List (List (Int × (Int × Unit)))) × (List (List (Int × (Int × Unit)))) × Int × Int × Unit))) => some (ctlVal impl_fails_l3_s r)
  simp only [impl_fails_l3, kb_ite, kb_some, kb_none, kb_bind, kb_alt]
  kernel_rfl
theorem impl_fails_rs : RoundsOK (mkCtx Go.K.Link.seat impl_fails_c impl_fails_tab) (sums impl_fails_ls) (loopsOf 0 impl_fails_code) impl_fails_ls := ⟨⟨rfl, rfl, impl_fails_l0_r⟩, ⟨⟨rfl, rfl, impl_fails_l1_r⟩, ⟨⟨rfl, rfl, impl_fails_l2_r⟩, ⟨⟨rfl, rfl, impl_fails_l3_r⟩, trivial⟩⟩⟩⟩
theorem impl_fails_e : ∀ v, (evFn (mkCtx Go.K.Link.seat impl_fails_c impl_fails_tab) (sums impl_fails_ls) 60 Go.Proofs.Try.f60 (encL impl_fails_s.a v)).run = (impl_fails_s.gen v).bind fun y => some (impl_fails_s.out y) := by
  rintro ⟨sets, _⟩
  show _ = (impl_fails sets).bind fun y : Int => some (impl_fails_s.out y)
  simp only [impl_fails, kb_ite, kb_some, kb_none, kb_bind, kb_alt]
  kernel_rfl
theorem impl_fails_is : FnIs Go.Proofs.Try.prog 60 (modeOf []) (phi [impl_fails_s]) := spec_is (c := impl_fails_c) seatOK impl_fails_t Go.Proofs.Try.func60 rfl (code := impl_fails_code) rfl rfl impl_fails_rs impl_fails_e
noncomputable def impl_PortraitThatFails_s : Spec := ⟨[.v (.sl 33 (.sl 27 (.pair (.int .i64) (.pair (.int .i64) (.unit))))) .fr], Int × Int, fun v => impl_PortraitThatFails v.1, fun r => ([.v (.int .i64) .fr r.1, .v (.int .i64) .fr r.2], [])⟩
noncomputable def impl_PortraitThatFails_ls : List LSum := []
noncomputable def impl_PortraitThatFails_tab : List Row := [⟨14, [], [impl_anglesCode_s]⟩, ⟨58, [], [slices_Concat__impl_Angle_impl_Angle_s]⟩, ⟨59, [], [impl_areSets_s]⟩, ⟨60, [], [impl_fails_s]⟩]
theorem impl_PortraitThatFails_t : ∀ r, r ∈ impl_PortraitThatFails_tab → RowIs Go.Proofs.Try.prog r := tab_cons (impl_anglesCode_is) (tab_cons (slices_Concat__impl_Angle_impl_Angle_is) (tab_cons (impl_areSets_is) (tab_cons (impl_fails_is) (tab_nil))))
theorem impl_PortraitThatFails_rs : RoundsOK (mkCtx Go.K.Link.seat impl_PortraitThatFails_c impl_PortraitThatFails_tab) (sums impl_PortraitThatFails_ls) (loopsOf 0 impl_PortraitThatFails_code) impl_PortraitThatFails_ls := trivial
theorem impl_PortraitThatFails_e : ∀ v, (evFn (mkCtx Go.K.Link.seat impl_PortraitThatFails_c impl_PortraitThatFails_tab) (sums impl_PortraitThatFails_ls) 40 Go.Proofs.Try.f40 (encL impl_PortraitThatFails_s.a v)).run = (impl_PortraitThatFails_s.gen v).bind fun y => some (impl_PortraitThatFails_s.out y) := by
  rintro ⟨sets, _⟩
  show _ = (impl_PortraitThatFails sets).bind fun y : Int × Int => some (impl_PortraitThatFails_s.out y)
  simp only [impl_PortraitThatFails, kb_ite, kb_some, kb_none, kb_bind, kb_alt]
  kernel_rfl
theorem impl_PortraitThatFails_is : FnIs Go.Proofs.Try.prog 40 (modeOf []) (phi [impl_PortraitThatFails_s]) := spec_is (c := impl_PortraitThatFails_c) seatOK impl_PortraitThatFails_t Go.Proofs.Try.func40 rfl (code := impl_PortraitThatFails_code) rfl rfl impl_PortraitThatFails_rs impl_PortraitThatFails_e
noncomputable def impl_IsPortrait_s : Spec := ⟨[.v (.sl 33 (.sl 27 (.pair (.int .i64) (.pair (.int .i64) (.unit))))) .fr], Bool, fun v => impl_IsPortrait v.1, fun r => ([.v (.bool) .fr r], [])⟩
noncomputable def impl_IsPortrait_ls : List LSum := []
noncomputable def impl_IsPortrait_tab : List Row := [⟨40, [], [impl_PortraitThatFails_s]⟩]
theorem impl_IsPortrait_t : ∀ r, r ∈ impl_IsPortrait_tab → RowIs Go.Proofs.Try.prog r := tab_cons (impl_PortraitThatFails_is) (tab_nil)
theorem impl_IsPortrait_rs : RoundsOK (mkCtx Go.K.Link.seat impl_IsPortrait_c impl_IsPortrait_tab) (sums impl_IsPortrait_ls) (loopsOf 0 impl_IsPortrait_code) impl_IsPortrait_ls := trivial
theorem impl_IsPortrait_e : ∀ v, (evFn (mkCtx Go.K.Link.seat impl_IsPortrait_c impl_IsPortrait_tab) (sums impl_IsPortrait_ls) 21 Go.Proofs.Try.f21 (encL impl_IsPortrait_s.a v)).run = (impl_IsPortrait_s.gen v).bind fun y => some (impl_IsPortrait_s.out y) := by
  rintro ⟨sets, _⟩
  show _ = (impl_IsPortrait sets).bind fun y : Bool => some (impl_IsPortrait_s.out y)
  simp only [impl_IsPortrait, kb_ite, kb_some, kb_none, kb_bind, kb_alt]
  kernel_rfl
theorem impl_IsPortrait_is : FnIs Go.Proofs.Try.prog 21 (modeOf []) (phi [impl_IsPortrait_s]) := spec_is (c := impl_IsPortrait_c) seatOK impl_IsPortrait_t Go.Proofs.Try.func21 rfl (code := impl_IsPortrait_code) rfl rfl impl_IsPortrait_rs impl_IsPortrait_e
noncomputable def impl_PortraitOf_s : Spec := ⟨[.v (.pair (.int .i64) (.pair (.int .i64) (.unit))) .fr, .v (.pair (.int .i64) (.pair (.int .i64) (.unit))) .fr], (List (List (Int × (Int × Unit)))) × Int, fun v => impl_PortraitOf v.1 v.2.1, fun r => ([.v (.sl 33 (.sl 27 (.pair (.int .i64) (.pair (.int .i64) (.unit))))) (.own (.own .fr)) r.1, .v (.int .i64) .fr r.2], [])⟩
noncomputable def impl_PortraitOf_ls : List LSum := [impl_PortraitOf_l0_s, impl_PortraitOf_l1_s]
noncomputable def impl_PortraitOf_tab : List Row := [⟨14, [], [impl_anglesCode_s]⟩, ⟨15, [], [impl_Angle_orbit_s]⟩, ⟨16, [], [impl_periodic_s]⟩, ⟨17, [], [slices_ContainsFunc___impl_Angle__impl_Angle_v2_s]⟩, ⟨20, [], [impl_hang_s]⟩, ⟨21, [], [impl_IsPortrait_s]⟩]
theorem impl_PortraitOf_t : ∀ r, r ∈ impl_PortraitOf_tab → RowIs Go.Proofs.Try.prog r := tab_cons (impl_anglesCode_is) (tab_cons (impl_Angle_orbit_is) (tab_cons (impl_periodic_is) (tab_cons (slices_ContainsFunc___impl_Angle__impl_Angle_v2_is) (tab_cons (impl_hang_is) (tab_cons (impl_IsPortrait_is) (tab_nil))))))
theorem impl_PortraitOf_l0_r : RoundIs (mkCtx Go.K.Link.seat impl_PortraitOf_c impl_PortraitOf_tab) (sums impl_PortraitOf_ls) 1 (bodyAt (loopsOf 0 impl_PortraitOf_code) 0) impl_PortraitOf_l0_s := by
  rintro ⟨x, ⟨y, ⟨pairs, ⟨t57, ⟨t58, _⟩⟩⟩⟩⟩
  show _ = (impl_PortraitOf_l0 (x, (y, (pairs, (t57, (t58, ())))))).bind fun r : (Ctl ((List (Int × (Int × Unit))) × (List (Int × (Int × Unit))) × (List (List (Int × (Int × Unit)))) × Int × Int × Unit) (((List (Int × (Int × Unit))) × (List (List (Int × (Int × Unit)))) × Unit))) => some (ctlVal impl_PortraitOf_l0_s r)
  simp only [impl_PortraitOf_l0, kb_ite, kb_some, kb_none, kb_bind, kb_alt]
  kernel_rfl
theorem impl_PortraitOf_l1_r : RoundIs (mkCtx Go.K.Link.seat impl_PortraitOf_c impl_PortraitOf_tab) (sums impl_PortraitOf_ls) 3 (bodyAt (loopsOf 0 impl_PortraitOf_code) 1) impl_PortraitOf_l1_s := by
  rintro ⟨x, ⟨pairs, ⟨sets, ⟨all, ⟨t75, ⟨t76, _⟩⟩⟩⟩⟩⟩
  show _ = (impl_PortraitOf_l1 (x, (pairs, (sets, (all, (t75, (t76, ()))))))).bind fun r : (Ctl ((List (Int × (Int × Unit))) × (List (List (Int × (Int × Unit)))) × (List (List (Int × (Int × Unit)))) × Int × Int × Int × Unit) (((List (List (Int × (Int × Unit)))) × Int × Unit))) => some (ctlVal impl_PortraitOf_l1_s r)
  simp only [impl_PortraitOf_l1, kb_ite, kb_some, kb_none, kb_bind, kb_alt]
  kernel_rfl
theorem impl_PortraitOf_rs : RoundsOK (mkCtx Go.K.Link.seat impl_PortraitOf_c impl_PortraitOf_tab) (sums impl_PortraitOf_ls) (loopsOf 0 impl_PortraitOf_code) impl_PortraitOf_ls := ⟨⟨rfl, rfl, impl_PortraitOf_l0_r⟩, ⟨⟨rfl, rfl, impl_PortraitOf_l1_r⟩, trivial⟩⟩
theorem impl_PortraitOf_e : ∀ v, (evFn (mkCtx Go.K.Link.seat impl_PortraitOf_c impl_PortraitOf_tab) (sums impl_PortraitOf_ls) 6 Go.Proofs.Try.f6 (encL impl_PortraitOf_s.a v)).run = (impl_PortraitOf_s.gen v).bind fun y => some (impl_PortraitOf_s.out y) := by
  rintro ⟨a, ⟨b, _⟩⟩
  show _ = (impl_PortraitOf a b).bind fun y : (List (List (Int × (Int × Unit)))) × Int => some (impl_PortraitOf_s.out y)
  simp only [impl_PortraitOf, kb_ite, kb_some, kb_none, kb_bind, kb_alt]
  kernel_rfl
theorem impl_PortraitOf_is : FnIs Go.Proofs.Try.prog 6 (modeOf []) (phi [impl_PortraitOf_s]) := spec_is (c := impl_PortraitOf_c) seatOK impl_PortraitOf_t Go.Proofs.Try.func6 rfl (code := impl_PortraitOf_code) rfl rfl impl_PortraitOf_rs impl_PortraitOf_e
noncomputable def laws_eqAngleSS_code : Code := (Go.Proofs.Try.f7.body).getD .skip
def laws_eqAngleSS_c : Cfg := ⟨7, [], [[0, 1, 5], [], [4]], [], [], []⟩
noncomputable def laws_eqAngleS_code : Code := (Go.Proofs.Try.f22.body).getD .skip
def laws_eqAngleS_c : Cfg := ⟨22, [], [[0, 1, 5], [], [4]], [], [], []⟩
noncomputable def laws_eqAngle_code : Code := (Go.Proofs.Try.f41.body).getD .skip
def laws_eqAngle_c : Cfg := ⟨41, [], [], [], [], []⟩
noncomputable def laws_eqAngle_s : Spec := ⟨[.v (.pair (.int .i64) (.pair (.int .i64) (.unit))) .fr, .v (.pair (.int .i64) (.pair (.int .i64) (.unit))) .fr], Bool, fun v => laws_eqAngle v.1 v.2.1, fun r => ([.v (.bool) .fr r], [])⟩
noncomputable def laws_eqAngle_ls : List LSum := []
noncomputable def laws_eqAngle_tab : List Row := []
theorem laws_eqAngle_t : ∀ r, r ∈ laws_eqAngle_tab → RowIs Go.Proofs.Try.prog r := tab_nil
theorem laws_eqAngle_rs : RoundsOK (mkCtx Go.K.Link.seat laws_eqAngle_c laws_eqAngle_tab) (sums laws_eqAngle_ls) (loopsOf 0 laws_eqAngle_code) laws_eqAngle_ls := trivial
theorem laws_eqAngle_e : ∀ v, (evFn (mkCtx Go.K.Link.seat laws_eqAngle_c laws_eqAngle_tab) (sums laws_eqAngle_ls) 41 Go.Proofs.Try.f41 (encL laws_eqAngle_s.a v)).run = (laws_eqAngle_s.gen v).bind fun y => some (laws_eqAngle_s.out y) := by
  rintro ⟨a, ⟨b, _⟩⟩
  show _ = (laws_eqAngle a b).bind fun y : Bool => some (laws_eqAngle_s.out y)
  simp only [laws_eqAngle, kb_ite, kb_some, kb_none, kb_bind, kb_alt]
  kernel_rfl
theorem laws_eqAngle_is : FnIs Go.Proofs.Try.prog 41 (modeOf []) (phi [laws_eqAngle_s]) := spec_is (c := laws_eqAngle_c) seatOK laws_eqAngle_t Go.Proofs.Try.func41 rfl (code := laws_eqAngle_code) rfl rfl laws_eqAngle_rs laws_eqAngle_e
noncomputable def laws_eqAngleS_l0_s : LSum := ⟨0, ⟨[(0, .val (.sl 27 (.pair (.int .i64) (.pair (.int .i64) (.unit)))) .fr), (0, .val (.sl 27 (.pair (.int .i64) (.pair (.int .i64) (.unit)))) .fr), (3, .val (.int .i64) .fr)], 21⟩, (.ret, ⟨[(4, .val (.bool) .fr)], 22⟩), [(.exit 0, ⟨[], 27⟩)], laws_eqAngleS_l0⟩
noncomputable def laws_eqAngleS_s : Spec := ⟨[.v (.sl 27 (.pair (.int .i64) (.pair (.int .i64) (.unit)))) .fr, .v (.sl 27 (.pair (.int .i64) (.pair (.int .i64) (.unit)))) .fr], Bool, fun v => laws_eqAngleS v.1 v.2.1, fun r => ([.v (.bool) .fr r], [])⟩
noncomputable def laws_eqAngleS_ls : List LSum := [laws_eqAngleS_l0_s]
noncomputable def laws_eqAngleS_tab : List Row := [⟨41, [], [laws_eqAngle_s]⟩]
theorem laws_eqAngleS_t : ∀ r, r ∈ laws_eqAngleS_tab → RowIs Go.Proofs.Try.prog r := tab_cons (laws_eqAngle_is) (tab_nil)
theorem laws_eqAngleS_l0_r : RoundIs (mkCtx Go.K.Link.seat laws_eqAngleS_c laws_eqAngleS_tab) (sums laws_eqAngleS_ls) 0 (bodyAt (loopsOf 0 laws_eqAngleS_code) 0) laws_eqAngleS_l0_s := by
  rintro ⟨a, ⟨b, ⟨i, _⟩⟩⟩
  show _ = (laws_eqAngleS_l0 (a, (b, (i, ())))).bind fun r : (Ctl ((List (Int × (Int × Unit))) × (List (Int × (Int × Unit))) × Int × Unit) ((Bool × Unit) ⊕ (Unit))) => some (ctlVal laws_eqAngleS_l0_s r)
  simp only [laws_eqAngleS_l0, kb_ite, kb_some, kb_none, kb_bind, kb_alt]
  kernel_rfl
theorem laws_eqAngleS_rs : RoundsOK (mkCtx Go.K.Link.seat laws_eqAngleS_c laws_eqAngleS_tab) (sums laws_eqAngleS_ls) (loopsOf 0 laws_eqAngleS_code) laws_eqAngleS_ls := ⟨⟨rfl, rfl, laws_eqAngleS_l0_r⟩, trivial⟩
theorem laws_eqAngleS_e : ∀ v, (evFn (mkCtx Go.K.Link.seat laws_eqAngleS_c laws_eqAngleS_tab) (sums laws_eqAngleS_ls) 22 Go.Proofs.Try.f22 (encL laws_eqAngleS_s.a v)).run = (laws_eqAngleS_s.gen v).bind fun y => some (laws_eqAngleS_s.out y) := by
  rintro ⟨a, ⟨b, _⟩⟩
  show _ = (laws_eqAngleS a b).bind fun y : Bool => some (laws_eqAngleS_s.out y)
  simp only [laws_eqAngleS, kb_ite, kb_some, kb_none, kb_bind, kb_alt]
  kernel_rfl
theorem laws_eqAngleS_is : FnIs Go.Proofs.Try.prog 22 (modeOf []) (phi [laws_eqAngleS_s]) := spec_is (c := laws_eqAngleS_c) seatOK laws_eqAngleS_t Go.Proofs.Try.func22 rfl (code := laws_eqAngleS_code) rfl rfl laws_eqAngleS_rs laws_eqAngleS_e
noncomputable def laws_eqAngleSS_l0_s : LSum := ⟨0, ⟨[(0, .val (.sl 33 (.sl 27 (.pair (.int .i64) (.pair (.int .i64) (.unit))))) .fr), (0, .val (.sl 33 (.sl 27 (.pair (.int .i64) (.pair (.int .i64) (.unit))))) .fr), (3, .val (.int .i64) .fr)], 21⟩, (.ret, ⟨[(4, .val (.bool) .fr)], 22⟩), [(.exit 0, ⟨[], 27⟩)], laws_eqAngleSS_l0⟩
noncomputable def laws_eqAngleSS_s : Spec := ⟨[.v (.sl 33 (.sl 27 (.pair (.int .i64) (.pair (.int .i64) (.unit))))) .fr, .v (.sl 33 (.sl 27 (.pair (.int .i64) (.pair (.int .i64) (.unit))))) .fr], Bool, fun v => laws_eqAngleSS v.1 v.2.1, fun r => ([.v (.bool) .fr r], [])⟩
noncomputable def laws_eqAngleSS_ls : List LSum := [laws_eqAngleSS_l0_s]
noncomputable def laws_eqAngleSS_tab : List Row := [⟨22, [], [laws_eqAngleS_s]⟩]
theorem laws_eqAngleSS_t : ∀ r, r ∈ laws_eqAngleSS_tab → RowIs Go.Proofs.Try.prog r := tab_cons (laws_eqAngleS_is) (tab_nil)
theorem laws_eqAngleSS_l0_r : RoundIs (mkCtx Go.K.Link.seat laws_eqAngleSS_c laws_eqAngleSS_tab) (sums laws_eqAngleSS_ls) 0 (bodyAt (loopsOf 0 laws_eqAngleSS_code) 0) laws_eqAngleSS_l0_s := by
  rintro ⟨a, ⟨b, ⟨i, _⟩⟩⟩
  show _ = (laws_eqAngleSS_l0 (a, (b, (i, ())))).bind fun r : (Ctl ((List (List (Int × (Int × Unit)))) × (List (List (Int × (Int × Unit)))) × Int × Unit) ((Bool × Unit) ⊕ (Unit))) => some (ctlVal laws_eqAngleSS_l0_s r)
  simp only [laws_eqAngleSS_l0, kb_ite, kb_some, kb_none, kb_bind, kb_alt]
  kernel_rfl
theorem laws_eqAngleSS_rs : RoundsOK (mkCtx Go.K.Link.seat laws_eqAngleSS_c laws_eqAngleSS_tab) (sums laws_eqAngleSS_ls) (loopsOf 0 laws_eqAngleSS_code) laws_eqAngleSS_ls := ⟨⟨rfl, rfl, laws_eqAngleSS_l0_r⟩, trivial⟩
theorem laws_eqAngleSS_e : ∀ v, (evFn (mkCtx Go.K.Link.seat laws_eqAngleSS_c laws_eqAngleSS_tab) (sums laws_eqAngleSS_ls) 7 Go.Proofs.Try.f7 (encL laws_eqAngleSS_s.a v)).run = (laws_eqAngleSS_s.gen v).bind fun y => some (laws_eqAngleSS_s.out y) := by
  rintro ⟨a, ⟨b, _⟩⟩
  show _ = (laws_eqAngleSS a b).bind fun y : Bool => some (laws_eqAngleSS_s.out y)
  simp only [laws_eqAngleSS, kb_ite, kb_some, kb_none, kb_bind, kb_alt]
  kernel_rfl
theorem laws_eqAngleSS_is : FnIs Go.Proofs.Try.prog 7 (modeOf []) (phi [laws_eqAngleSS_s]) := spec_is (c := laws_eqAngleSS_c) seatOK laws_eqAngleSS_t Go.Proofs.Try.func7 rfl (code := laws_eqAngleSS_code) rfl rfl laws_eqAngleSS_rs laws_eqAngleSS_e
noncomputable def laws_markAngleSS_code : Code := (Go.Proofs.Try.f8.body).getD .skip
def laws_markAngleSS_c : Cfg := ⟨8, [.mut], [[0, 1, 5], [0, 1], [0, 4]], [], [], []⟩
noncomputable def laws_markAngleS_code : Code := (Go.Proofs.Try.f23.body).getD .skip
def laws_markAngleS_c : Cfg := ⟨23, [.mut], [[0, 1, 5], [0, 1], [0, 4]], [], [], []⟩
noncomputable def laws_markAngleS_l0_s : LSum := ⟨0, ⟨[(0, .val (.sl 27 (.pair (.int .i64) (.pair (.int .i64) (.unit)))) (.own .fr)), (0, .val (.int .i64) .fr), (3, .val (.int .i64) .fr)], 21⟩, (.exit 0, ⟨[(0, .val (.sl 27 (.pair (.int .i64) (.pair (.int .i64) (.unit)))) (.own .fr)), (0, .val (.int .i64) .fr)], 25⟩), [], laws_markAngleS_l0⟩
noncomputable def laws_markAngleS_s : Spec := ⟨[.v (.sl 27 (.pair (.int .i64) (.pair (.int .i64) (.unit)))) (.own .fr), .v (.int .i64) .fr], Int × (List (Int × (Int × Unit))), fun v => laws_markAngleS v.1 v.2.1, fun r => ([.v (.int .i64) .fr r.1], [.v (.sl 27 (.pair (.int .i64) (.pair (.int .i64) (.unit)))) (.own .fr) r.2])⟩
noncomputable def laws_markAngleS_ls : List LSum := [laws_markAngleS_l0_s]
noncomputable def laws_markAngleS_tab : List Row := []
theorem laws_markAngleS_t : ∀ r, r ∈ laws_markAngleS_tab → RowIs Go.Proofs.Try.prog r := tab_nil
theorem laws_markAngleS_l0_r : RoundIs (mkCtx Go.K.Link.seat laws_markAngleS_c laws_markAngleS_tab) (sums laws_markAngleS_ls) 0 (bodyAt (loopsOf 0 laws_markAngleS_code) 0) laws_markAngleS_l0_s := by
  rintro ⟨a, ⟨k, ⟨i, _⟩⟩⟩
  show _ = (laws_markAngleS_l0 (a, (k, (i, ())))).bind fun r : (Ctl ((List (Int × (Int × Unit))) × Int × Int × Unit) (((List (Int × (Int × Unit))) × Int × Unit))) => some (ctlVal laws_markAngleS_l0_s r)
  simp only [laws_markAngleS_l0, kb_ite, kb_some, kb_none, kb_bind, kb_alt]
  kernel_rfl
theorem laws_markAngleS_rs : RoundsOK (mkCtx Go.K.Link.seat laws_markAngleS_c laws_markAngleS_tab) (sums laws_markAngleS_ls) (loopsOf 0 laws_markAngleS_code) laws_markAngleS_ls := ⟨⟨rfl, rfl, laws_markAngleS_l0_r⟩, trivial⟩
theorem laws_markAngleS_e : ∀ v, (evFn (mkCtx Go.K.Link.seat laws_markAngleS_c laws_markAngleS_tab) (sums laws_markAngleS_ls) 23 Go.Proofs.Try.f23 (encL laws_markAngleS_s.a v)).run = (laws_markAngleS_s.gen v).bind fun y => some (laws_markAngleS_s.out y) := by
  rintro ⟨a, ⟨k, _⟩⟩
  show _ = (laws_markAngleS a k).bind fun y : Int × (List (Int × (Int × Unit))) => some (laws_markAngleS_s.out y)
  simp only [laws_markAngleS, kb_ite, kb_some, kb_none, kb_bind, kb_alt]
  kernel_rfl
theorem laws_markAngleS_is : FnIs Go.Proofs.Try.prog 23 (modeOf [.mut]) (phi [laws_markAngleS_s]) := spec_is (c := laws_markAngleS_c) seatOK laws_markAngleS_t Go.Proofs.Try.func23 rfl (code := laws_markAngleS_code) rfl rfl laws_markAngleS_rs laws_markAngleS_e
noncomputable def laws_markAngleSS_l0_s : LSum := ⟨0, ⟨[(0, .val (.sl 33 (.sl 27 (.pair (.int .i64) (.pair (.int .i64) (.unit))))) (.own (.own .fr))), (0, .val (.int .i64) .fr), (3, .val (.int .i64) .fr)], 13⟩, (.exit 0, ⟨[(0, .val (.sl 33 (.sl 27 (.pair (.int .i64) (.pair (.int .i64) (.unit))))) (.own (.own .fr))), (0, .val (.int .i64) .fr)], 17⟩), [], laws_markAngleSS_l0⟩
noncomputable def laws_markAngleSS_s : Spec := ⟨[.v (.sl 33 (.sl 27 (.pair (.int .i64) (.pair (.int .i64) (.unit))))) (.own (.own .fr)), .v (.int .i64) .fr], Int × (List (List (Int × (Int × Unit)))), fun v => laws_markAngleSS v.1 v.2.1, fun r => ([.v (.int .i64) .fr r.1], [.v (.sl 33 (.sl 27 (.pair (.int .i64) (.pair (.int .i64) (.unit))))) (.own (.own .fr)) r.2])⟩
noncomputable def laws_markAngleSS_ls : List LSum := [laws_markAngleSS_l0_s]
noncomputable def laws_markAngleSS_tab : List Row := [⟨23, [.mut], [laws_markAngleS_s]⟩]
theorem laws_markAngleSS_t : ∀ r, r ∈ laws_markAngleSS_tab → RowIs Go.Proofs.Try.prog r := tab_cons (laws_markAngleS_is) (tab_nil)
theorem laws_markAngleSS_l0_r : RoundIs (mkCtx Go.K.Link.seat laws_markAngleSS_c laws_markAngleSS_tab) (sums laws_markAngleSS_ls) 0 (bodyAt (loopsOf 0 laws_markAngleSS_code) 0) laws_markAngleSS_l0_s := by
  rintro ⟨a, ⟨k, ⟨i, _⟩⟩⟩
  show _ = (laws_markAngleSS_l0 (a, (k, (i, ())))).bind fun r : (Ctl ((List (List (Int × (Int × Unit)))) × Int × Int × Unit) (((List (List (Int × (Int × Unit)))) × Int × Unit))) => some (ctlVal laws_markAngleSS_l0_s r)
  simp only [laws_markAngleSS_l0, kb_ite, kb_some, kb_none, kb_bind, kb_alt]
  kernel_rfl
theorem laws_markAngleSS_rs : RoundsOK (mkCtx Go.K.Link.seat laws_markAngleSS_c laws_markAngleSS_tab) (sums laws_markAngleSS_ls) (loopsOf 0 laws_markAngleSS_code) laws_markAngleSS_ls := ⟨⟨rfl, rfl, laws_markAngleSS_l0_r⟩, trivial⟩
theorem laws_markAngleSS_e : ∀ v, (evFn (mkCtx Go.K.Link.seat laws_markAngleSS_c laws_markAngleSS_tab) (sums laws_markAngleSS_ls) 8 Go.Proofs.Try.f8 (encL laws_markAngleSS_s.a v)).run = (laws_markAngleSS_s.gen v).bind fun y => some (laws_markAngleSS_s.out y) := by
  rintro ⟨a, ⟨k, _⟩⟩
  show _ = (laws_markAngleSS a k).bind fun y : Int × (List (List (Int × (Int × Unit)))) => some (laws_markAngleSS_s.out y)
  simp only [laws_markAngleSS, kb_ite, kb_some, kb_none, kb_bind, kb_alt]
  kernel_rfl
theorem laws_markAngleSS_is : FnIs Go.Proofs.Try.prog 8 (modeOf [.mut]) (phi [laws_markAngleSS_s]) := spec_is (c := laws_markAngleSS_c) seatOK laws_markAngleSS_t Go.Proofs.Try.func8 rfl (code := laws_markAngleSS_code) rfl rfl laws_markAngleSS_rs laws_markAngleSS_e
noncomputable def laws_heldAngleSS_code : Code := (Go.Proofs.Try.f9.body).getD .skip
def laws_heldAngleSS_c : Cfg := ⟨9, [], [[0, 1, 5], [1], [4]], [], [], []⟩
noncomputable def laws_heldAngleS_code : Code := (Go.Proofs.Try.f24.body).getD .skip
def laws_heldAngleS_c : Cfg := ⟨24, [], [[0, 1, 5], [1], [4]], [], [], []⟩
noncomputable def laws_heldAngleS_l0_s : LSum := ⟨0, ⟨[(0, .val (.sl 27 (.pair (.int .i64) (.pair (.int .i64) (.unit)))) .fr), (0, .val (.int .i64) .fr), (3, .val (.int .i64) .fr)], 25⟩, (.ret, ⟨[(4, .val (.int .i64) .fr)], 26⟩), [(.exit 0, ⟨[(1, .val (.int .i64) .fr)], 29⟩)], laws_heldAngleS_l0⟩
noncomputable def laws_heldAngleS_s : Spec := ⟨[.v (.sl 27 (.pair (.int .i64) (.pair (.int .i64) (.unit)))) .fr, .v (.int .i64) .fr], Int, fun v => laws_heldAngleS v.1 v.2.1, fun r => ([.v (.int .i64) .fr r], [])⟩
noncomputable def laws_heldAngleS_ls : List LSum := [laws_heldAngleS_l0_s]
noncomputable def laws_heldAngleS_tab : List Row := []
theorem laws_heldAngleS_t : ∀ r, r ∈ laws_heldAngleS_tab → RowIs Go.Proofs.Try.prog r := tab_nil
theorem laws_heldAngleS_l0_r : RoundIs (mkCtx Go.K.Link.seat laws_heldAngleS_c laws_heldAngleS_tab) (sums laws_heldAngleS_ls) 0 (bodyAt (loopsOf 0 laws_heldAngleS_code) 0) laws_heldAngleS_l0_s := by
  rintro ⟨a, ⟨k, ⟨i, _⟩⟩⟩
  show _ = (laws_heldAngleS_l0 (a, (k, (i, ())))).bind fun r : (Ctl ((List (Int × (Int × Unit))) × Int × Int × Unit) ((Int × Unit) ⊕ (Int × Unit))) => some (ctlVal laws_heldAngleS_l0_s r)
  simp only [laws_heldAngleS_l0, kb_ite, kb_some, kb_none, kb_bind, kb_alt]
  kernel_rfl
theorem laws_heldAngleS_rs : RoundsOK (mkCtx Go.K.Link.seat laws_heldAngleS_c laws_heldAngleS_tab) (sums laws_heldAngleS_ls) (loopsOf 0 laws_heldAngleS_code) laws_heldAngleS_ls := ⟨⟨rfl, rfl, laws_heldAngleS_l0_r⟩, trivial⟩
theorem laws_heldAngleS_e : ∀ v, (evFn (mkCtx Go.K.Link.seat laws_heldAngleS_c laws_heldAngleS_tab) (sums laws_heldAngleS_ls) 24 Go.Proofs.Try.f24 (encL laws_heldAngleS_s.a v)).run = (laws_heldAngleS_s.gen v).bind fun y => some (laws_heldAngleS_s.out y) := by
  rintro ⟨a, ⟨k, _⟩⟩
  show _ = (laws_heldAngleS a k).bind fun y : Int => some (laws_heldAngleS_s.out y)
  simp only [laws_heldAngleS, kb_ite, kb_some, kb_none, kb_bind, kb_alt]
  kernel_rfl
theorem laws_heldAngleS_is : FnIs Go.Proofs.Try.prog 24 (modeOf []) (phi [laws_heldAngleS_s]) := spec_is (c := laws_heldAngleS_c) seatOK laws_heldAngleS_t Go.Proofs.Try.func24 rfl (code := laws_heldAngleS_code) rfl rfl laws_heldAngleS_rs laws_heldAngleS_e
noncomputable def laws_heldAngleSS_l0_s : LSum := ⟨0, ⟨[(0, .val (.sl 33 (.sl 27 (.pair (.int .i64) (.pair (.int .i64) (.unit))))) .fr), (0, .val (.int .i64) .fr), (3, .val (.int .i64) .fr)], 15⟩, (.ret, ⟨[(4, .val (.int .i64) .fr)], 16⟩), [(.exit 0, ⟨[(1, .val (.int .i64) .fr)], 19⟩)], laws_heldAngleSS_l0⟩
noncomputable def laws_heldAngleSS_s : Spec := ⟨[.v (.sl 33 (.sl 27 (.pair (.int .i64) (.pair (.int .i64) (.unit))))) .fr, .v (.int .i64) .fr], Int, fun v => laws_heldAngleSS v.1 v.2.1, fun r => ([.v (.int .i64) .fr r], [])⟩
noncomputable def laws_heldAngleSS_ls : List LSum := [laws_heldAngleSS_l0_s]
noncomputable def laws_heldAngleSS_tab : List Row := [⟨24, [], [laws_heldAngleS_s]⟩]
theorem laws_heldAngleSS_t : ∀ r, r ∈ laws_heldAngleSS_tab → RowIs Go.Proofs.Try.prog r := tab_cons (laws_heldAngleS_is) (tab_nil)
theorem laws_heldAngleSS_l0_r : RoundIs (mkCtx Go.K.Link.seat laws_heldAngleSS_c laws_heldAngleSS_tab) (sums laws_heldAngleSS_ls) 0 (bodyAt (loopsOf 0 laws_heldAngleSS_code) 0) laws_heldAngleSS_l0_s := by
  rintro ⟨a, ⟨k, ⟨i, _⟩⟩⟩
  show _ = (laws_heldAngleSS_l0 (a, (k, (i, ())))).bind fun r : (Ctl ((List (List (Int × (Int × Unit)))) × Int × Int × Unit) ((Int × Unit) ⊕ (Int × Unit))) => some (ctlVal laws_heldAngleSS_l0_s r)
  simp only [laws_heldAngleSS_l0, kb_ite, kb_some, kb_none, kb_bind, kb_alt]
  kernel_rfl
theorem laws_heldAngleSS_rs : RoundsOK (mkCtx Go.K.Link.seat laws_heldAngleSS_c laws_heldAngleSS_tab) (sums laws_heldAngleSS_ls) (loopsOf 0 laws_heldAngleSS_code) laws_heldAngleSS_ls := ⟨⟨rfl, rfl, laws_heldAngleSS_l0_r⟩, trivial⟩
theorem laws_heldAngleSS_e : ∀ v, (evFn (mkCtx Go.K.Link.seat laws_heldAngleSS_c laws_heldAngleSS_tab) (sums laws_heldAngleSS_ls) 9 Go.Proofs.Try.f9 (encL laws_heldAngleSS_s.a v)).run = (laws_heldAngleSS_s.gen v).bind fun y => some (laws_heldAngleSS_s.out y) := by
  rintro ⟨a, ⟨k, _⟩⟩
  show _ = (laws_heldAngleSS a k).bind fun y : Int => some (laws_heldAngleSS_s.out y)
  simp only [laws_heldAngleSS, kb_ite, kb_some, kb_none, kb_bind, kb_alt]
  kernel_rfl
theorem laws_heldAngleSS_is : FnIs Go.Proofs.Try.prog 9 (modeOf []) (phi [laws_heldAngleSS_s]) := spec_is (c := laws_heldAngleSS_c) seatOK laws_heldAngleSS_t Go.Proofs.Try.func9 rfl (code := laws_heldAngleSS_code) rfl rfl laws_heldAngleSS_rs laws_heldAngleSS_e
noncomputable def laws_FnExactPortraitOf_s : Spec := ⟨[.v (.pair (.int .i64) (.pair (.int .i64) (.unit))) .fr, .v (.pair (.int .i64) (.pair (.int .i64) (.unit))) .fr], Bool, fun v => laws_FnExactPortraitOf v.1 v.2.1, fun r => ([.v (.bool) .fr r], [])⟩
noncomputable def laws_FnExactPortraitOf_ls : List LSum := []
noncomputable def laws_FnExactPortraitOf_tab : List Row := [⟨4, [], [spec_PortraitOf_s]⟩, ⟨5, [], [laws_toAngle_s]⟩, ⟨6, [], [impl_PortraitOf_s]⟩, ⟨7, [], [laws_eqAngleSS_s]⟩, ⟨8, [.mut], [laws_markAngleSS_s]⟩, ⟨9, [], [laws_heldAngleSS_s]⟩]
theorem laws_FnExactPortraitOf_t : ∀ r, r ∈ laws_FnExactPortraitOf_tab → RowIs Go.Proofs.Try.prog r := tab_cons (spec_PortraitOf_is) (tab_cons (laws_toAngle_is) (tab_cons (impl_PortraitOf_is) (tab_cons (laws_eqAngleSS_is) (tab_cons (laws_markAngleSS_is) (tab_cons (laws_heldAngleSS_is) (tab_nil))))))
theorem laws_FnExactPortraitOf_rs : RoundsOK (mkCtx Go.K.Link.seat laws_FnExactPortraitOf_c laws_FnExactPortraitOf_tab) (sums laws_FnExactPortraitOf_ls) (loopsOf 0 laws_FnExactPortraitOf_code) laws_FnExactPortraitOf_ls := trivial
theorem laws_FnExactPortraitOf_e : ∀ v, (evFn (mkCtx Go.K.Link.seat laws_FnExactPortraitOf_c laws_FnExactPortraitOf_tab) (sums laws_FnExactPortraitOf_ls) 3 Go.Proofs.Try.f3 (encL laws_FnExactPortraitOf_s.a v)).run = (laws_FnExactPortraitOf_s.gen v).bind fun y => some (laws_FnExactPortraitOf_s.out y) := by
  rintro ⟨aA, ⟨aB, _⟩⟩
  show _ = (laws_FnExactPortraitOf aA aB).bind fun y : Bool => some (laws_FnExactPortraitOf_s.out y)
  simp only [laws_FnExactPortraitOf, kb_ite, kb_some, kb_none, kb_bind, kb_alt]
  kernel_rfl
theorem laws_FnExactPortraitOf_is : FnIs Go.Proofs.Try.prog 3 (modeOf []) (phi [laws_FnExactPortraitOf_s]) := spec_is (c := laws_FnExactPortraitOf_c) seatOK laws_FnExactPortraitOf_t Go.Proofs.Try.func3 rfl (code := laws_FnExactPortraitOf_code) rfl rfl laws_FnExactPortraitOf_rs laws_FnExactPortraitOf_e
end Go.K.Link
namespace Go.Proofs.Ytephljhjgceclaa
open Go.K Go.K.Link Go.RowKit
theorem Try.own : ownKnob Try.prog.godebug = none := by kernel_rfl
theorem Try.laidOut : laidOutB Try.prog = true := by kernel_rfl
end Go.Proofs.Ytephljhjgceclaa

