/- What each function of the program gives, as a plain function, with the proof that it gives it; no condition. -/
import Derived.Test.YtkddnpjcceolbaaP1
import Derived.Test.YtkddnpjcceolbaaS1
import Derived.Test.YtkddnpjcceolbaaK3
import Derived.Test.YtkddnpjcceolbaaRows
set_option linter.all false
set_option maxRecDepth 100000
set_option maxHeartbeats 4000000
set_option linter.all false
namespace Go.Proofs

end Go.Proofs
namespace Go.K.Link
open Go.K.Pure
def tyList : List (Nat × Ty) := [(2, .int .i64), (3, .int .i64), (4, .bool), (5, .int .u8), (6, .int .u8), (7, .pair (.int .i64) (.pair (.int .i64) (.pair (.bool) (.pair (.int .u8) (.unit))))), (8, .pair (.int .i64) (.pair (.int .i64) (.pair (.bool) (.pair (.int .u8) (.unit))))), (9, .str), (10, .str), (11, .str), (12, .int .u64), (21, .int .i32), (22, .pair (.int .i64) (.pair (.int .i64) (.unit))), (23, .pair (.int .i64) (.pair (.int .i64) (.unit))), (24, .pair (.pair (.int .i64) (.pair (.int .i64) (.unit))) (.pair (.pair (.int .i64) (.pair (.int .i64) (.unit))) (.unit))), (25, .pair (.pair (.int .i64) (.pair (.int .i64) (.unit))) (.pair (.pair (.int .i64) (.pair (.int .i64) (.unit))) (.unit))), (26, .sl 2 (.int .i64)), (29, .pair (.int .i64) (.pair (.int .i64) (.unit))), (30, .pair (.pair (.int .i64) (.pair (.int .i64) (.unit))) (.pair (.pair (.int .i64) (.pair (.int .i64) (.unit))) (.unit))), (31, .pair (.pair (.int .i64) (.pair (.int .i64) (.unit))) (.pair (.pair (.int .i64) (.pair (.int .i64) (.unit))) (.unit))), (36, .sl 31 (.pair (.pair (.int .i64) (.pair (.int .i64) (.unit))) (.pair (.pair (.int .i64) (.pair (.int .i64) (.unit))) (.unit)))), (43, .sl 36 (.sl 31 (.pair (.pair (.int .i64) (.pair (.int .i64) (.unit))) (.pair (.pair (.int .i64) (.pair (.int .i64) (.unit))) (.unit))))), (47, .pair (.pair (.pair (.int .i64) (.pair (.int .i64) (.unit))) (.pair (.pair (.int .i64) (.pair (.int .i64) (.unit))) (.unit))) (.pair (.sl 31 (.pair (.pair (.int .i64) (.pair (.int .i64) (.unit))) (.pair (.pair (.int .i64) (.pair (.int .i64) (.unit))) (.unit)))) (.pair (.sl 31 (.pair (.pair (.int .i64) (.pair (.int .i64) (.unit))) (.pair (.pair (.int .i64) (.pair (.int .i64) (.unit))) (.unit)))) (.pair (.int .i64) (.unit))))), (48, .pair (.pair (.pair (.int .i64) (.pair (.int .i64) (.unit))) (.pair (.pair (.int .i64) (.pair (.int .i64) (.unit))) (.unit))) (.pair (.sl 31 (.pair (.pair (.int .i64) (.pair (.int .i64) (.unit))) (.pair (.pair (.int .i64) (.pair (.int .i64) (.unit))) (.unit)))) (.pair (.sl 31 (.pair (.pair (.int .i64) (.pair (.int .i64) (.unit))) (.pair (.pair (.int .i64) (.pair (.int .i64) (.unit))) (.unit)))) (.pair (.int .i64) (.unit))))), (101, .int .u64), (106, .int .u64), (112, .sl 3 (.int .i64)), (121, .int .u32), (122, .int .u8), (123, .int .u8), (125, .ptr (.int .u8)), (126, .int .i32), (127, .int .i32)]
def byList : List (Nat × Nat) := [(26, 8), (36, 32), (43, 24), (112, 8)]
def ftyList : List Nat := [1, 28, 32, 33, 34, 35, 38, 39, 40, 41, 42, 45, 46, 50, 51, 53, 54, 55, 56, 57, 59, 60, 61, 62, 63, 64, 65, 66, 67, 68, 70, 71, 72, 73, 74, 75, 76, 77, 78, 80, 81, 82, 83, 85, 86, 87, 88, 89, 91, 93, 94, 95, 96, 97, 98, 99, 100, 102, 103, 105, 108, 109, 110, 111, 113, 114, 120, 124]
def etList : List (Nat × Nat) := [(26, 2), (36, 31), (43, 36), (112, 3)]
def fieldList : List (Nat × List Nat) := [(7, [2, 3, 4, 6]), (8, [2, 3, 4, 6]), (13, [9, 12]), (14, [9, 12]), (18, [17]), (19, [17]), (22, [2, 2]), (23, [2, 2]), (24, [23, 23]), (25, [23, 23]), (29, [2, 2]), (30, [29, 29]), (31, [29, 29]), (47, [31, 36, 36, 2]), (48, [31, 36, 36, 2]), (115, [17, 17, 17, 9]), (116, [17, 17, 17, 9]), (118, [117]), (119, [117]), (128, [12, 12, 121, 122, 5, 5, 123, 124, 125, 126, 127]), (129, [12, 12, 121, 122, 5, 5, 123, 124, 125, 126, 127])]
def seat : Seat := seatOf tyList byList ftyList fieldList etList
theorem seatOK : SeatOK Go.Proofs.Try.prog seat := seat_ok (by kernel_rfl) (by kernel_rfl) (by kernel_rfl) (by kernel_rfl)
noncomputable def laws_FnExactCountByDepth_code : Code := (Go.Proofs.Try.f3.body).getD .skip
def laws_FnExactCountByDepth_c : Cfg := ⟨3, [], [], [], [], []⟩
noncomputable def laws_toLeaf_code : Code := (Go.Proofs.Try.f6.body).getD .skip
def laws_toLeaf_c : Cfg := ⟨6, [], [], [], [], []⟩
noncomputable def laws_toAngle_code : Code := (Go.Proofs.Try.f19.body).getD .skip
def laws_toAngle_c : Cfg := ⟨19, [], [], [], [], []⟩
noncomputable def laws_toAngle_s : Spec := ⟨[.v (.pair (.int .i64) (.pair (.int .i64) (.unit))) .fr], (Int × (Int × Unit)), fun v => laws_toAngle v.1, fun r => ([.v (.pair (.int .i64) (.pair (.int .i64) (.unit))) .fr r], [])⟩
noncomputable def laws_toAngle_ls : List LSum := []
noncomputable def laws_toAngle_tab : List Row := []
theorem laws_toAngle_t : ∀ r, r ∈ laws_toAngle_tab → RowIs Go.Proofs.Try.prog r := tab_nil
theorem laws_toAngle_rs : RoundsOK (mkCtx Go.K.Link.seat laws_toAngle_c laws_toAngle_tab) (sums laws_toAngle_ls) (loopsOf 0 laws_toAngle_code) laws_toAngle_ls := trivial
theorem laws_toAngle_e : ∀ v, (evFn (mkCtx Go.K.Link.seat laws_toAngle_c laws_toAngle_tab) (sums laws_toAngle_ls) 19 Go.Proofs.Try.f19 (encL laws_toAngle_s.a v)).run = (laws_toAngle_s.gen v).bind fun y => some (laws_toAngle_s.out y) := by
  rintro ⟨a, _⟩
  show _ = (laws_toAngle a).bind fun y : (Int × (Int × Unit)) => some (laws_toAngle_s.out y)
  simp only [laws_toAngle, kb_ite, kb_some, kb_none, kb_bind, kb_alt]
  kernel_rfl
theorem laws_toAngle_is : FnIs Go.Proofs.Try.prog 19 (modeOf []) (phi [laws_toAngle_s]) := spec_is (c := laws_toAngle_c) seatOK laws_toAngle_t Go.Proofs.Try.func19 rfl (code := laws_toAngle_code) rfl rfl laws_toAngle_rs laws_toAngle_e
noncomputable def laws_toLeaf_s : Spec := ⟨[.v (.pair (.pair (.int .i64) (.pair (.int .i64) (.unit))) (.pair (.pair (.int .i64) (.pair (.int .i64) (.unit))) (.unit))) .fr], ((Int × (Int × Unit)) × ((Int × (Int × Unit)) × Unit)), fun v => laws_toLeaf v.1, fun r => ([.v (.pair (.pair (.int .i64) (.pair (.int .i64) (.unit))) (.pair (.pair (.int .i64) (.pair (.int .i64) (.unit))) (.unit))) .fr r], [])⟩
noncomputable def laws_toLeaf_ls : List LSum := []
noncomputable def laws_toLeaf_tab : List Row := [⟨19, [], [laws_toAngle_s]⟩]
theorem laws_toLeaf_t : ∀ r, r ∈ laws_toLeaf_tab → RowIs Go.Proofs.Try.prog r := tab_cons (laws_toAngle_is) (tab_nil)
theorem laws_toLeaf_rs : RoundsOK (mkCtx Go.K.Link.seat laws_toLeaf_c laws_toLeaf_tab) (sums laws_toLeaf_ls) (loopsOf 0 laws_toLeaf_code) laws_toLeaf_ls := trivial
theorem laws_toLeaf_e : ∀ v, (evFn (mkCtx Go.K.Link.seat laws_toLeaf_c laws_toLeaf_tab) (sums laws_toLeaf_ls) 6 Go.Proofs.Try.f6 (encL laws_toLeaf_s.a v)).run = (laws_toLeaf_s.gen v).bind fun y => some (laws_toLeaf_s.out y) := by
  rintro ⟨a, _⟩
  show _ = (laws_toLeaf a).bind fun y : ((Int × (Int × Unit)) × ((Int × (Int × Unit)) × Unit)) => some (laws_toLeaf_s.out y)
  simp only [laws_toLeaf, kb_ite, kb_some, kb_none, kb_bind, kb_alt]
  kernel_rfl
theorem laws_toLeaf_is : FnIs Go.Proofs.Try.prog 6 (modeOf []) (phi [laws_toLeaf_s]) := spec_is (c := laws_toLeaf_c) seatOK laws_toLeaf_t Go.Proofs.Try.func6 rfl (code := laws_toLeaf_code) rfl rfl laws_toLeaf_rs laws_toLeaf_e
noncomputable def spec_CountByDepth_code : Code := (Go.Proofs.Try.f5.body).getD .skip
def spec_CountByDepth_c : Cfg := ⟨5, [], [[], [], [], [6, 8, 9, 22, 27, 41], [8, 27, 41], [4, 5, 8, 27, 41, 42]], [], [], []⟩
noncomputable def spec_l03Is_code : Code := (Go.Proofs.Try.f16.body).getD .skip
def spec_l03Is_c : Cfg := ⟨16, [], [], [], [], []⟩
noncomputable def spec_l01Is_code : Code := (Go.Proofs.Try.f24.body).getD .skip
def spec_l01Is_c : Cfg := ⟨24, [], [], [], [], []⟩
noncomputable def spec_l01In_code : Code := (Go.Proofs.Try.f17.body).getD .skip
def spec_l01In_c : Cfg := ⟨17, [], [], [], [], []⟩
noncomputable def spec_l01In_s : Spec := ⟨[.v (.int .i64) .fr, .v (.int .i64) .fr, .v (.int .i64) .fr], Bool, fun v => spec_l01In v.1 v.2.1 v.2.2.1, fun r => ([.v (.bool) .fr r], [])⟩
noncomputable def spec_l01In_ls : List LSum := []
noncomputable def spec_l01In_tab : List Row := []
theorem spec_l01In_t : ∀ r, r ∈ spec_l01In_tab → RowIs Go.Proofs.Try.prog r := tab_nil
theorem spec_l01In_rs : RoundsOK (mkCtx Go.K.Link.seat spec_l01In_c spec_l01In_tab) (sums spec_l01In_ls) (loopsOf 0 spec_l01In_code) spec_l01In_ls := trivial
theorem spec_l01In_e : ∀ v, (evFn (mkCtx Go.K.Link.seat spec_l01In_c spec_l01In_tab) (sums spec_l01In_ls) 17 Go.Proofs.Try.f17 (encL spec_l01In_s.a v)).run = (spec_l01In_s.gen v).bind fun y => some (spec_l01In_s.out y) := by
  rintro ⟨n, ⟨low, ⟨high, _⟩⟩⟩
  show _ = (spec_l01In n low high).bind fun y : Bool => some (spec_l01In_s.out y)
  simp only [spec_l01In, kb_ite, kb_some, kb_none, kb_bind, kb_alt]
  kernel_rfl
theorem spec_l01In_is : FnIs Go.Proofs.Try.prog 17 (modeOf []) (phi [spec_l01In_s]) := spec_is (c := spec_l01In_c) seatOK spec_l01In_t Go.Proofs.Try.func17 rfl (code := spec_l01In_code) rfl rfl spec_l01In_rs spec_l01In_e
noncomputable def spec_l01Divisor_code : Code := (Go.Proofs.Try.f42.body).getD .skip
def spec_l01Divisor_c : Cfg := ⟨42, [], [[0, 1], [0], [4]], [], [], []⟩
noncomputable def spec_l01Divisor_l0_s : LSum := ⟨0, ⟨[(0, .val (.int .i64) .fr), (0, .val (.int .i64) .fr)], 12⟩, (.exit 0, ⟨[(0, .val (.int .i64) .fr)], 13⟩), [], spec_l01Divisor_l0⟩
noncomputable def spec_l01Divisor_s : Spec := ⟨[.v (.int .i64) .fr, .v (.int .i64) .fr], Int, fun v => spec_l01Divisor v.1 v.2.1, fun r => ([.v (.int .i64) .fr r], [])⟩
noncomputable def spec_l01Divisor_ls : List LSum := [spec_l01Divisor_l0_s]
noncomputable def spec_l01Divisor_tab : List Row := []
theorem spec_l01Divisor_t : ∀ r, r ∈ spec_l01Divisor_tab → RowIs Go.Proofs.Try.prog r := tab_nil
theorem spec_l01Divisor_l0_r : RoundIs (mkCtx Go.K.Link.seat spec_l01Divisor_c spec_l01Divisor_tab) (sums spec_l01Divisor_ls) 0 (bodyAt (loopsOf 0 spec_l01Divisor_code) 0) spec_l01Divisor_l0_s := by
  rintro ⟨a, ⟨b, _⟩⟩
  show _ = (spec_l01Divisor_l0 (a, (b, ()))).bind fun r : (Ctl (Int × Int × Unit) ((Int × Unit))) => some (ctlVal spec_l01Divisor_l0_s r)
  simp only [spec_l01Divisor_l0, kb_ite, kb_some, kb_none, kb_bind, kb_alt]
  kernel_rfl
theorem spec_l01Divisor_rs : RoundsOK (mkCtx Go.K.Link.seat spec_l01Divisor_c spec_l01Divisor_tab) (sums spec_l01Divisor_ls) (loopsOf 0 spec_l01Divisor_code) spec_l01Divisor_ls := ⟨⟨rfl, rfl, spec_l01Divisor_l0_r⟩, trivial⟩
theorem spec_l01Divisor_e : ∀ v, (evFn (mkCtx Go.K.Link.seat spec_l01Divisor_c spec_l01Divisor_tab) (sums spec_l01Divisor_ls) 42 Go.Proofs.Try.f42 (encL spec_l01Divisor_s.a v)).run = (spec_l01Divisor_s.gen v).bind fun y => some (spec_l01Divisor_s.out y) := by
  rintro ⟨a, ⟨b, _⟩⟩
  show _ = (spec_l01Divisor a b).bind fun y : Int => some (spec_l01Divisor_s.out y)
  simp only [spec_l01Divisor, kb_ite, kb_some, kb_none, kb_bind, kb_alt]
  kernel_rfl
theorem spec_l01Divisor_is : FnIs Go.Proofs.Try.prog 42 (modeOf []) (phi [spec_l01Divisor_s]) := spec_is (c := spec_l01Divisor_c) seatOK spec_l01Divisor_t Go.Proofs.Try.func42 rfl (code := spec_l01Divisor_code) rfl rfl spec_l01Divisor_rs spec_l01Divisor_e
noncomputable def spec_l01Is_s : Spec := ⟨[.v (.pair (.int .i64) (.pair (.int .i64) (.unit))) .fr], Bool, fun v => spec_l01Is v.1, fun r => ([.v (.bool) .fr r], [])⟩
noncomputable def spec_l01Is_ls : List LSum := []
noncomputable def spec_l01Is_tab : List Row := [⟨17, [], [spec_l01In_s]⟩, ⟨42, [], [spec_l01Divisor_s]⟩]
theorem spec_l01Is_t : ∀ r, r ∈ spec_l01Is_tab → RowIs Go.Proofs.Try.prog r := tab_cons (spec_l01In_is) (tab_cons (spec_l01Divisor_is) (tab_nil))
theorem spec_l01Is_rs : RoundsOK (mkCtx Go.K.Link.seat spec_l01Is_c spec_l01Is_tab) (sums spec_l01Is_ls) (loopsOf 0 spec_l01Is_code) spec_l01Is_ls := trivial
theorem spec_l01Is_e : ∀ v, (evFn (mkCtx Go.K.Link.seat spec_l01Is_c spec_l01Is_tab) (sums spec_l01Is_ls) 24 Go.Proofs.Try.f24 (encL spec_l01Is_s.a v)).run = (spec_l01Is_s.gen v).bind fun y => some (spec_l01Is_s.out y) := by
  rintro ⟨a, _⟩
  show _ = (spec_l01Is a).bind fun y : Bool => some (spec_l01Is_s.out y)
  simp only [spec_l01Is, kb_ite, kb_some, kb_none, kb_bind, kb_alt]
  kernel_rfl
theorem spec_l01Is_is : FnIs Go.Proofs.Try.prog 24 (modeOf []) (phi [spec_l01Is_s]) := spec_is (c := spec_l01Is_c) seatOK spec_l01Is_t Go.Proofs.Try.func24 rfl (code := spec_l01Is_code) rfl rfl spec_l01Is_rs spec_l01Is_e
noncomputable def spec_l01Less_code : Code := (Go.Proofs.Try.f25.body).getD .skip
def spec_l01Less_c : Cfg := ⟨25, [], [], [], [], []⟩
noncomputable def spec_l01Less_s : Spec := ⟨[.v (.pair (.int .i64) (.pair (.int .i64) (.unit))) .fr, .v (.pair (.int .i64) (.pair (.int .i64) (.unit))) .fr], Bool, fun v => spec_l01Less v.1 v.2.1, fun r => ([.v (.bool) .fr r], [])⟩
noncomputable def spec_l01Less_ls : List LSum := []
noncomputable def spec_l01Less_tab : List Row := []
theorem spec_l01Less_t : ∀ r, r ∈ spec_l01Less_tab → RowIs Go.Proofs.Try.prog r := tab_nil
theorem spec_l01Less_rs : RoundsOK (mkCtx Go.K.Link.seat spec_l01Less_c spec_l01Less_tab) (sums spec_l01Less_ls) (loopsOf 0 spec_l01Less_code) spec_l01Less_ls := trivial
theorem spec_l01Less_e : ∀ v, (evFn (mkCtx Go.K.Link.seat spec_l01Less_c spec_l01Less_tab) (sums spec_l01Less_ls) 25 Go.Proofs.Try.f25 (encL spec_l01Less_s.a v)).run = (spec_l01Less_s.gen v).bind fun y => some (spec_l01Less_s.out y) := by
  rintro ⟨a, ⟨b, _⟩⟩
  show _ = (spec_l01Less a b).bind fun y : Bool => some (spec_l01Less_s.out y)
  simp only [spec_l01Less, kb_ite, kb_some, kb_none, kb_bind, kb_alt]
  kernel_rfl
theorem spec_l01Less_is : FnIs Go.Proofs.Try.prog 25 (modeOf []) (phi [spec_l01Less_s]) := spec_is (c := spec_l01Less_c) seatOK spec_l01Less_t Go.Proofs.Try.func25 rfl (code := spec_l01Less_code) rfl rfl spec_l01Less_rs spec_l01Less_e
noncomputable def spec_l03Is_s : Spec := ⟨[.v (.pair (.pair (.int .i64) (.pair (.int .i64) (.unit))) (.pair (.pair (.int .i64) (.pair (.int .i64) (.unit))) (.unit))) .fr], Bool, fun v => spec_l03Is v.1, fun r => ([.v (.bool) .fr r], [])⟩
noncomputable def spec_l03Is_ls : List LSum := []
noncomputable def spec_l03Is_tab : List Row := [⟨24, [], [spec_l01Is_s]⟩, ⟨25, [], [spec_l01Less_s]⟩]
theorem spec_l03Is_t : ∀ r, r ∈ spec_l03Is_tab → RowIs Go.Proofs.Try.prog r := tab_cons (spec_l01Is_is) (tab_cons (spec_l01Less_is) (tab_nil))
theorem spec_l03Is_rs : RoundsOK (mkCtx Go.K.Link.seat spec_l03Is_c spec_l03Is_tab) (sums spec_l03Is_ls) (loopsOf 0 spec_l03Is_code) spec_l03Is_ls := trivial
theorem spec_l03Is_e : ∀ v, (evFn (mkCtx Go.K.Link.seat spec_l03Is_c spec_l03Is_tab) (sums spec_l03Is_ls) 16 Go.Proofs.Try.f16 (encL spec_l03Is_s.a v)).run = (spec_l03Is_s.gen v).bind fun y => some (spec_l03Is_s.out y) := by
  rintro ⟨l, _⟩
  show _ = (spec_l03Is l).bind fun y : Bool => some (spec_l03Is_s.out y)
  simp only [spec_l03Is, kb_ite, kb_some, kb_none, kb_bind, kb_alt]
  kernel_rfl
theorem spec_l03Is_is : FnIs Go.Proofs.Try.prog 16 (modeOf []) (phi [spec_l03Is_s]) := spec_is (c := spec_l03Is_c) seatOK spec_l03Is_t Go.Proofs.Try.func16 rfl (code := spec_l03Is_code) rfl rfl spec_l03Is_rs spec_l03Is_e
noncomputable def spec_l05Minor_code : Code := (Go.Proofs.Try.f26.body).getD .skip
def spec_l05Minor_c : Cfg := ⟨26, [], [], [], [], []⟩
noncomputable def spec_l05Fails_code : Code := (Go.Proofs.Try.f43.body).getD .skip
def spec_l05Fails_c : Cfg := ⟨43, [], [[1, 4, 6, 8, 18, 23], [1, 4, 6, 18, 23], [2, 3], [], [], [], [1, 4, 6, 8, 9, 18, 23], [1, 4, 6, 8, 18, 23], [2, 3], [], [], [], [4, 6, 10, 11, 18, 23], [4, 6, 18, 23], [2, 3], [], [], [], [4, 6, 12, 18, 23], [], [2, 3]], [], [], []⟩
noncomputable def spec_l05Long_code : Code := (Go.Proofs.Try.f68.body).getD .skip
def spec_l05Long_c : Cfg := ⟨68, [], [], [], [], []⟩
noncomputable def spec_l01Distance_code : Code := (Go.Proofs.Try.f70.body).getD .skip
def spec_l01Distance_c : Cfg := ⟨70, [], [], [], [], []⟩
noncomputable def spec_l01Of_code : Code := (Go.Proofs.Try.f97.body).getD .skip
def spec_l01Of_c : Cfg := ⟨97, [], [], [], [], []⟩
noncomputable def spec_l01Of_s : Spec := ⟨[.v (.int .i64) .fr, .v (.int .i64) .fr], (Int × (Int × Unit)), fun v => spec_l01Of v.1 v.2.1, fun r => ([.v (.pair (.int .i64) (.pair (.int .i64) (.unit))) .fr r], [])⟩
noncomputable def spec_l01Of_ls : List LSum := []
noncomputable def spec_l01Of_tab : List Row := [⟨42, [], [spec_l01Divisor_s]⟩]
theorem spec_l01Of_t : ∀ r, r ∈ spec_l01Of_tab → RowIs Go.Proofs.Try.prog r := tab_cons (spec_l01Divisor_is) (tab_nil)
theorem spec_l01Of_rs : RoundsOK (mkCtx Go.K.Link.seat spec_l01Of_c spec_l01Of_tab) (sums spec_l01Of_ls) (loopsOf 0 spec_l01Of_code) spec_l01Of_ls := trivial
theorem spec_l01Of_e : ∀ v, (evFn (mkCtx Go.K.Link.seat spec_l01Of_c spec_l01Of_tab) (sums spec_l01Of_ls) 97 Go.Proofs.Try.f97 (encL spec_l01Of_s.a v)).run = (spec_l01Of_s.gen v).bind fun y => some (spec_l01Of_s.out y) := by
  rintro ⟨num, ⟨den, _⟩⟩
  show _ = (spec_l01Of num den).bind fun y : (Int × (Int × Unit)) => some (spec_l01Of_s.out y)
  simp only [spec_l01Of, kb_ite, kb_some, kb_none, kb_bind, kb_alt]
  kernel_rfl
theorem spec_l01Of_is : FnIs Go.Proofs.Try.prog 97 (modeOf []) (phi [spec_l01Of_s]) := spec_is (c := spec_l01Of_c) seatOK spec_l01Of_t Go.Proofs.Try.func97 rfl (code := spec_l01Of_code) rfl rfl spec_l01Of_rs spec_l01Of_e
noncomputable def spec_l01Distance_s : Spec := ⟨[.v (.pair (.int .i64) (.pair (.int .i64) (.unit))) .fr, .v (.pair (.int .i64) (.pair (.int .i64) (.unit))) .fr], (Int × (Int × Unit)), fun v => spec_l01Distance v.1 v.2.1, fun r => ([.v (.pair (.int .i64) (.pair (.int .i64) (.unit))) .fr r], [])⟩
noncomputable def spec_l01Distance_ls : List LSum := []
noncomputable def spec_l01Distance_tab : List Row := [⟨97, [], [spec_l01Of_s]⟩, ⟨25, [], [spec_l01Less_s]⟩]
theorem spec_l01Distance_t : ∀ r, r ∈ spec_l01Distance_tab → RowIs Go.Proofs.Try.prog r := tab_cons (spec_l01Of_is) (tab_cons (spec_l01Less_is) (tab_nil))
theorem spec_l01Distance_rs : RoundsOK (mkCtx Go.K.Link.seat spec_l01Distance_c spec_l01Distance_tab) (sums spec_l01Distance_ls) (loopsOf 0 spec_l01Distance_code) spec_l01Distance_ls := trivial
theorem spec_l01Distance_e : ∀ v, (evFn (mkCtx Go.K.Link.seat spec_l01Distance_c spec_l01Distance_tab) (sums spec_l01Distance_ls) 70 Go.Proofs.Try.f70 (encL spec_l01Distance_s.a v)).run = (spec_l01Distance_s.gen v).bind fun y => some (spec_l01Distance_s.out y) := by
  rintro ⟨a, ⟨b, _⟩⟩
  show _ = (spec_l01Distance a b).bind fun y : (Int × (Int × Unit)) => some (spec_l01Distance_s.out y)
  simp only [spec_l01Distance, kb_ite, kb_some, kb_none, kb_bind, kb_alt]
  kernel_rfl
theorem spec_l01Distance_is : FnIs Go.Proofs.Try.prog 70 (modeOf []) (phi [spec_l01Distance_s]) := spec_is (c := spec_l01Distance_c) seatOK spec_l01Distance_t Go.Proofs.Try.func70 rfl (code := spec_l01Distance_code) rfl rfl spec_l01Distance_rs spec_l01Distance_e
noncomputable def spec_l05Long_s : Spec := ⟨[.v (.pair (.pair (.int .i64) (.pair (.int .i64) (.unit))) (.pair (.pair (.int .i64) (.pair (.int .i64) (.unit))) (.unit))) .fr], Bool, fun v => spec_l05Long v.1, fun r => ([.v (.bool) .fr r], [])⟩
noncomputable def spec_l05Long_ls : List LSum := []
noncomputable def spec_l05Long_tab : List Row := [⟨70, [], [spec_l01Distance_s]⟩]
theorem spec_l05Long_t : ∀ r, r ∈ spec_l05Long_tab → RowIs Go.Proofs.Try.prog r := tab_cons (spec_l01Distance_is) (tab_nil)
theorem spec_l05Long_rs : RoundsOK (mkCtx Go.K.Link.seat spec_l05Long_c spec_l05Long_tab) (sums spec_l05Long_ls) (loopsOf 0 spec_l05Long_code) spec_l05Long_ls := trivial
theorem spec_l05Long_e : ∀ v, (evFn (mkCtx Go.K.Link.seat spec_l05Long_c spec_l05Long_tab) (sums spec_l05Long_ls) 68 Go.Proofs.Try.f68 (encL spec_l05Long_s.a v)).run = (spec_l05Long_s.gen v).bind fun y => some (spec_l05Long_s.out y) := by
  rintro ⟨l, _⟩
  show _ = (spec_l05Long l).bind fun y : Bool => some (spec_l05Long_s.out y)
  simp only [spec_l05Long, kb_ite, kb_some, kb_none, kb_bind, kb_alt]
  kernel_rfl
theorem spec_l05Long_is : FnIs Go.Proofs.Try.prog 68 (modeOf []) (phi [spec_l05Long_s]) := spec_is (c := spec_l05Long_c) seatOK spec_l05Long_t Go.Proofs.Try.func68 rfl (code := spec_l05Long_code) rfl rfl spec_l05Long_rs spec_l05Long_e
noncomputable def spec_l03Images_code : Code := (Go.Proofs.Try.f27.body).getD .skip
def spec_l03Images_c : Cfg := ⟨27, [], [[1, 4, 6, 19, 26, 29], [], [2, 3, 4, 6, 19, 26, 29], [], [], [], [1, 4, 5, 6, 19, 26, 29], [1, 4, 6, 19, 26, 29], [2, 3, 4, 6, 19, 26, 29]], [], [], []⟩
noncomputable def spec_l03Images_l1_s : LSum := ⟨2, ⟨[(1, .val (.ptr (.pair (.pair (.int .i64) (.pair (.int .i64) (.unit))) (.pair (.pair (.int .i64) (.pair (.int .i64) (.unit))) (.unit)))) (.own .fr)), (2, .val (.sl 31 (.pair (.pair (.int .i64) (.pair (.int .i64) (.unit))) (.pair (.pair (.int .i64) (.pair (.int .i64) (.unit))) (.unit)))) (.own .fr)), (0, .val (.int .i64) .fr)], 26⟩, (.ret, ⟨[(2, .sref 4 []), (0, .val (.bool) .fr), (0, .val (.sl 31 (.pair (.pair (.int .i64) (.pair (.int .i64) (.unit))) (.pair (.pair (.int .i64) (.pair (.int .i64) (.unit))) (.unit)))) (.own .fr)), (14, .sref 4 [])], 12⟩), [(.exit 2, ⟨[(1, .val (.ptr (.pair (.pair (.int .i64) (.pair (.int .i64) (.unit))) (.pair (.pair (.int .i64) (.pair (.int .i64) (.unit))) (.unit)))) (.own .fr)), (2, .val (.sl 31 (.pair (.pair (.int .i64) (.pair (.int .i64) (.unit))) (.pair (.pair (.int .i64) (.pair (.int .i64) (.unit))) (.unit)))) (.own .fr))], 27⟩)], spec_l03Images_l1⟩
noncomputable def spec_l03Diameter_code : Code := (Go.Proofs.Try.f45.body).getD .skip
def spec_l03Diameter_c : Cfg := ⟨45, [], [], [], [], []⟩
noncomputable def spec_l01Double_code : Code := (Go.Proofs.Try.f75.body).getD .skip
def spec_l01Double_c : Cfg := ⟨75, [], [], [], [], []⟩
noncomputable def spec_l01Double_s : Spec := ⟨[.v (.pair (.int .i64) (.pair (.int .i64) (.unit))) .fr], (Int × (Int × Unit)), fun v => spec_l01Double v.1, fun r => ([.v (.pair (.int .i64) (.pair (.int .i64) (.unit))) .fr r], [])⟩
noncomputable def spec_l01Double_ls : List LSum := []
noncomputable def spec_l01Double_tab : List Row := [⟨97, [], [spec_l01Of_s]⟩]
theorem spec_l01Double_t : ∀ r, r ∈ spec_l01Double_tab → RowIs Go.Proofs.Try.prog r := tab_cons (spec_l01Of_is) (tab_nil)
theorem spec_l01Double_rs : RoundsOK (mkCtx Go.K.Link.seat spec_l01Double_c spec_l01Double_tab) (sums spec_l01Double_ls) (loopsOf 0 spec_l01Double_code) spec_l01Double_ls := trivial
theorem spec_l01Double_e : ∀ v, (evFn (mkCtx Go.K.Link.seat spec_l01Double_c spec_l01Double_tab) (sums spec_l01Double_ls) 75 Go.Proofs.Try.f75 (encL spec_l01Double_s.a v)).run = (spec_l01Double_s.gen v).bind fun y => some (spec_l01Double_s.out y) := by
  rintro ⟨a, _⟩
  show _ = (spec_l01Double a).bind fun y : (Int × (Int × Unit)) => some (spec_l01Double_s.out y)
  simp only [spec_l01Double, kb_ite, kb_some, kb_none, kb_bind, kb_alt]
  kernel_rfl
theorem spec_l01Double_is : FnIs Go.Proofs.Try.prog 75 (modeOf []) (phi [spec_l01Double_s]) := spec_is (c := spec_l01Double_c) seatOK spec_l01Double_t Go.Proofs.Try.func75 rfl (code := spec_l01Double_code) rfl rfl spec_l01Double_rs spec_l01Double_e
noncomputable def spec_l03Diameter_s : Spec := ⟨[.v (.pair (.pair (.int .i64) (.pair (.int .i64) (.unit))) (.pair (.pair (.int .i64) (.pair (.int .i64) (.unit))) (.unit))) .fr], Bool, fun v => spec_l03Diameter v.1, fun r => ([.v (.bool) .fr r], [])⟩
noncomputable def spec_l03Diameter_ls : List LSum := []
noncomputable def spec_l03Diameter_tab : List Row := [⟨75, [], [spec_l01Double_s]⟩]
theorem spec_l03Diameter_t : ∀ r, r ∈ spec_l03Diameter_tab → RowIs Go.Proofs.Try.prog r := tab_cons (spec_l01Double_is) (tab_nil)
theorem spec_l03Diameter_rs : RoundsOK (mkCtx Go.K.Link.seat spec_l03Diameter_c spec_l03Diameter_tab) (sums spec_l03Diameter_ls) (loopsOf 0 spec_l03Diameter_code) spec_l03Diameter_ls := trivial
theorem spec_l03Diameter_e : ∀ v, (evFn (mkCtx Go.K.Link.seat spec_l03Diameter_c spec_l03Diameter_tab) (sums spec_l03Diameter_ls) 45 Go.Proofs.Try.f45 (encL spec_l03Diameter_s.a v)).run = (spec_l03Diameter_s.gen v).bind fun y => some (spec_l03Diameter_s.out y) := by
  rintro ⟨l, _⟩
  show _ = (spec_l03Diameter l).bind fun y : Bool => some (spec_l03Diameter_s.out y)
  simp only [spec_l03Diameter, kb_ite, kb_some, kb_none, kb_bind, kb_alt]
  kernel_rfl
theorem spec_l03Diameter_is : FnIs Go.Proofs.Try.prog 45 (modeOf []) (phi [spec_l03Diameter_s]) := spec_is (c := spec_l03Diameter_c) seatOK spec_l03Diameter_t Go.Proofs.Try.func45 rfl (code := spec_l03Diameter_code) rfl rfl spec_l03Diameter_rs spec_l03Diameter_e
noncomputable def spec_l03Image_code : Code := (Go.Proofs.Try.f46.body).getD .skip
def spec_l03Image_c : Cfg := ⟨46, [], [], [], [], []⟩
noncomputable def spec_l03Of_code : Code := (Go.Proofs.Try.f74.body).getD .skip
def spec_l03Of_c : Cfg := ⟨74, [], [], [], [], []⟩
noncomputable def spec_l03Of_s : Spec := ⟨[.v (.pair (.int .i64) (.pair (.int .i64) (.unit))) .fr, .v (.pair (.int .i64) (.pair (.int .i64) (.unit))) .fr], ((Int × (Int × Unit)) × ((Int × (Int × Unit)) × Unit)), fun v => spec_l03Of v.1 v.2.1, fun r => ([.v (.pair (.pair (.int .i64) (.pair (.int .i64) (.unit))) (.pair (.pair (.int .i64) (.pair (.int .i64) (.unit))) (.unit))) .fr r], [])⟩
noncomputable def spec_l03Of_ls : List LSum := []
noncomputable def spec_l03Of_tab : List Row := [⟨25, [], [spec_l01Less_s]⟩]
theorem spec_l03Of_t : ∀ r, r ∈ spec_l03Of_tab → RowIs Go.Proofs.Try.prog r := tab_cons (spec_l01Less_is) (tab_nil)
theorem spec_l03Of_rs : RoundsOK (mkCtx Go.K.Link.seat spec_l03Of_c spec_l03Of_tab) (sums spec_l03Of_ls) (loopsOf 0 spec_l03Of_code) spec_l03Of_ls := trivial
theorem spec_l03Of_e : ∀ v, (evFn (mkCtx Go.K.Link.seat spec_l03Of_c spec_l03Of_tab) (sums spec_l03Of_ls) 74 Go.Proofs.Try.f74 (encL spec_l03Of_s.a v)).run = (spec_l03Of_s.gen v).bind fun y => some (spec_l03Of_s.out y) := by
  rintro ⟨a, ⟨b, _⟩⟩
  show _ = (spec_l03Of a b).bind fun y : ((Int × (Int × Unit)) × ((Int × (Int × Unit)) × Unit)) => some (spec_l03Of_s.out y)
  simp only [spec_l03Of, kb_ite, kb_some, kb_none, kb_bind, kb_alt]
  kernel_rfl
theorem spec_l03Of_is : FnIs Go.Proofs.Try.prog 74 (modeOf []) (phi [spec_l03Of_s]) := spec_is (c := spec_l03Of_c) seatOK spec_l03Of_t Go.Proofs.Try.func74 rfl (code := spec_l03Of_code) rfl rfl spec_l03Of_rs spec_l03Of_e
noncomputable def spec_l03Image_s : Spec := ⟨[.v (.pair (.pair (.int .i64) (.pair (.int .i64) (.unit))) (.pair (.pair (.int .i64) (.pair (.int .i64) (.unit))) (.unit))) .fr], ((Int × (Int × Unit)) × ((Int × (Int × Unit)) × Unit)), fun v => spec_l03Image v.1, fun r => ([.v (.pair (.pair (.int .i64) (.pair (.int .i64) (.unit))) (.pair (.pair (.int .i64) (.pair (.int .i64) (.unit))) (.unit))) .fr r], [])⟩
noncomputable def spec_l03Image_ls : List LSum := []
noncomputable def spec_l03Image_tab : List Row := [⟨74, [], [spec_l03Of_s]⟩, ⟨75, [], [spec_l01Double_s]⟩]
theorem spec_l03Image_t : ∀ r, r ∈ spec_l03Image_tab → RowIs Go.Proofs.Try.prog r := tab_cons (spec_l03Of_is) (tab_cons (spec_l01Double_is) (tab_nil))
theorem spec_l03Image_rs : RoundsOK (mkCtx Go.K.Link.seat spec_l03Image_c spec_l03Image_tab) (sums spec_l03Image_ls) (loopsOf 0 spec_l03Image_code) spec_l03Image_ls := trivial
theorem spec_l03Image_e : ∀ v, (evFn (mkCtx Go.K.Link.seat spec_l03Image_c spec_l03Image_tab) (sums spec_l03Image_ls) 46 Go.Proofs.Try.f46 (encL spec_l03Image_s.a v)).run = (spec_l03Image_s.gen v).bind fun y => some (spec_l03Image_s.out y) := by
  rintro ⟨l, _⟩
  show _ = (spec_l03Image l).bind fun y : ((Int × (Int × Unit)) × ((Int × (Int × Unit)) × Unit)) => some (spec_l03Image_s.out y)
  simp only [spec_l03Image, kb_ite, kb_some, kb_none, kb_bind, kb_alt]
  kernel_rfl
theorem spec_l03Image_is : FnIs Go.Proofs.Try.prog 46 (modeOf []) (phi [spec_l03Image_s]) := spec_is (c := spec_l03Image_c) seatOK spec_l03Image_t Go.Proofs.Try.func46 rfl (code := spec_l03Image_code) rfl rfl spec_l03Image_rs spec_l03Image_e
noncomputable def spec_l03Images_l0_s : LSum := ⟨0, ⟨[(1, .val (.ptr (.pair (.pair (.int .i64) (.pair (.int .i64) (.unit))) (.pair (.pair (.int .i64) (.pair (.int .i64) (.unit))) (.unit)))) (.own .fr)), (2, .val (.sl 31 (.pair (.pair (.int .i64) (.pair (.int .i64) (.unit))) (.pair (.pair (.int .i64) (.pair (.int .i64) (.unit))) (.unit)))) (.own .fr))], 27⟩, (.ret, ⟨[(2, .sref 4 []), (0, .val (.bool) .fr), (0, .val (.sl 31 (.pair (.pair (.int .i64) (.pair (.int .i64) (.unit))) (.pair (.pair (.int .i64) (.pair (.int .i64) (.unit))) (.unit)))) (.own .fr)), (14, .sref 4 [])], 12⟩), [(.ret, ⟨[(2, .val (.sl 31 (.pair (.pair (.int .i64) (.pair (.int .i64) (.unit))) (.pair (.pair (.int .i64) (.pair (.int .i64) (.unit))) (.unit)))) (.own .fr)), (0, .val (.bool) .fr), (0, .val (.sl 31 (.pair (.pair (.int .i64) (.pair (.int .i64) (.unit))) (.pair (.pair (.int .i64) (.pair (.int .i64) (.unit))) (.unit)))) (.own .fr))], 27⟩), (.ret, ⟨[(2, .sref 4 []), (0, .val (.bool) .fr), (0, .val (.sl 31 (.pair (.pair (.int .i64) (.pair (.int .i64) (.unit))) (.pair (.pair (.int .i64) (.pair (.int .i64) (.unit))) (.unit)))) (.own .fr)), (24, .sref 4 [])], 2⟩)], spec_l03Images_l0⟩
noncomputable def spec_l03Images_s : Spec := ⟨[.v (.pair (.pair (.int .i64) (.pair (.int .i64) (.unit))) (.pair (.pair (.int .i64) (.pair (.int .i64) (.unit))) (.unit))) .fr], (List ((Int × (Int × Unit)) × ((Int × (Int × Unit)) × Unit))) × Bool, fun v => spec_l03Images v.1, fun r => ([.v (.sl 31 (.pair (.pair (.int .i64) (.pair (.int .i64) (.unit))) (.pair (.pair (.int .i64) (.pair (.int .i64) (.unit))) (.unit)))) (.own .fr) r.1, .v (.bool) .fr r.2], [])⟩
noncomputable def spec_l03Images_ls : List LSum := [spec_l03Images_l0_s, spec_l03Images_l1_s]
noncomputable def spec_l03Images_tab : List Row := [⟨45, [], [spec_l03Diameter_s]⟩, ⟨46, [], [spec_l03Image_s]⟩]
theorem spec_l03Images_t : ∀ r, r ∈ spec_l03Images_tab → RowIs Go.Proofs.Try.prog r := tab_cons (spec_l03Diameter_is) (tab_cons (spec_l03Image_is) (tab_nil))
theorem spec_l03Images_l0_r : RoundIs (mkCtx Go.K.Link.seat spec_l03Images_c spec_l03Images_tab) (sums spec_l03Images_ls) 0 (bodyAt (loopsOf 0 spec_l03Images_code) 0) spec_l03Images_l0_s := by
  rintro ⟨l, ⟨out, _⟩⟩
  show _ = (spec_l03Images_l0 (l, (out, ()))).bind fun r : (Ctl ((((Int × (Int × Unit)) × ((Int × (Int × Unit)) × Unit))) × (List ((Int × (Int × Unit)) × ((Int × (Int × Unit)) × Unit))) × Unit) ((Bool × (List ((Int × (Int × Unit)) × ((Int × (Int × Unit)) × Unit))) × Unit) ⊕ ((List ((Int × (Int × Unit)) × ((Int × (Int × Unit)) × Unit))) × Bool × (List ((Int × (Int × Unit)) × ((Int × (Int × Unit)) × Unit))) × Unit) ⊕ (Bool × (List ((Int × (Int × Unit)) × ((Int × (Int × Unit)) × Unit))) × Unit))) => some (ctlVal spec_l03Images_l0_s r)
  simp only [spec_l03Images_l0, kb_ite, kb_some, kb_none, kb_bind, kb_alt]
  kernel_rfl
theorem spec_l03Images_l1_r : RoundIs (mkCtx Go.K.Link.seat spec_l03Images_c spec_l03Images_tab) (sums spec_l03Images_ls) 2 (bodyAt (loopsOf 0 spec_l03Images_code) 1) spec_l03Images_l1_s := by
  rintro ⟨l, ⟨out, ⟨i, _⟩⟩⟩
  show _ = (spec_l03Images_l1 (l, (out, (i, ())))).bind fun r : (Ctl ((((Int × (Int × Unit)) × ((Int × (Int × Unit)) × Unit))) × (List ((Int × (Int × Unit)) × ((Int × (Int × Unit)) × Unit))) × Int × Unit) ((Bool × (List ((Int × (Int × Unit)) × ((Int × (Int × Unit)) × Unit))) × Unit) ⊕ ((((Int × (Int × Unit)) × ((Int × (Int × Unit)) × Unit))) × (List ((Int × (Int × Unit)) × ((Int × (Int × Unit)) × Unit))) × Unit))) => some (ctlVal spec_l03Images_l1_s r)
  simp only [spec_l03Images_l1, kb_ite, kb_some, kb_none, kb_bind, kb_alt]
  kernel_rfl
theorem spec_l03Images_rs : RoundsOK (mkCtx Go.K.Link.seat spec_l03Images_c spec_l03Images_tab) (sums spec_l03Images_ls) (loopsOf 0 spec_l03Images_code) spec_l03Images_ls := ⟨⟨rfl, rfl, spec_l03Images_l0_r⟩, ⟨⟨rfl, rfl, spec_l03Images_l1_r⟩, trivial⟩⟩
theorem spec_l03Images_e : ∀ v, (evFn (mkCtx Go.K.Link.seat spec_l03Images_c spec_l03Images_tab) (sums spec_l03Images_ls) 27 Go.Proofs.Try.f27 (encL spec_l03Images_s.a v)).run = (spec_l03Images_s.gen v).bind fun y => some (spec_l03Images_s.out y) := by
  rintro ⟨l, _⟩
  show _ = (spec_l03Images l).bind fun y : (List ((Int × (Int × Unit)) × ((Int × (Int × Unit)) × Unit))) × Bool => some (spec_l03Images_s.out y)
  simp only [spec_l03Images, kb_ite, kb_some, kb_none, kb_bind, kb_alt]
  kernel_rfl
theorem spec_l03Images_is : FnIs Go.Proofs.Try.prog 27 (modeOf []) (phi [spec_l03Images_s]) := spec_is (c := spec_l03Images_c) seatOK spec_l03Images_t Go.Proofs.Try.func27 rfl (code := spec_l03Images_code) rfl rfl spec_l03Images_rs spec_l03Images_e
noncomputable def spec_l05Majors_code : Code := (Go.Proofs.Try.f44.body).getD .skip
def spec_l05Majors_c : Cfg := ⟨44, [], [], [], [], []⟩
noncomputable def spec_l05Ends_code : Code := (Go.Proofs.Try.f71.body).getD .skip
def spec_l05Ends_c : Cfg := ⟨71, [], [], [], [], []⟩
noncomputable def spec_l03Forward_code : Code := (Go.Proofs.Try.f98.body).getD .skip
def spec_l03Forward_c : Cfg := ⟨98, [], [], [], [], []⟩
noncomputable def spec_l03Forward_s : Spec := ⟨[.v (.pair (.int .i64) (.pair (.int .i64) (.unit))) .fr, .v (.pair (.int .i64) (.pair (.int .i64) (.unit))) .fr], (Int × (Int × Unit)), fun v => spec_l03Forward v.1 v.2.1, fun r => ([.v (.pair (.int .i64) (.pair (.int .i64) (.unit))) .fr r], [])⟩
noncomputable def spec_l03Forward_ls : List LSum := []
noncomputable def spec_l03Forward_tab : List Row := [⟨97, [], [spec_l01Of_s]⟩]
theorem spec_l03Forward_t : ∀ r, r ∈ spec_l03Forward_tab → RowIs Go.Proofs.Try.prog r := tab_cons (spec_l01Of_is) (tab_nil)
theorem spec_l03Forward_rs : RoundsOK (mkCtx Go.K.Link.seat spec_l03Forward_c spec_l03Forward_tab) (sums spec_l03Forward_ls) (loopsOf 0 spec_l03Forward_code) spec_l03Forward_ls := trivial
theorem spec_l03Forward_e : ∀ v, (evFn (mkCtx Go.K.Link.seat spec_l03Forward_c spec_l03Forward_tab) (sums spec_l03Forward_ls) 98 Go.Proofs.Try.f98 (encL spec_l03Forward_s.a v)).run = (spec_l03Forward_s.gen v).bind fun y => some (spec_l03Forward_s.out y) := by
  rintro ⟨a, ⟨b, _⟩⟩
  show _ = (spec_l03Forward a b).bind fun y : (Int × (Int × Unit)) => some (spec_l03Forward_s.out y)
  simp only [spec_l03Forward, kb_ite, kb_some, kb_none, kb_bind, kb_alt]
  kernel_rfl
theorem spec_l03Forward_is : FnIs Go.Proofs.Try.prog 98 (modeOf []) (phi [spec_l03Forward_s]) := spec_is (c := spec_l03Forward_c) seatOK spec_l03Forward_t Go.Proofs.Try.func98 rfl (code := spec_l03Forward_code) rfl rfl spec_l03Forward_rs spec_l03Forward_e
noncomputable def spec_l05Ends_s : Spec := ⟨[.v (.pair (.pair (.int .i64) (.pair (.int .i64) (.unit))) (.pair (.pair (.int .i64) (.pair (.int .i64) (.unit))) (.unit))) .fr], (Int × (Int × Unit)) × (Int × (Int × Unit)), fun v => spec_l05Ends v.1, fun r => ([.v (.pair (.int .i64) (.pair (.int .i64) (.unit))) .fr r.1, .v (.pair (.int .i64) (.pair (.int .i64) (.unit))) .fr r.2], [])⟩
noncomputable def spec_l05Ends_ls : List LSum := []
noncomputable def spec_l05Ends_tab : List Row := [⟨98, [], [spec_l03Forward_s]⟩]
theorem spec_l05Ends_t : ∀ r, r ∈ spec_l05Ends_tab → RowIs Go.Proofs.Try.prog r := tab_cons (spec_l03Forward_is) (tab_nil)
theorem spec_l05Ends_rs : RoundsOK (mkCtx Go.K.Link.seat spec_l05Ends_c spec_l05Ends_tab) (sums spec_l05Ends_ls) (loopsOf 0 spec_l05Ends_code) spec_l05Ends_ls := trivial
theorem spec_l05Ends_e : ∀ v, (evFn (mkCtx Go.K.Link.seat spec_l05Ends_c spec_l05Ends_tab) (sums spec_l05Ends_ls) 71 Go.Proofs.Try.f71 (encL spec_l05Ends_s.a v)).run = (spec_l05Ends_s.gen v).bind fun y => some (spec_l05Ends_s.out y) := by
  rintro ⟨l, _⟩
  show _ = (spec_l05Ends l).bind fun y : (Int × (Int × Unit)) × (Int × (Int × Unit)) => some (spec_l05Ends_s.out y)
  simp only [spec_l05Ends, kb_ite, kb_some, kb_none, kb_bind, kb_alt]
  kernel_rfl
theorem spec_l05Ends_is : FnIs Go.Proofs.Try.prog 71 (modeOf []) (phi [spec_l05Ends_s]) := spec_is (c := spec_l05Ends_c) seatOK spec_l05Ends_t Go.Proofs.Try.func71 rfl (code := spec_l05Ends_code) rfl rfl spec_l05Ends_rs spec_l05Ends_e
noncomputable def spec_l01Halves_code : Code := (Go.Proofs.Try.f72.body).getD .skip
def spec_l01Halves_c : Cfg := ⟨72, [], [], [], [], []⟩
noncomputable def spec_l01Halves_s : Spec := ⟨[.v (.pair (.int .i64) (.pair (.int .i64) (.unit))) .fr], (Int × (Int × Unit)) × (Int × (Int × Unit)) × Bool, fun v => spec_l01Halves v.1, fun r => ([.v (.pair (.int .i64) (.pair (.int .i64) (.unit))) .fr r.1, .v (.pair (.int .i64) (.pair (.int .i64) (.unit))) .fr r.2.1, .v (.bool) .fr r.2.2], [])⟩
noncomputable def spec_l01Halves_ls : List LSum := []
noncomputable def spec_l01Halves_tab : List Row := [⟨97, [], [spec_l01Of_s]⟩]
theorem spec_l01Halves_t : ∀ r, r ∈ spec_l01Halves_tab → RowIs Go.Proofs.Try.prog r := tab_cons (spec_l01Of_is) (tab_nil)
theorem spec_l01Halves_rs : RoundsOK (mkCtx Go.K.Link.seat spec_l01Halves_c spec_l01Halves_tab) (sums spec_l01Halves_ls) (loopsOf 0 spec_l01Halves_code) spec_l01Halves_ls := trivial
theorem spec_l01Halves_e : ∀ v, (evFn (mkCtx Go.K.Link.seat spec_l01Halves_c spec_l01Halves_tab) (sums spec_l01Halves_ls) 72 Go.Proofs.Try.f72 (encL spec_l01Halves_s.a v)).run = (spec_l01Halves_s.gen v).bind fun y => some (spec_l01Halves_s.out y) := by
  rintro ⟨a, _⟩
  show _ = (spec_l01Halves a).bind fun y : (Int × (Int × Unit)) × (Int × (Int × Unit)) × Bool => some (spec_l01Halves_s.out y)
  simp only [spec_l01Halves, kb_ite, kb_some, kb_none, kb_bind, kb_alt]
  kernel_rfl
theorem spec_l01Halves_is : FnIs Go.Proofs.Try.prog 72 (modeOf []) (phi [spec_l01Halves_s]) := spec_is (c := spec_l01Halves_c) seatOK spec_l01Halves_t Go.Proofs.Try.func72 rfl (code := spec_l01Halves_code) rfl rfl spec_l01Halves_rs spec_l01Halves_e
noncomputable def spec_l05Pair_code : Code := (Go.Proofs.Try.f73.body).getD .skip
def spec_l05Pair_c : Cfg := ⟨73, [], [], [], [], []⟩
noncomputable def spec_l03Less_code : Code := (Go.Proofs.Try.f47.body).getD .skip
def spec_l03Less_c : Cfg := ⟨47, [], [], [], [], []⟩
noncomputable def spec_l03Less_s : Spec := ⟨[.v (.pair (.pair (.int .i64) (.pair (.int .i64) (.unit))) (.pair (.pair (.int .i64) (.pair (.int .i64) (.unit))) (.unit))) .fr, .v (.pair (.pair (.int .i64) (.pair (.int .i64) (.unit))) (.pair (.pair (.int .i64) (.pair (.int .i64) (.unit))) (.unit))) .fr], Bool, fun v => spec_l03Less v.1 v.2.1, fun r => ([.v (.bool) .fr r], [])⟩
noncomputable def spec_l03Less_ls : List LSum := []
noncomputable def spec_l03Less_tab : List Row := [⟨25, [], [spec_l01Less_s]⟩]
theorem spec_l03Less_t : ∀ r, r ∈ spec_l03Less_tab → RowIs Go.Proofs.Try.prog r := tab_cons (spec_l01Less_is) (tab_nil)
theorem spec_l03Less_rs : RoundsOK (mkCtx Go.K.Link.seat spec_l03Less_c spec_l03Less_tab) (sums spec_l03Less_ls) (loopsOf 0 spec_l03Less_code) spec_l03Less_ls := trivial
theorem spec_l03Less_e : ∀ v, (evFn (mkCtx Go.K.Link.seat spec_l03Less_c spec_l03Less_tab) (sums spec_l03Less_ls) 47 Go.Proofs.Try.f47 (encL spec_l03Less_s.a v)).run = (spec_l03Less_s.gen v).bind fun y => some (spec_l03Less_s.out y) := by
  rintro ⟨l, ⟨m, _⟩⟩
  show _ = (spec_l03Less l m).bind fun y : Bool => some (spec_l03Less_s.out y)
  simp only [spec_l03Less, kb_ite, kb_some, kb_none, kb_bind, kb_alt]
  kernel_rfl
theorem spec_l03Less_is : FnIs Go.Proofs.Try.prog 47 (modeOf []) (phi [spec_l03Less_s]) := spec_is (c := spec_l03Less_c) seatOK spec_l03Less_t Go.Proofs.Try.func47 rfl (code := spec_l03Less_code) rfl rfl spec_l03Less_rs spec_l03Less_e
noncomputable def spec_l05Pair_s : Spec := ⟨[.v (.pair (.pair (.int .i64) (.pair (.int .i64) (.unit))) (.pair (.pair (.int .i64) (.pair (.int .i64) (.unit))) (.unit))) .fr, .v (.pair (.pair (.int .i64) (.pair (.int .i64) (.unit))) (.pair (.pair (.int .i64) (.pair (.int .i64) (.unit))) (.unit))) .fr], (List ((Int × (Int × Unit)) × ((Int × (Int × Unit)) × Unit))), fun v => spec_l05Pair v.1 v.2.1, fun r => ([.v (.sl 31 (.pair (.pair (.int .i64) (.pair (.int .i64) (.unit))) (.pair (.pair (.int .i64) (.pair (.int .i64) (.unit))) (.unit)))) (.own .fr) r], [])⟩
noncomputable def spec_l05Pair_ls : List LSum := []
noncomputable def spec_l05Pair_tab : List Row := [⟨47, [], [spec_l03Less_s]⟩]
theorem spec_l05Pair_t : ∀ r, r ∈ spec_l05Pair_tab → RowIs Go.Proofs.Try.prog r := tab_cons (spec_l03Less_is) (tab_nil)
theorem spec_l05Pair_rs : RoundsOK (mkCtx Go.K.Link.seat spec_l05Pair_c spec_l05Pair_tab) (sums spec_l05Pair_ls) (loopsOf 0 spec_l05Pair_code) spec_l05Pair_ls := trivial
theorem spec_l05Pair_e : ∀ v, (evFn (mkCtx Go.K.Link.seat spec_l05Pair_c spec_l05Pair_tab) (sums spec_l05Pair_ls) 73 Go.Proofs.Try.f73 (encL spec_l05Pair_s.a v)).run = (spec_l05Pair_s.gen v).bind fun y => some (spec_l05Pair_s.out y) := by
  rintro ⟨l, ⟨m, _⟩⟩
  show _ = (spec_l05Pair l m).bind fun y : (List ((Int × (Int × Unit)) × ((Int × (Int × Unit)) × Unit))) => some (spec_l05Pair_s.out y)
  simp only [spec_l05Pair, kb_ite, kb_some, kb_none, kb_bind, kb_alt]
  kernel_rfl
theorem spec_l05Pair_is : FnIs Go.Proofs.Try.prog 73 (modeOf []) (phi [spec_l05Pair_s]) := spec_is (c := spec_l05Pair_c) seatOK spec_l05Pair_t Go.Proofs.Try.func73 rfl (code := spec_l05Pair_code) rfl rfl spec_l05Pair_rs spec_l05Pair_e
noncomputable def spec_l05Majors_s : Spec := ⟨[.v (.pair (.pair (.int .i64) (.pair (.int .i64) (.unit))) (.pair (.pair (.int .i64) (.pair (.int .i64) (.unit))) (.unit))) .fr], (List ((Int × (Int × Unit)) × ((Int × (Int × Unit)) × Unit))) × Bool, fun v => spec_l05Majors v.1, fun r => ([.v (.sl 31 (.pair (.pair (.int .i64) (.pair (.int .i64) (.unit))) (.pair (.pair (.int .i64) (.pair (.int .i64) (.unit))) (.unit)))) (.own .fr) r.1, .v (.bool) .fr r.2], [])⟩
noncomputable def spec_l05Majors_ls : List LSum := []
noncomputable def spec_l05Majors_tab : List Row := [⟨71, [], [spec_l05Ends_s]⟩, ⟨72, [], [spec_l01Halves_s]⟩, ⟨73, [], [spec_l05Pair_s]⟩, ⟨74, [], [spec_l03Of_s]⟩]
theorem spec_l05Majors_t : ∀ r, r ∈ spec_l05Majors_tab → RowIs Go.Proofs.Try.prog r := tab_cons (spec_l05Ends_is) (tab_cons (spec_l01Halves_is) (tab_cons (spec_l05Pair_is) (tab_cons (spec_l03Of_is) (tab_nil))))
theorem spec_l05Majors_rs : RoundsOK (mkCtx Go.K.Link.seat spec_l05Majors_c spec_l05Majors_tab) (sums spec_l05Majors_ls) (loopsOf 0 spec_l05Majors_code) spec_l05Majors_ls := trivial
theorem spec_l05Majors_e : ∀ v, (evFn (mkCtx Go.K.Link.seat spec_l05Majors_c spec_l05Majors_tab) (sums spec_l05Majors_ls) 44 Go.Proofs.Try.f44 (encL spec_l05Majors_s.a v)).run = (spec_l05Majors_s.gen v).bind fun y => some (spec_l05Majors_s.out y) := by
  rintro ⟨m, _⟩
  show _ = (spec_l05Majors m).bind fun y : (List ((Int × (Int × Unit)) × ((Int × (Int × Unit)) × Unit))) × Bool => some (spec_l05Majors_s.out y)
  simp only [spec_l05Majors, kb_ite, kb_some, kb_none, kb_bind, kb_alt]
  kernel_rfl
theorem spec_l05Majors_is : FnIs Go.Proofs.Try.prog 44 (modeOf []) (phi [spec_l05Majors_s]) := spec_is (c := spec_l05Majors_c) seatOK spec_l05Majors_t Go.Proofs.Try.func44 rfl (code := spec_l05Majors_code) rfl rfl spec_l05Majors_rs spec_l05Majors_e
noncomputable def spec_l03Cross_code : Code := (Go.Proofs.Try.f69.body).getD .skip
def spec_l03Cross_c : Cfg := ⟨69, [], [], [], [], []⟩
noncomputable def spec_l01Within_code : Code := (Go.Proofs.Try.f96.body).getD .skip
def spec_l01Within_c : Cfg := ⟨96, [], [], [], [], []⟩
noncomputable def spec_l01Within_s : Spec := ⟨[.v (.pair (.int .i64) (.pair (.int .i64) (.unit))) .fr, .v (.pair (.int .i64) (.pair (.int .i64) (.unit))) .fr, .v (.pair (.int .i64) (.pair (.int .i64) (.unit))) .fr], Bool, fun v => spec_l01Within v.1 v.2.1 v.2.2.1, fun r => ([.v (.bool) .fr r], [])⟩
noncomputable def spec_l01Within_ls : List LSum := []
noncomputable def spec_l01Within_tab : List Row := [⟨25, [], [spec_l01Less_s]⟩]
theorem spec_l01Within_t : ∀ r, r ∈ spec_l01Within_tab → RowIs Go.Proofs.Try.prog r := tab_cons (spec_l01Less_is) (tab_nil)
theorem spec_l01Within_rs : RoundsOK (mkCtx Go.K.Link.seat spec_l01Within_c spec_l01Within_tab) (sums spec_l01Within_ls) (loopsOf 0 spec_l01Within_code) spec_l01Within_ls := trivial
theorem spec_l01Within_e : ∀ v, (evFn (mkCtx Go.K.Link.seat spec_l01Within_c spec_l01Within_tab) (sums spec_l01Within_ls) 96 Go.Proofs.Try.f96 (encL spec_l01Within_s.a v)).run = (spec_l01Within_s.gen v).bind fun y => some (spec_l01Within_s.out y) := by
  rintro ⟨x, ⟨a, ⟨b, _⟩⟩⟩
  show _ = (spec_l01Within x a b).bind fun y : Bool => some (spec_l01Within_s.out y)
  simp only [spec_l01Within, kb_ite, kb_some, kb_none, kb_bind, kb_alt]
  kernel_rfl
theorem spec_l01Within_is : FnIs Go.Proofs.Try.prog 96 (modeOf []) (phi [spec_l01Within_s]) := spec_is (c := spec_l01Within_c) seatOK spec_l01Within_t Go.Proofs.Try.func96 rfl (code := spec_l01Within_code) rfl rfl spec_l01Within_rs spec_l01Within_e
noncomputable def spec_l03Cross_s : Spec := ⟨[.v (.pair (.pair (.int .i64) (.pair (.int .i64) (.unit))) (.pair (.pair (.int .i64) (.pair (.int .i64) (.unit))) (.unit))) .fr, .v (.pair (.pair (.int .i64) (.pair (.int .i64) (.unit))) (.pair (.pair (.int .i64) (.pair (.int .i64) (.unit))) (.unit))) .fr], Bool, fun v => spec_l03Cross v.1 v.2.1, fun r => ([.v (.bool) .fr r], [])⟩
noncomputable def spec_l03Cross_ls : List LSum := []
noncomputable def spec_l03Cross_tab : List Row := [⟨96, [], [spec_l01Within_s]⟩]
theorem spec_l03Cross_t : ∀ r, r ∈ spec_l03Cross_tab → RowIs Go.Proofs.Try.prog r := tab_cons (spec_l01Within_is) (tab_nil)
theorem spec_l03Cross_rs : RoundsOK (mkCtx Go.K.Link.seat spec_l03Cross_c spec_l03Cross_tab) (sums spec_l03Cross_ls) (loopsOf 0 spec_l03Cross_code) spec_l03Cross_ls := trivial
theorem spec_l03Cross_e : ∀ v, (evFn (mkCtx Go.K.Link.seat spec_l03Cross_c spec_l03Cross_tab) (sums spec_l03Cross_ls) 69 Go.Proofs.Try.f69 (encL spec_l03Cross_s.a v)).run = (spec_l03Cross_s.gen v).bind fun y => some (spec_l03Cross_s.out y) := by
  rintro ⟨l, ⟨m, _⟩⟩
  show _ = (spec_l03Cross l m).bind fun y : Bool => some (spec_l03Cross_s.out y)
  simp only [spec_l03Cross, kb_ite, kb_some, kb_none, kb_bind, kb_alt]
  kernel_rfl
theorem spec_l03Cross_is : FnIs Go.Proofs.Try.prog 69 (modeOf []) (phi [spec_l03Cross_s]) := spec_is (c := spec_l03Cross_c) seatOK spec_l03Cross_t Go.Proofs.Try.func69 rfl (code := spec_l03Cross_code) rfl rfl spec_l03Cross_rs spec_l03Cross_e
noncomputable def spec_l05Fails_l1_s : LSum := ⟨2, ⟨[(1, .val (.ptr (.pair (.pair (.int .i64) (.pair (.int .i64) (.unit))) (.pair (.pair (.int .i64) (.pair (.int .i64) (.unit))) (.unit)))) (.own .fr)), (2, .val (.sl 31 (.pair (.pair (.int .i64) (.pair (.int .i64) (.unit))) (.pair (.pair (.int .i64) (.pair (.int .i64) (.unit))) (.unit)))) (.own .fr)), (1, .val (.sl 31 (.pair (.pair (.int .i64) (.pair (.int .i64) (.unit))) (.pair (.pair (.int .i64) (.pair (.int .i64) (.unit))) (.unit)))) (.own .fr)), (1, .val (.int .i64) .fr), (0, .val (.int .i64) .fr)], 89⟩, (.ret, ⟨[(2, .val (.int .i64) .fr), (0, .val (.bool) .fr)], 95⟩), [(.exit 2, ⟨[(1, .val (.ptr (.pair (.pair (.int .i64) (.pair (.int .i64) (.unit))) (.pair (.pair (.int .i64) (.pair (.int .i64) (.unit))) (.unit)))) (.own .fr)), (2, .val (.sl 31 (.pair (.pair (.int .i64) (.pair (.int .i64) (.unit))) (.pair (.pair (.int .i64) (.pair (.int .i64) (.unit))) (.unit)))) (.own .fr)), (1, .val (.sl 31 (.pair (.pair (.int .i64) (.pair (.int .i64) (.unit))) (.pair (.pair (.int .i64) (.pair (.int .i64) (.unit))) (.unit)))) (.own .fr)), (1, .val (.int .i64) .fr)], 90⟩)], spec_l05Fails_l1⟩
noncomputable def spec_l05Fails_l0_s : LSum := ⟨0, ⟨[(1, .val (.ptr (.pair (.pair (.int .i64) (.pair (.int .i64) (.unit))) (.pair (.pair (.int .i64) (.pair (.int .i64) (.unit))) (.unit)))) (.own .fr)), (2, .val (.sl 31 (.pair (.pair (.int .i64) (.pair (.int .i64) (.unit))) (.pair (.pair (.int .i64) (.pair (.int .i64) (.unit))) (.unit)))) (.own .fr)), (1, .val (.sl 31 (.pair (.pair (.int .i64) (.pair (.int .i64) (.unit))) (.pair (.pair (.int .i64) (.pair (.int .i64) (.unit))) (.unit)))) (.own .fr)), (1, .val (.int .i64) .fr)], 90⟩, (.ret, ⟨[(2, .val (.int .i64) .fr), (0, .val (.bool) .fr)], 95⟩), [(.exit 0, ⟨[(1, .val (.ptr (.pair (.pair (.int .i64) (.pair (.int .i64) (.unit))) (.pair (.pair (.int .i64) (.pair (.int .i64) (.unit))) (.unit)))) (.own .fr)), (2, .val (.sl 31 (.pair (.pair (.int .i64) (.pair (.int .i64) (.unit))) (.pair (.pair (.int .i64) (.pair (.int .i64) (.unit))) (.unit)))) (.own .fr)), (1, .val (.sl 31 (.pair (.pair (.int .i64) (.pair (.int .i64) (.unit))) (.pair (.pair (.int .i64) (.pair (.int .i64) (.unit))) (.unit)))) (.own .fr))], 92⟩)], spec_l05Fails_l0⟩
noncomputable def spec_l05Fails_l2_s : LSum := ⟨4, ⟨[(4, .val (.sl 31 (.pair (.pair (.int .i64) (.pair (.int .i64) (.unit))) (.pair (.pair (.int .i64) (.pair (.int .i64) (.unit))) (.unit)))) (.own .fr)), (1, .val (.sl 31 (.pair (.pair (.int .i64) (.pair (.int .i64) (.unit))) (.pair (.pair (.int .i64) (.pair (.int .i64) (.unit))) (.unit)))) (.own .fr)), (3, .val (.ptr (.pair (.int .i64) (.pair (.int .i64) (.unit)))) (.own .fr)), (0, .val (.int .i64) .fr)], 87⟩, (.ret, ⟨[(2, .val (.int .i64) .fr), (0, .val (.bool) .fr)], 95⟩), [(.exit 4, ⟨[(4, .val (.sl 31 (.pair (.pair (.int .i64) (.pair (.int .i64) (.unit))) (.pair (.pair (.int .i64) (.pair (.int .i64) (.unit))) (.unit)))) (.own .fr)), (1, .val (.sl 31 (.pair (.pair (.int .i64) (.pair (.int .i64) (.unit))) (.pair (.pair (.int .i64) (.pair (.int .i64) (.unit))) (.unit)))) (.own .fr))], 92⟩)], spec_l05Fails_l2⟩
noncomputable def spec_l05Fails_l3_s : LSum := ⟨6, ⟨[(4, .val (.sl 31 (.pair (.pair (.int .i64) (.pair (.int .i64) (.unit))) (.pair (.pair (.int .i64) (.pair (.int .i64) (.unit))) (.unit)))) (.own .fr)), (1, .val (.sl 31 (.pair (.pair (.int .i64) (.pair (.int .i64) (.unit))) (.pair (.pair (.int .i64) (.pair (.int .i64) (.unit))) (.unit)))) (.own .fr)), (5, .val (.int .i64) .fr)], 86⟩, (.ret, ⟨[(2, .val (.int .i64) .fr), (0, .val (.bool) .fr)], 95⟩), [(.exit 6, ⟨[], 99⟩)], spec_l05Fails_l3⟩
noncomputable def spec_l05Fails_s : Spec := ⟨[.v (.pair (.pair (.int .i64) (.pair (.int .i64) (.unit))) (.pair (.pair (.int .i64) (.pair (.int .i64) (.unit))) (.unit))) .fr], Int × Bool, fun v => spec_l05Fails v.1, fun r => ([.v (.int .i64) .fr r.1, .v (.bool) .fr r.2], [])⟩
noncomputable def spec_l05Fails_ls : List LSum := [spec_l05Fails_l0_s, spec_l05Fails_l1_s, spec_l05Fails_l2_s, spec_l05Fails_l3_s]
noncomputable def spec_l05Fails_tab : List Row := [⟨68, [], [spec_l05Long_s]⟩, ⟨69, [], [spec_l03Cross_s]⟩, ⟨70, [], [spec_l01Distance_s]⟩, ⟨44, [], [spec_l05Majors_s]⟩, ⟨25, [], [spec_l01Less_s]⟩, ⟨27, [], [spec_l03Images_s]⟩]
theorem spec_l05Fails_t : ∀ r, r ∈ spec_l05Fails_tab → RowIs Go.Proofs.Try.prog r := tab_cons (spec_l05Long_is) (tab_cons (spec_l03Cross_is) (tab_cons (spec_l01Distance_is) (tab_cons (spec_l05Majors_is) (tab_cons (spec_l01Less_is) (tab_cons (spec_l03Images_is) (tab_nil))))))
theorem spec_l05Fails_l0_r : RoundIs (mkCtx Go.K.Link.seat spec_l05Fails_c spec_l05Fails_tab) (sums spec_l05Fails_ls) 0 (bodyAt (loopsOf 0 spec_l05Fails_code) 0) spec_l05Fails_l0_s := by
  rintro ⟨m, ⟨images, ⟨majors, ⟨i, _⟩⟩⟩⟩
  show _ = (spec_l05Fails_l0 (m, (images, (majors, (i, ()))))).bind fun r : (Ctl ((((Int × (Int × Unit)) × ((Int × (Int × Unit)) × Unit))) × (List ((Int × (Int × Unit)) × ((Int × (Int × Unit)) × Unit))) × (List ((Int × (Int × Unit)) × ((Int × (Int × Unit)) × Unit))) × Int × Unit) ((Int × Bool × Unit) ⊕ ((((Int × (Int × Unit)) × ((Int × (Int × Unit)) × Unit))) × (List ((Int × (Int × Unit)) × ((Int × (Int × Unit)) × Unit))) × (List ((Int × (Int × Unit)) × ((Int × (Int × Unit)) × Unit))) × Unit))) => some (ctlVal spec_l05Fails_l0_s r)
  simp only [spec_l05Fails_l0, kb_ite, kb_some, kb_none, kb_bind, kb_alt]
  kernel_rfl
theorem spec_l05Fails_l1_r : RoundIs (mkCtx Go.K.Link.seat spec_l05Fails_c spec_l05Fails_tab) (sums spec_l05Fails_ls) 2 (bodyAt (loopsOf 0 spec_l05Fails_code) 1) spec_l05Fails_l1_s := by
  rintro ⟨m, ⟨images, ⟨majors, ⟨i, ⟨k, _⟩⟩⟩⟩⟩
  show _ = (spec_l05Fails_l1 (m, (images, (majors, (i, (k, ())))))).bind fun r : (Ctl ((((Int × (Int × Unit)) × ((Int × (Int × Unit)) × Unit))) × (List ((Int × (Int × Unit)) × ((Int × (Int × Unit)) × Unit))) × (List ((Int × (Int × Unit)) × ((Int × (Int × Unit)) × Unit))) × Int × Int × Unit) ((Int × Bool × Unit) ⊕ ((((Int × (Int × Unit)) × ((Int × (Int × Unit)) × Unit))) × (List ((Int × (Int × Unit)) × ((Int × (Int × Unit)) × Unit))) × (List ((Int × (Int × Unit)) × ((Int × (Int × Unit)) × Unit))) × Int × Unit))) => some (ctlVal spec_l05Fails_l1_s r)
  simp only [spec_l05Fails_l1, kb_ite, kb_some, kb_none, kb_bind, kb_alt]
  kernel_rfl
theorem spec_l05Fails_l2_r : RoundIs (mkCtx Go.K.Link.seat spec_l05Fails_c spec_l05Fails_tab) (sums spec_l05Fails_ls) 4 (bodyAt (loopsOf 0 spec_l05Fails_code) 2) spec_l05Fails_l2_s := by
  rintro ⟨images, ⟨majors, ⟨length, ⟨i, _⟩⟩⟩⟩
  show _ = (spec_l05Fails_l2 (images, (majors, (length, (i, ()))))).bind fun r : (Ctl ((List ((Int × (Int × Unit)) × ((Int × (Int × Unit)) × Unit))) × (List ((Int × (Int × Unit)) × ((Int × (Int × Unit)) × Unit))) × ((Int × (Int × Unit))) × Int × Unit) ((Int × Bool × Unit) ⊕ ((List ((Int × (Int × Unit)) × ((Int × (Int × Unit)) × Unit))) × (List ((Int × (Int × Unit)) × ((Int × (Int × Unit)) × Unit))) × Unit))) => some (ctlVal spec_l05Fails_l2_s r)
  simp only [spec_l05Fails_l2, kb_ite, kb_some, kb_none, kb_bind, kb_alt]
  kernel_rfl
theorem spec_l05Fails_l3_r : RoundIs (mkCtx Go.K.Link.seat spec_l05Fails_c spec_l05Fails_tab) (sums spec_l05Fails_ls) 6 (bodyAt (loopsOf 0 spec_l05Fails_code) 3) spec_l05Fails_l3_s := by
  rintro ⟨images, ⟨majors, ⟨i, _⟩⟩⟩
  show _ = (spec_l05Fails_l3 (images, (majors, (i, ())))).bind fun r : (Ctl ((List ((Int × (Int × Unit)) × ((Int × (Int × Unit)) × Unit))) × (List ((Int × (Int × Unit)) × ((Int × (Int × Unit)) × Unit))) × Int × Unit) ((Int × Bool × Unit) ⊕ (Unit))) => some (ctlVal spec_l05Fails_l3_s r)
  simp only [spec_l05Fails_l3, kb_ite, kb_some, kb_none, kb_bind, kb_alt]
  kernel_rfl
theorem spec_l05Fails_rs : RoundsOK (mkCtx Go.K.Link.seat spec_l05Fails_c spec_l05Fails_tab) (sums spec_l05Fails_ls) (loopsOf 0 spec_l05Fails_code) spec_l05Fails_ls := ⟨⟨rfl, rfl, spec_l05Fails_l0_r⟩, ⟨⟨rfl, rfl, spec_l05Fails_l1_r⟩, ⟨⟨rfl, rfl, spec_l05Fails_l2_r⟩, ⟨⟨rfl, rfl, spec_l05Fails_l3_r⟩, trivial⟩⟩⟩⟩
theorem spec_l05Fails_e : ∀ v, (evFn (mkCtx Go.K.Link.seat spec_l05Fails_c spec_l05Fails_tab) (sums spec_l05Fails_ls) 43 Go.Proofs.Try.f43 (encL spec_l05Fails_s.a v)).run = (spec_l05Fails_s.gen v).bind fun y => some (spec_l05Fails_s.out y) := by
  rintro ⟨m, _⟩
  show _ = (spec_l05Fails m).bind fun y : Int × Bool => some (spec_l05Fails_s.out y)
  simp only [spec_l05Fails, kb_ite, kb_some, kb_none, kb_bind, kb_alt]
  kernel_rfl
theorem spec_l05Fails_is : FnIs Go.Proofs.Try.prog 43 (modeOf []) (phi [spec_l05Fails_s]) := spec_is (c := spec_l05Fails_c) seatOK spec_l05Fails_t Go.Proofs.Try.func43 rfl (code := spec_l05Fails_code) rfl rfl spec_l05Fails_rs spec_l05Fails_e
noncomputable def spec_l05Minor_s : Spec := ⟨[.v (.pair (.pair (.int .i64) (.pair (.int .i64) (.unit))) (.pair (.pair (.int .i64) (.pair (.int .i64) (.unit))) (.unit))) .fr], (List ((Int × (Int × Unit)) × ((Int × (Int × Unit)) × Unit))) × Int, fun v => spec_l05Minor v.1, fun r => ([.v (.sl 31 (.pair (.pair (.int .i64) (.pair (.int .i64) (.unit))) (.pair (.pair (.int .i64) (.pair (.int .i64) (.unit))) (.unit)))) (.own .fr) r.1, .v (.int .i64) .fr r.2], [])⟩
noncomputable def spec_l05Minor_ls : List LSum := []
noncomputable def spec_l05Minor_tab : List Row := [⟨43, [], [spec_l05Fails_s]⟩, ⟨44, [], [spec_l05Majors_s]⟩]
theorem spec_l05Minor_t : ∀ r, r ∈ spec_l05Minor_tab → RowIs Go.Proofs.Try.prog r := tab_cons (spec_l05Fails_is) (tab_cons (spec_l05Majors_is) (tab_nil))
theorem spec_l05Minor_rs : RoundsOK (mkCtx Go.K.Link.seat spec_l05Minor_c spec_l05Minor_tab) (sums spec_l05Minor_ls) (loopsOf 0 spec_l05Minor_code) spec_l05Minor_ls := trivial
theorem spec_l05Minor_e : ∀ v, (evFn (mkCtx Go.K.Link.seat spec_l05Minor_c spec_l05Minor_tab) (sums spec_l05Minor_ls) 26 Go.Proofs.Try.f26 (encL spec_l05Minor_s.a v)).run = (spec_l05Minor_s.gen v).bind fun y => some (spec_l05Minor_s.out y) := by
  rintro ⟨m, _⟩
  show _ = (spec_l05Minor m).bind fun y : (List ((Int × (Int × Unit)) × ((Int × (Int × Unit)) × Unit))) × Int => some (spec_l05Minor_s.out y)
  simp only [spec_l05Minor, kb_ite, kb_some, kb_none, kb_bind, kb_alt]
  kernel_rfl
theorem spec_l05Minor_is : FnIs Go.Proofs.Try.prog 26 (modeOf []) (phi [spec_l05Minor_s]) := spec_is (c := spec_l05Minor_c) seatOK spec_l05Minor_t Go.Proofs.Try.func26 rfl (code := spec_l05Minor_code) rfl rfl spec_l05Minor_rs spec_l05Minor_e
noncomputable def spec_l03Insert_code : Code := (Go.Proofs.Try.f28.body).getD .skip
def spec_l03Insert_c : Cfg := ⟨28, [.own], [[0, 3, 5, 33, 46], [0, 3, 5, 33, 46], [0, 4, 33, 46]], [], [], []⟩
noncomputable def spec_l03Insert_l0_s : LSum := ⟨0, ⟨[(0, .val (.sl 31 (.pair (.pair (.int .i64) (.pair (.int .i64) (.unit))) (.pair (.pair (.int .i64) (.pair (.int .i64) (.unit))) (.unit)))) (.own .fr)), (2, .val (.ptr (.pair (.pair (.int .i64) (.pair (.int .i64) (.unit))) (.pair (.pair (.int .i64) (.pair (.int .i64) (.unit))) (.unit)))) (.own .fr)), (1, .val (.int .i64) .fr)], 41⟩, (.exit 0, ⟨[(0, .val (.sl 31 (.pair (.pair (.int .i64) (.pair (.int .i64) (.unit))) (.pair (.pair (.int .i64) (.pair (.int .i64) (.unit))) (.unit)))) (.own .fr)), (2, .val (.ptr (.pair (.pair (.int .i64) (.pair (.int .i64) (.unit))) (.pair (.pair (.int .i64) (.pair (.int .i64) (.unit))) (.unit)))) (.own .fr)), (1, .val (.int .i64) .fr)], 41⟩), [], spec_l03Insert_l0⟩
noncomputable def spec_l03Insert_s : Spec := ⟨[.v (.sl 31 (.pair (.pair (.int .i64) (.pair (.int .i64) (.unit))) (.pair (.pair (.int .i64) (.pair (.int .i64) (.unit))) (.unit)))) (.own .fr), .v (.pair (.pair (.int .i64) (.pair (.int .i64) (.unit))) (.pair (.pair (.int .i64) (.pair (.int .i64) (.unit))) (.unit))) .fr], (List ((Int × (Int × Unit)) × ((Int × (Int × Unit)) × Unit))), fun v => spec_l03Insert v.1 v.2.1, fun r => ([.v (.sl 31 (.pair (.pair (.int .i64) (.pair (.int .i64) (.unit))) (.pair (.pair (.int .i64) (.pair (.int .i64) (.unit))) (.unit)))) (.own .fr) r], [])⟩
noncomputable def spec_l03Insert_ls : List LSum := [spec_l03Insert_l0_s]
noncomputable def spec_l03Insert_tab : List Row := [⟨47, [], [spec_l03Less_s]⟩]
theorem spec_l03Insert_t : ∀ r, r ∈ spec_l03Insert_tab → RowIs Go.Proofs.Try.prog r := tab_cons (spec_l03Less_is) (tab_nil)
theorem spec_l03Insert_l0_r : RoundIs (mkCtx Go.K.Link.seat spec_l03Insert_c spec_l03Insert_tab) (sums spec_l03Insert_ls) 0 (bodyAt (loopsOf 0 spec_l03Insert_code) 0) spec_l03Insert_l0_s := by
  rintro ⟨list, ⟨l, ⟨at', _⟩⟩⟩
  show _ = (spec_l03Insert_l0 (list, (l, (at', ())))).bind fun r : (Ctl ((List ((Int × (Int × Unit)) × ((Int × (Int × Unit)) × Unit))) × (((Int × (Int × Unit)) × ((Int × (Int × Unit)) × Unit))) × Int × Unit) (((List ((Int × (Int × Unit)) × ((Int × (Int × Unit)) × Unit))) × (((Int × (Int × Unit)) × ((Int × (Int × Unit)) × Unit))) × Int × Unit))) => some (ctlVal spec_l03Insert_l0_s r)
  simp only [spec_l03Insert_l0, kb_ite, kb_some, kb_none, kb_bind, kb_alt]
  kernel_rfl
theorem spec_l03Insert_rs : RoundsOK (mkCtx Go.K.Link.seat spec_l03Insert_c spec_l03Insert_tab) (sums spec_l03Insert_ls) (loopsOf 0 spec_l03Insert_code) spec_l03Insert_ls := ⟨⟨rfl, rfl, spec_l03Insert_l0_r⟩, trivial⟩
theorem spec_l03Insert_e : ∀ v, (evFn (mkCtx Go.K.Link.seat spec_l03Insert_c spec_l03Insert_tab) (sums spec_l03Insert_ls) 28 Go.Proofs.Try.f28 (encL spec_l03Insert_s.a v)).run = (spec_l03Insert_s.gen v).bind fun y => some (spec_l03Insert_s.out y) := by
  rintro ⟨list, ⟨l, _⟩⟩
  show _ = (spec_l03Insert list l).bind fun y : (List ((Int × (Int × Unit)) × ((Int × (Int × Unit)) × Unit))) => some (spec_l03Insert_s.out y)
  simp only [spec_l03Insert, kb_ite, kb_some, kb_none, kb_bind, kb_alt]
  kernel_rfl
theorem spec_l03Insert_is : FnIs Go.Proofs.Try.prog 28 (modeOf [.own]) (phi [spec_l03Insert_s]) := spec_is (c := spec_l03Insert_c) seatOK spec_l03Insert_t Go.Proofs.Try.func28 rfl (code := spec_l03Insert_code) rfl rfl spec_l03Insert_rs spec_l03Insert_e
noncomputable def spec_l05Free_code : Code := (Go.Proofs.Try.f76.body).getD .skip
def spec_l05Free_c : Cfg := ⟨76, [], [[0, 1, 5], [], [4], [], [], [], [0, 1, 5, 6], [0, 1, 5], [4]], [], [], []⟩
noncomputable def spec_l05Free_l1_s : LSum := ⟨2, ⟨[(0, .val (.sl 31 (.pair (.pair (.int .i64) (.pair (.int .i64) (.unit))) (.pair (.pair (.int .i64) (.pair (.int .i64) (.unit))) (.unit)))) .fr), (0, .val (.sl 31 (.pair (.pair (.int .i64) (.pair (.int .i64) (.unit))) (.pair (.pair (.int .i64) (.pair (.int .i64) (.unit))) (.unit)))) .fr), (3, .val (.int .i64) .fr), (0, .val (.int .i64) .fr)], 17⟩, (.ret, ⟨[(4, .val (.bool) .fr)], 19⟩), [(.exit 2, ⟨[(0, .val (.sl 31 (.pair (.pair (.int .i64) (.pair (.int .i64) (.unit))) (.pair (.pair (.int .i64) (.pair (.int .i64) (.unit))) (.unit)))) .fr), (0, .val (.sl 31 (.pair (.pair (.int .i64) (.pair (.int .i64) (.unit))) (.pair (.pair (.int .i64) (.pair (.int .i64) (.unit))) (.unit)))) .fr), (3, .val (.int .i64) .fr)], 18⟩)], spec_l05Free_l1⟩
noncomputable def spec_l05Free_l0_s : LSum := ⟨0, ⟨[(0, .val (.sl 31 (.pair (.pair (.int .i64) (.pair (.int .i64) (.unit))) (.pair (.pair (.int .i64) (.pair (.int .i64) (.unit))) (.unit)))) .fr), (0, .val (.sl 31 (.pair (.pair (.int .i64) (.pair (.int .i64) (.unit))) (.pair (.pair (.int .i64) (.pair (.int .i64) (.unit))) (.unit)))) .fr), (3, .val (.int .i64) .fr)], 18⟩, (.ret, ⟨[(4, .val (.bool) .fr)], 19⟩), [(.exit 0, ⟨[], 24⟩)], spec_l05Free_l0⟩
noncomputable def spec_l05Free_s : Spec := ⟨[.v (.sl 31 (.pair (.pair (.int .i64) (.pair (.int .i64) (.unit))) (.pair (.pair (.int .i64) (.pair (.int .i64) (.unit))) (.unit)))) .fr, .v (.sl 31 (.pair (.pair (.int .i64) (.pair (.int .i64) (.unit))) (.pair (.pair (.int .i64) (.pair (.int .i64) (.unit))) (.unit)))) .fr], Bool, fun v => spec_l05Free v.1 v.2.1, fun r => ([.v (.bool) .fr r], [])⟩
noncomputable def spec_l05Free_ls : List LSum := [spec_l05Free_l0_s, spec_l05Free_l1_s]
noncomputable def spec_l05Free_tab : List Row := [⟨69, [], [spec_l03Cross_s]⟩]
theorem spec_l05Free_t : ∀ r, r ∈ spec_l05Free_tab → RowIs Go.Proofs.Try.prog r := tab_cons (spec_l03Cross_is) (tab_nil)
theorem spec_l05Free_l0_r : RoundIs (mkCtx Go.K.Link.seat spec_l05Free_c spec_l05Free_tab) (sums spec_l05Free_ls) 0 (bodyAt (loopsOf 0 spec_l05Free_code) 0) spec_l05Free_l0_s := by
  rintro ⟨list, ⟨majors, ⟨i, _⟩⟩⟩
  show _ = (spec_l05Free_l0 (list, (majors, (i, ())))).bind fun r : (Ctl ((List ((Int × (Int × Unit)) × ((Int × (Int × Unit)) × Unit))) × (List ((Int × (Int × Unit)) × ((Int × (Int × Unit)) × Unit))) × Int × Unit) ((Bool × Unit) ⊕ (Unit))) => some (ctlVal spec_l05Free_l0_s r)
  simp only [spec_l05Free_l0, kb_ite, kb_some, kb_none, kb_bind, kb_alt]
  kernel_rfl
theorem spec_l05Free_l1_r : RoundIs (mkCtx Go.K.Link.seat spec_l05Free_c spec_l05Free_tab) (sums spec_l05Free_ls) 2 (bodyAt (loopsOf 0 spec_l05Free_code) 1) spec_l05Free_l1_s := by
  rintro ⟨list, ⟨majors, ⟨i, ⟨k, _⟩⟩⟩⟩
  show _ = (spec_l05Free_l1 (list, (majors, (i, (k, ()))))).bind fun r : (Ctl ((List ((Int × (Int × Unit)) × ((Int × (Int × Unit)) × Unit))) × (List ((Int × (Int × Unit)) × ((Int × (Int × Unit)) × Unit))) × Int × Int × Unit) ((Bool × Unit) ⊕ ((List ((Int × (Int × Unit)) × ((Int × (Int × Unit)) × Unit))) × (List ((Int × (Int × Unit)) × ((Int × (Int × Unit)) × Unit))) × Int × Unit))) => some (ctlVal spec_l05Free_l1_s r)
  simp only [spec_l05Free_l1, kb_ite, kb_some, kb_none, kb_bind, kb_alt]
  kernel_rfl
theorem spec_l05Free_rs : RoundsOK (mkCtx Go.K.Link.seat spec_l05Free_c spec_l05Free_tab) (sums spec_l05Free_ls) (loopsOf 0 spec_l05Free_code) spec_l05Free_ls := ⟨⟨rfl, rfl, spec_l05Free_l0_r⟩, ⟨⟨rfl, rfl, spec_l05Free_l1_r⟩, trivial⟩⟩
theorem spec_l05Free_e : ∀ v, (evFn (mkCtx Go.K.Link.seat spec_l05Free_c spec_l05Free_tab) (sums spec_l05Free_ls) 76 Go.Proofs.Try.f76 (encL spec_l05Free_s.a v)).run = (spec_l05Free_s.gen v).bind fun y => some (spec_l05Free_s.out y) := by
  rintro ⟨list, ⟨majors, _⟩⟩
  show _ = (spec_l05Free list majors).bind fun y : Bool => some (spec_l05Free_s.out y)
  simp only [spec_l05Free, kb_ite, kb_some, kb_none, kb_bind, kb_alt]
  kernel_rfl
theorem spec_l05Free_is : FnIs Go.Proofs.Try.prog 76 (modeOf []) (phi [spec_l05Free_s]) := spec_is (c := spec_l05Free_c) seatOK spec_l05Free_t Go.Proofs.Try.func76 rfl (code := spec_l05Free_code) rfl rfl spec_l05Free_rs spec_l05Free_e
noncomputable def spec_l05Less_code : Code := (Go.Proofs.Try.f77.body).getD .skip
def spec_l05Less_c : Cfg := ⟨77, [], [], [], [], []⟩
noncomputable def spec_l05Less_s : Spec := ⟨[.v (.sl 31 (.pair (.pair (.int .i64) (.pair (.int .i64) (.unit))) (.pair (.pair (.int .i64) (.pair (.int .i64) (.unit))) (.unit)))) .fr, .v (.sl 31 (.pair (.pair (.int .i64) (.pair (.int .i64) (.unit))) (.pair (.pair (.int .i64) (.pair (.int .i64) (.unit))) (.unit)))) .fr], Bool, fun v => spec_l05Less v.1 v.2.1, fun r => ([.v (.bool) .fr r], [])⟩
noncomputable def spec_l05Less_ls : List LSum := []
noncomputable def spec_l05Less_tab : List Row := [⟨70, [], [spec_l01Distance_s]⟩, ⟨25, [], [spec_l01Less_s]⟩]
theorem spec_l05Less_t : ∀ r, r ∈ spec_l05Less_tab → RowIs Go.Proofs.Try.prog r := tab_cons (spec_l01Distance_is) (tab_cons (spec_l01Less_is) (tab_nil))
theorem spec_l05Less_rs : RoundsOK (mkCtx Go.K.Link.seat spec_l05Less_c spec_l05Less_tab) (sums spec_l05Less_ls) (loopsOf 0 spec_l05Less_code) spec_l05Less_ls := trivial
theorem spec_l05Less_e : ∀ v, (evFn (mkCtx Go.K.Link.seat spec_l05Less_c spec_l05Less_tab) (sums spec_l05Less_ls) 77 Go.Proofs.Try.f77 (encL spec_l05Less_s.a v)).run = (spec_l05Less_s.gen v).bind fun y => some (spec_l05Less_s.out y) := by
  rintro ⟨one, ⟨two, _⟩⟩
  show _ = (spec_l05Less one two).bind fun y : Bool => some (spec_l05Less_s.out y)
  simp only [spec_l05Less, kb_ite, kb_some, kb_none, kb_bind, kb_alt]
  kernel_rfl
theorem spec_l05Less_is : FnIs Go.Proofs.Try.prog 77 (modeOf []) (phi [spec_l05Less_s]) := spec_is (c := spec_l05Less_c) seatOK spec_l05Less_t Go.Proofs.Try.func77 rfl (code := spec_l05Less_code) rfl rfl spec_l05Less_rs spec_l05Less_e
noncomputable def spec_l05Back_v2_code : Code := (Go.Proofs.Try.f48.body).getD .skip
def spec_l05Back_v2_c : Cfg := ⟨48, [], [], [], [0], []⟩
noncomputable def spec_l05Back_v2_s : Spec := ⟨[.v (.pair (.pair (.int .i64) (.pair (.int .i64) (.unit))) (.pair (.pair (.int .i64) (.pair (.int .i64) (.unit))) (.unit))) .fr, .v (.pair (.pair (.int .i64) (.pair (.int .i64) (.unit))) (.pair (.pair (.int .i64) (.pair (.int .i64) (.unit))) (.unit))) .fr, .v (.sl 31 (.pair (.pair (.int .i64) (.pair (.int .i64) (.unit))) (.pair (.pair (.int .i64) (.pair (.int .i64) (.unit))) (.unit)))) .fr], (List ((Int × (Int × Unit)) × ((Int × (Int × Unit)) × Unit))) × Int, fun v => spec_l05Back_v2 v.1 v.2.1 v.2.2.1, fun r => ([.v (.sl 31 (.pair (.pair (.int .i64) (.pair (.int .i64) (.unit))) (.pair (.pair (.int .i64) (.pair (.int .i64) (.unit))) (.unit)))) .fr r.1, .v (.int .i64) .fr r.2], [])⟩
noncomputable def spec_l05Back_v2_ls : List LSum := []
noncomputable def spec_l05Back_v2_tab : List Row := [⟨72, [], [spec_l01Halves_s]⟩, ⟨73, [], [spec_l05Pair_s]⟩, ⟨74, [], [spec_l03Of_s]⟩, ⟨76, [], [spec_l05Free_s]⟩, ⟨77, [], [spec_l05Less_s]⟩]
theorem spec_l05Back_v2_t : ∀ r, r ∈ spec_l05Back_v2_tab → RowIs Go.Proofs.Try.prog r := tab_cons (spec_l01Halves_is) (tab_cons (spec_l05Pair_is) (tab_cons (spec_l03Of_is) (tab_cons (spec_l05Free_is) (tab_cons (spec_l05Less_is) (tab_nil)))))
theorem spec_l05Back_v2_rs : RoundsOK (mkCtx Go.K.Link.seat spec_l05Back_v2_c spec_l05Back_v2_tab) (sums spec_l05Back_v2_ls) (loopsOf 0 spec_l05Back_v2_code) spec_l05Back_v2_ls := trivial
theorem spec_l05Back_v2_e : ∀ v, (evFn (mkCtx Go.K.Link.seat spec_l05Back_v2_c spec_l05Back_v2_tab) (sums spec_l05Back_v2_ls) 48 Go.Proofs.Try.f48 (encL spec_l05Back_v2_s.a v)).run = (spec_l05Back_v2_s.gen v).bind fun y => some (spec_l05Back_v2_s.out y) := by
  rintro ⟨l, ⟨m, ⟨majors, _⟩⟩⟩
  show _ = (spec_l05Back_v2 l m majors).bind fun y : (List ((Int × (Int × Unit)) × ((Int × (Int × Unit)) × Unit))) × Int => some (spec_l05Back_v2_s.out y)
  simp only [spec_l05Back_v2, kb_ite, kb_some, kb_none, kb_bind, kb_alt]
  kernel_rfl
theorem spec_l05Back_v2_is : FnIs Go.Proofs.Try.prog 48 (modeOf []) (phi [spec_l05Back_v2_s]) := spec_is (c := spec_l05Back_v2_c) seatOK spec_l05Back_v2_t Go.Proofs.Try.func48 rfl (code := spec_l05Back_v2_code) rfl rfl spec_l05Back_v2_rs spec_l05Back_v2_e
noncomputable def spec_l05Put_code : Code := (Go.Proofs.Try.f49.body).getD .skip
def spec_l05Put_c : Cfg := ⟨49, [.own], [[0, 3, 5, 18, 21], [0, 3, 18], [0, 4, 18, 21]], [], [], []⟩
noncomputable def spec_l05Put_l0_s : LSum := ⟨0, ⟨[(0, .val (.sl 31 (.pair (.pair (.int .i64) (.pair (.int .i64) (.unit))) (.pair (.pair (.int .i64) (.pair (.int .i64) (.unit))) (.unit)))) .fr), (2, .val (.ptr (.pair (.pair (.int .i64) (.pair (.int .i64) (.unit))) (.pair (.pair (.int .i64) (.pair (.int .i64) (.unit))) (.unit)))) (.own .fr)), (1, .val (.int .i64) .fr)], 16⟩, (.ret, ⟨[(0, .val (.sl 31 (.pair (.pair (.int .i64) (.pair (.int .i64) (.unit))) (.pair (.pair (.int .i64) (.pair (.int .i64) (.unit))) (.unit)))) .fr), (3, .val (.sl 31 (.pair (.pair (.int .i64) (.pair (.int .i64) (.unit))) (.pair (.pair (.int .i64) (.pair (.int .i64) (.unit))) (.unit)))) .fr), (13, .val (.sl 31 (.pair (.pair (.int .i64) (.pair (.int .i64) (.unit))) (.pair (.pair (.int .i64) (.pair (.int .i64) (.unit))) (.unit)))) .fr)], 3⟩), [(.exit 0, ⟨[(0, .val (.sl 31 (.pair (.pair (.int .i64) (.pair (.int .i64) (.unit))) (.pair (.pair (.int .i64) (.pair (.int .i64) (.unit))) (.unit)))) .fr), (2, .val (.ptr (.pair (.pair (.int .i64) (.pair (.int .i64) (.unit))) (.pair (.pair (.int .i64) (.pair (.int .i64) (.unit))) (.unit)))) (.own .fr))], 18⟩)], spec_l05Put_l0⟩
noncomputable def spec_l03Insert_v3_code : Code := (Go.Proofs.Try.f28.body).getD .skip
def spec_l03Insert_v3_c : Cfg := ⟨28, [.own], [[0, 3, 5, 33, 46], [0, 3, 5, 33, 46], [0, 4, 33, 46]], [], [0], []⟩
noncomputable def spec_l03Insert_v3_l0_s : LSum := ⟨0, ⟨[(0, .val (.sl 31 (.pair (.pair (.int .i64) (.pair (.int .i64) (.unit))) (.pair (.pair (.int .i64) (.pair (.int .i64) (.unit))) (.unit)))) .fr), (2, .val (.ptr (.pair (.pair (.int .i64) (.pair (.int .i64) (.unit))) (.pair (.pair (.int .i64) (.pair (.int .i64) (.unit))) (.unit)))) (.own .fr)), (1, .val (.int .i64) .fr)], 41⟩, (.exit 0, ⟨[(0, .val (.sl 31 (.pair (.pair (.int .i64) (.pair (.int .i64) (.unit))) (.pair (.pair (.int .i64) (.pair (.int .i64) (.unit))) (.unit)))) .fr), (2, .val (.ptr (.pair (.pair (.int .i64) (.pair (.int .i64) (.unit))) (.pair (.pair (.int .i64) (.pair (.int .i64) (.unit))) (.unit)))) (.own .fr)), (1, .val (.int .i64) .fr)], 41⟩), [], spec_l03Insert_v3_l0⟩
noncomputable def spec_l03Insert_v3_s : Spec := ⟨[.v (.sl 31 (.pair (.pair (.int .i64) (.pair (.int .i64) (.unit))) (.pair (.pair (.int .i64) (.pair (.int .i64) (.unit))) (.unit)))) .fr, .v (.pair (.pair (.int .i64) (.pair (.int .i64) (.unit))) (.pair (.pair (.int .i64) (.pair (.int .i64) (.unit))) (.unit))) .fr], (List ((Int × (Int × Unit)) × ((Int × (Int × Unit)) × Unit))), fun v => spec_l03Insert_v3 v.1 v.2.1, fun r => ([.v (.sl 31 (.pair (.pair (.int .i64) (.pair (.int .i64) (.unit))) (.pair (.pair (.int .i64) (.pair (.int .i64) (.unit))) (.unit)))) .fr r], [])⟩
noncomputable def spec_l03Insert_v3_ls : List LSum := [spec_l03Insert_v3_l0_s]
noncomputable def spec_l03Insert_v3_tab : List Row := [⟨47, [], [spec_l03Less_s]⟩]
theorem spec_l03Insert_v3_t : ∀ r, r ∈ spec_l03Insert_v3_tab → RowIs Go.Proofs.Try.prog r := tab_cons (spec_l03Less_is) (tab_nil)
theorem spec_l03Insert_v3_l0_r : RoundIs (mkCtx Go.K.Link.seat spec_l03Insert_v3_c spec_l03Insert_v3_tab) (sums spec_l03Insert_v3_ls) 0 (bodyAt (loopsOf 0 spec_l03Insert_v3_code) 0) spec_l03Insert_v3_l0_s := by
  rintro ⟨list, ⟨l, ⟨at', _⟩⟩⟩
  show _ = (spec_l03Insert_v3_l0 (list, (l, (at', ())))).bind fun r : (Ctl ((List ((Int × (Int × Unit)) × ((Int × (Int × Unit)) × Unit))) × (((Int × (Int × Unit)) × ((Int × (Int × Unit)) × Unit))) × Int × Unit) (((List ((Int × (Int × Unit)) × ((Int × (Int × Unit)) × Unit))) × (((Int × (Int × Unit)) × ((Int × (Int × Unit)) × Unit))) × Int × Unit))) => some (ctlVal spec_l03Insert_v3_l0_s r)
  simp only [spec_l03Insert_v3_l0, kb_ite, kb_some, kb_none, kb_bind, kb_alt]
  kernel_rfl
theorem spec_l03Insert_v3_rs : RoundsOK (mkCtx Go.K.Link.seat spec_l03Insert_v3_c spec_l03Insert_v3_tab) (sums spec_l03Insert_v3_ls) (loopsOf 0 spec_l03Insert_v3_code) spec_l03Insert_v3_ls := ⟨⟨rfl, rfl, spec_l03Insert_v3_l0_r⟩, trivial⟩
theorem spec_l03Insert_v3_e : ∀ v, (evFn (mkCtx Go.K.Link.seat spec_l03Insert_v3_c spec_l03Insert_v3_tab) (sums spec_l03Insert_v3_ls) 28 Go.Proofs.Try.f28 (encL spec_l03Insert_v3_s.a v)).run = (spec_l03Insert_v3_s.gen v).bind fun y => some (spec_l03Insert_v3_s.out y) := by
  rintro ⟨list, ⟨l, _⟩⟩
  show _ = (spec_l03Insert_v3 list l).bind fun y : (List ((Int × (Int × Unit)) × ((Int × (Int × Unit)) × Unit))) => some (spec_l03Insert_v3_s.out y)
  simp only [spec_l03Insert_v3, kb_ite, kb_some, kb_none, kb_bind, kb_alt]
  kernel_rfl
theorem spec_l03Insert_v3_is : FnIs Go.Proofs.Try.prog 28 (modeOf [.own]) (phi [spec_l03Insert_v3_s]) := spec_is (c := spec_l03Insert_v3_c) seatOK spec_l03Insert_v3_t Go.Proofs.Try.func28 rfl (code := spec_l03Insert_v3_code) rfl rfl spec_l03Insert_v3_rs spec_l03Insert_v3_e
noncomputable def spec_l05Put_s : Spec := ⟨[.v (.sl 31 (.pair (.pair (.int .i64) (.pair (.int .i64) (.unit))) (.pair (.pair (.int .i64) (.pair (.int .i64) (.unit))) (.unit)))) .fr, .v (.pair (.pair (.int .i64) (.pair (.int .i64) (.unit))) (.pair (.pair (.int .i64) (.pair (.int .i64) (.unit))) (.unit))) .fr], (List ((Int × (Int × Unit)) × ((Int × (Int × Unit)) × Unit))), fun v => spec_l05Put v.1 v.2.1, fun r => ([.v (.sl 31 (.pair (.pair (.int .i64) (.pair (.int .i64) (.unit))) (.pair (.pair (.int .i64) (.pair (.int .i64) (.unit))) (.unit)))) .fr r], [])⟩
noncomputable def spec_l05Put_ls : List LSum := [spec_l05Put_l0_s]
noncomputable def spec_l05Put_tab : List Row := [⟨69, [], [spec_l03Cross_s]⟩, ⟨28, [.own], [spec_l03Insert_v3_s]⟩]
theorem spec_l05Put_t : ∀ r, r ∈ spec_l05Put_tab → RowIs Go.Proofs.Try.prog r := tab_cons (spec_l03Cross_is) (tab_cons (spec_l03Insert_v3_is) (tab_nil))
theorem spec_l05Put_l0_r : RoundIs (mkCtx Go.K.Link.seat spec_l05Put_c spec_l05Put_tab) (sums spec_l05Put_ls) 0 (bodyAt (loopsOf 0 spec_l05Put_code) 0) spec_l05Put_l0_s := by
  rintro ⟨list, ⟨l, ⟨i, _⟩⟩⟩
  show _ = (spec_l05Put_l0 (list, (l, (i, ())))).bind fun r : (Ctl ((List ((Int × (Int × Unit)) × ((Int × (Int × Unit)) × Unit))) × (((Int × (Int × Unit)) × ((Int × (Int × Unit)) × Unit))) × Int × Unit) (((List ((Int × (Int × Unit)) × ((Int × (Int × Unit)) × Unit))) × (List ((Int × (Int × Unit)) × ((Int × (Int × Unit)) × Unit))) × (List ((Int × (Int × Unit)) × ((Int × (Int × Unit)) × Unit))) × Unit) ⊕ ((List ((Int × (Int × Unit)) × ((Int × (Int × Unit)) × Unit))) × (((Int × (Int × Unit)) × ((Int × (Int × Unit)) × Unit))) × Unit))) => some (ctlVal spec_l05Put_l0_s r)
  simp only [spec_l05Put_l0, kb_ite, kb_some, kb_none, kb_bind, kb_alt]
  kernel_rfl
theorem spec_l05Put_rs : RoundsOK (mkCtx Go.K.Link.seat spec_l05Put_c spec_l05Put_tab) (sums spec_l05Put_ls) (loopsOf 0 spec_l05Put_code) spec_l05Put_ls := ⟨⟨rfl, rfl, spec_l05Put_l0_r⟩, trivial⟩
theorem spec_l05Put_e : ∀ v, (evFn (mkCtx Go.K.Link.seat spec_l05Put_c spec_l05Put_tab) (sums spec_l05Put_ls) 49 Go.Proofs.Try.f49 (encL spec_l05Put_s.a v)).run = (spec_l05Put_s.gen v).bind fun y => some (spec_l05Put_s.out y) := by
  rintro ⟨list, ⟨l, _⟩⟩
  show _ = (spec_l05Put list l).bind fun y : (List ((Int × (Int × Unit)) × ((Int × (Int × Unit)) × Unit))) => some (spec_l05Put_s.out y)
  simp only [spec_l05Put, kb_ite, kb_some, kb_none, kb_bind, kb_alt]
  kernel_rfl
theorem spec_l05Put_is : FnIs Go.Proofs.Try.prog 49 (modeOf [.own]) (phi [spec_l05Put_s]) := spec_is (c := spec_l05Put_c) seatOK spec_l05Put_t Go.Proofs.Try.func49 rfl (code := spec_l05Put_code) rfl rfl spec_l05Put_rs spec_l05Put_e
noncomputable def spec_l05Deepen_v3_code : Code := (Go.Proofs.Try.f29.body).getD .skip
def spec_l05Deepen_v3_c : Cfg := ⟨29, [], [[0, 2, 4, 8, 9, 12, 44], [0, 8, 12, 40], [0, 6, 7, 8, 12, 40, 44]], [], [0], []⟩
noncomputable def spec_l05Deepen_v3_l0_s : LSum := ⟨0, ⟨[(0, .val (.sl 31 (.pair (.pair (.int .i64) (.pair (.int .i64) (.unit))) (.pair (.pair (.int .i64) (.pair (.int .i64) (.unit))) (.unit)))) .fr), (1, .val (.sl 31 (.pair (.pair (.int .i64) (.pair (.int .i64) (.unit))) (.pair (.pair (.int .i64) (.pair (.int .i64) (.unit))) (.unit)))) .fr), (1, .val (.ptr (.pair (.pair (.int .i64) (.pair (.int .i64) (.unit))) (.pair (.pair (.int .i64) (.pair (.int .i64) (.unit))) (.unit)))) (.own .fr)), (3, .val (.sl 31 (.pair (.pair (.int .i64) (.pair (.int .i64) (.unit))) (.pair (.pair (.int .i64) (.pair (.int .i64) (.unit))) (.unit)))) .fr), (0, .val (.int .i64) .fr), (2, .val (.sl 31 (.pair (.pair (.int .i64) (.pair (.int .i64) (.unit))) (.pair (.pair (.int .i64) (.pair (.int .i64) (.unit))) (.unit)))) .fr)], 32⟩, (.ret, ⟨[(0, .val (.sl 31 (.pair (.pair (.int .i64) (.pair (.int .i64) (.unit))) (.pair (.pair (.int .i64) (.pair (.int .i64) (.unit))) (.unit)))) .fr), (5, .val (.sl 31 (.pair (.pair (.int .i64) (.pair (.int .i64) (.unit))) (.pair (.pair (.int .i64) (.pair (.int .i64) (.unit))) (.unit)))) (.own .fr)), (0, .val (.int .i64) .fr), (0, .val (.sl 31 (.pair (.pair (.int .i64) (.pair (.int .i64) (.unit))) (.pair (.pair (.int .i64) (.pair (.int .i64) (.unit))) (.unit)))) .fr), (3, .val (.sl 31 (.pair (.pair (.int .i64) (.pair (.int .i64) (.unit))) (.pair (.pair (.int .i64) (.pair (.int .i64) (.unit))) (.unit)))) .fr)], 32⟩), [(.ret, ⟨[(0, .val (.sl 31 (.pair (.pair (.int .i64) (.pair (.int .i64) (.unit))) (.pair (.pair (.int .i64) (.pair (.int .i64) (.unit))) (.unit)))) .fr), (5, .val (.sl 31 (.pair (.pair (.int .i64) (.pair (.int .i64) (.unit))) (.pair (.pair (.int .i64) (.pair (.int .i64) (.unit))) (.unit)))) (.own .fr)), (0, .val (.int .i64) .fr), (0, .val (.sl 31 (.pair (.pair (.int .i64) (.pair (.int .i64) (.unit))) (.pair (.pair (.int .i64) (.pair (.int .i64) (.unit))) (.unit)))) .fr), (3, .val (.sl 31 (.pair (.pair (.int .i64) (.pair (.int .i64) (.unit))) (.pair (.pair (.int .i64) (.pair (.int .i64) (.unit))) (.unit)))) .fr), (27, .val (.sl 31 (.pair (.pair (.int .i64) (.pair (.int .i64) (.unit))) (.pair (.pair (.int .i64) (.pair (.int .i64) (.unit))) (.unit)))) .fr)], 4⟩), (.exit 0, ⟨[(0, .val (.sl 31 (.pair (.pair (.int .i64) (.pair (.int .i64) (.unit))) (.pair (.pair (.int .i64) (.pair (.int .i64) (.unit))) (.unit)))) .fr), (7, .val (.sl 31 (.pair (.pair (.int .i64) (.pair (.int .i64) (.unit))) (.pair (.pair (.int .i64) (.pair (.int .i64) (.unit))) (.unit)))) .fr), (3, .val (.sl 31 (.pair (.pair (.int .i64) (.pair (.int .i64) (.unit))) (.pair (.pair (.int .i64) (.pair (.int .i64) (.unit))) (.unit)))) .fr)], 32⟩)], spec_l05Deepen_v3_l0⟩
noncomputable def spec_l05Deepen_v3_s : Spec := ⟨[.v (.sl 31 (.pair (.pair (.int .i64) (.pair (.int .i64) (.unit))) (.pair (.pair (.int .i64) (.pair (.int .i64) (.unit))) (.unit)))) .fr, .v (.pair (.pair (.int .i64) (.pair (.int .i64) (.unit))) (.pair (.pair (.int .i64) (.pair (.int .i64) (.unit))) (.unit))) .fr, .v (.sl 31 (.pair (.pair (.int .i64) (.pair (.int .i64) (.unit))) (.pair (.pair (.int .i64) (.pair (.int .i64) (.unit))) (.unit)))) .fr], (List ((Int × (Int × Unit)) × ((Int × (Int × Unit)) × Unit))) × Int, fun v => spec_l05Deepen_v3 v.1 v.2.1 v.2.2.1, fun r => ([.v (.sl 31 (.pair (.pair (.int .i64) (.pair (.int .i64) (.unit))) (.pair (.pair (.int .i64) (.pair (.int .i64) (.unit))) (.unit)))) .fr r.1, .v (.int .i64) .fr r.2], [])⟩
noncomputable def spec_l05Deepen_v3_ls : List LSum := [spec_l05Deepen_v3_l0_s]
noncomputable def spec_l05Deepen_v3_tab : List Row := [⟨48, [], [spec_l05Back_v2_s]⟩, ⟨49, [.own], [spec_l05Put_s]⟩]
theorem spec_l05Deepen_v3_t : ∀ r, r ∈ spec_l05Deepen_v3_tab → RowIs Go.Proofs.Try.prog r := tab_cons (spec_l05Back_v2_is) (tab_cons (spec_l05Put_is) (tab_nil))
theorem spec_l05Deepen_v3_l0_r : RoundIs (mkCtx Go.K.Link.seat spec_l05Deepen_v3_c spec_l05Deepen_v3_tab) (sums spec_l05Deepen_v3_ls) 0 (bodyAt (loopsOf 0 spec_l05Deepen_v3_code) 0) spec_l05Deepen_v3_l0_s := by
  rintro ⟨list, ⟨majors, ⟨m, ⟨out, ⟨i, ⟨t12, _⟩⟩⟩⟩⟩⟩
  show _ = (spec_l05Deepen_v3_l0 (list, (majors, (m, (out, (i, (t12, ()))))))).bind fun r : (Ctl ((List ((Int × (Int × Unit)) × ((Int × (Int × Unit)) × Unit))) × (List ((Int × (Int × Unit)) × ((Int × (Int × Unit)) × Unit))) × (((Int × (Int × Unit)) × ((Int × (Int × Unit)) × Unit))) × (List ((Int × (Int × Unit)) × ((Int × (Int × Unit)) × Unit))) × Int × (List ((Int × (Int × Unit)) × ((Int × (Int × Unit)) × Unit))) × Unit) (((List ((Int × (Int × Unit)) × ((Int × (Int × Unit)) × Unit))) × (List ((Int × (Int × Unit)) × ((Int × (Int × Unit)) × Unit))) × Int × (List ((Int × (Int × Unit)) × ((Int × (Int × Unit)) × Unit))) × (List ((Int × (Int × Unit)) × ((Int × (Int × Unit)) × Unit))) × Unit) ⊕ ((List ((Int × (Int × Unit)) × ((Int × (Int × Unit)) × Unit))) × (List ((Int × (Int × Unit)) × ((Int × (Int × Unit)) × Unit))) × Int × (List ((Int × (Int × Unit)) × ((Int × (Int × Unit)) × Unit))) × (List ((Int × (Int × Unit)) × ((Int × (Int × Unit)) × Unit))) × (List ((Int × (Int × Unit)) × ((Int × (Int × Unit)) × Unit))) × Unit) ⊕ ((List ((Int × (Int × Unit)) × ((Int × (Int × Unit)) × Unit))) × (List ((Int × (Int × Unit)) × ((Int × (Int × Unit)) × Unit))) × (List ((Int × (Int × Unit)) × ((Int × (Int × Unit)) × Unit))) × Unit))) => some (ctlVal spec_l05Deepen_v3_l0_s r)
  simp only [spec_l05Deepen_v3_l0, kb_ite, kb_some, kb_none, kb_bind, kb_alt]
  kernel_rfl
theorem spec_l05Deepen_v3_rs : RoundsOK (mkCtx Go.K.Link.seat spec_l05Deepen_v3_c spec_l05Deepen_v3_tab) (sums spec_l05Deepen_v3_ls) (loopsOf 0 spec_l05Deepen_v3_code) spec_l05Deepen_v3_ls := ⟨⟨rfl, rfl, spec_l05Deepen_v3_l0_r⟩, trivial⟩
theorem spec_l05Deepen_v3_e : ∀ v, (evFn (mkCtx Go.K.Link.seat spec_l05Deepen_v3_c spec_l05Deepen_v3_tab) (sums spec_l05Deepen_v3_ls) 29 Go.Proofs.Try.f29 (encL spec_l05Deepen_v3_s.a v)).run = (spec_l05Deepen_v3_s.gen v).bind fun y => some (spec_l05Deepen_v3_s.out y) := by
  rintro ⟨list, ⟨m, ⟨majors, _⟩⟩⟩
  show _ = (spec_l05Deepen_v3 list m majors).bind fun y : (List ((Int × (Int × Unit)) × ((Int × (Int × Unit)) × Unit))) × Int => some (spec_l05Deepen_v3_s.out y)
  simp only [spec_l05Deepen_v3, kb_ite, kb_some, kb_none, kb_bind, kb_alt]
  kernel_rfl
theorem spec_l05Deepen_v3_is : FnIs Go.Proofs.Try.prog 29 (modeOf []) (phi [spec_l05Deepen_v3_s]) := spec_is (c := spec_l05Deepen_v3_c) seatOK spec_l05Deepen_v3_t Go.Proofs.Try.func29 rfl (code := spec_l05Deepen_v3_code) rfl rfl spec_l05Deepen_v3_rs spec_l05Deepen_v3_e
noncomputable def spec_l05Depths_v3_code : Code := (Go.Proofs.Try.f18.body).getD .skip
def spec_l05Depths_v3_c : Cfg := ⟨18, [], [[1, 2, 6, 8, 10, 11, 12, 13, 18, 26, 28, 40, 49, 51, 61, 66, 70, 71], [1, 2, 6, 10, 12, 13, 18, 28, 40, 49, 51, 61, 66, 70, 71], [4, 5, 12, 51, 70, 71], [], [], [], [1, 2, 6, 10, 12, 18, 28, 40, 49, 51, 70, 71], [12, 51, 70], [4, 5, 12, 51, 70, 71]], [], [], [(6, [6])]⟩
noncomputable def spec_l05Depths_v3_l0_s : LSum := ⟨0, ⟨[(1, .val (.int .i64) .fr), (0, .val (.ptr (.pair (.pair (.int .i64) (.pair (.int .i64) (.unit))) (.pair (.pair (.int .i64) (.pair (.int .i64) (.unit))) (.unit)))) (.own .fr)), (3, .val (.sl 31 (.pair (.pair (.int .i64) (.pair (.int .i64) (.unit))) (.pair (.pair (.int .i64) (.pair (.int .i64) (.unit))) (.unit)))) (.own .fr)), (1, .val (.sl 31 (.pair (.pair (.int .i64) (.pair (.int .i64) (.unit))) (.pair (.pair (.int .i64) (.pair (.int .i64) (.unit))) (.unit)))) (.own .fr)), (1, .val (.sl 31 (.pair (.pair (.int .i64) (.pair (.int .i64) (.unit))) (.pair (.pair (.int .i64) (.pair (.int .i64) (.unit))) (.unit)))) (.own .fr)), (0, .val (.int .i64) .fr)], 60⟩, (.exit 0, ⟨[(1, .val (.int .i64) .fr), (0, .val (.ptr (.pair (.pair (.int .i64) (.pair (.int .i64) (.unit))) (.pair (.pair (.int .i64) (.pair (.int .i64) (.unit))) (.unit)))) (.own .fr)), (3, .val (.sl 31 (.pair (.pair (.int .i64) (.pair (.int .i64) (.unit))) (.pair (.pair (.int .i64) (.pair (.int .i64) (.unit))) (.unit)))) (.own .fr)), (3, .val (.sl 31 (.pair (.pair (.int .i64) (.pair (.int .i64) (.unit))) (.pair (.pair (.int .i64) (.pair (.int .i64) (.unit))) (.unit)))) (.own .fr))], 61⟩), [], spec_l05Depths_v3_l0⟩
noncomputable def spec_l05Depths_v3_l1_s : LSum := ⟨2, ⟨[(1, .val (.int .i64) .fr), (0, .val (.ptr (.pair (.pair (.int .i64) (.pair (.int .i64) (.unit))) (.pair (.pair (.int .i64) (.pair (.int .i64) (.unit))) (.unit)))) (.own .fr)), (3, .val (.sl 31 (.pair (.pair (.int .i64) (.pair (.int .i64) (.unit))) (.pair (.pair (.int .i64) (.pair (.int .i64) (.unit))) (.unit)))) .fr), (3, .val (.sl 31 (.pair (.pair (.int .i64) (.pair (.int .i64) (.unit))) (.pair (.pair (.int .i64) (.pair (.int .i64) (.unit))) (.unit)))) .fr), (1, .val (.sl 36 (.sl 31 (.pair (.pair (.int .i64) (.pair (.int .i64) (.unit))) (.pair (.pair (.int .i64) (.pair (.int .i64) (.unit))) (.unit))))) (.own .fr))], 59⟩, (.ret, ⟨[(4, .val (.sl 36 (.sl 31 (.pair (.pair (.int .i64) (.pair (.int .i64) (.unit))) (.pair (.pair (.int .i64) (.pair (.int .i64) (.unit))) (.unit))))) (.own .fr)), (0, .val (.int .i64) .fr), (6, .val (.sl 36 (.sl 31 (.pair (.pair (.int .i64) (.pair (.int .i64) (.unit))) (.pair (.pair (.int .i64) (.pair (.int .i64) (.unit))) (.unit))))) (.own .fr))], 59⟩), [(.exit 2, ⟨[(12, .val (.sl 36 (.sl 31 (.pair (.pair (.int .i64) (.pair (.int .i64) (.unit))) (.pair (.pair (.int .i64) (.pair (.int .i64) (.unit))) (.unit))))) (.own .fr))], 59⟩)], spec_l05Depths_v3_l1⟩
noncomputable def spec_l05Depths_v3_s : Spec := ⟨[.v (.pair (.pair (.int .i64) (.pair (.int .i64) (.unit))) (.pair (.pair (.int .i64) (.pair (.int .i64) (.unit))) (.unit))) .fr, .v (.int .i64) .fr], (List (List ((Int × (Int × Unit)) × ((Int × (Int × Unit)) × Unit)))) × Int, fun v => spec_l05Depths_v3 v.1 v.2.1, fun r => ([.v (.sl 36 (.sl 31 (.pair (.pair (.int .i64) (.pair (.int .i64) (.unit))) (.pair (.pair (.int .i64) (.pair (.int .i64) (.unit))) (.unit))))) (.own .fr) r.1, .v (.int .i64) .fr r.2], [])⟩
noncomputable def spec_l05Depths_v3_ls : List LSum := [spec_l05Depths_v3_l0_s, spec_l05Depths_v3_l1_s]
noncomputable def spec_l05Depths_v3_tab : List Row := [⟨26, [], [spec_l05Minor_s]⟩, ⟨27, [], [spec_l03Images_s]⟩, ⟨28, [.own], [spec_l03Insert_s]⟩, ⟨29, [], [spec_l05Deepen_v3_s]⟩]
theorem spec_l05Depths_v3_t : ∀ r, r ∈ spec_l05Depths_v3_tab → RowIs Go.Proofs.Try.prog r := tab_cons (spec_l05Minor_is) (tab_cons (spec_l03Images_is) (tab_cons (spec_l03Insert_is) (tab_cons (spec_l05Deepen_v3_is) (tab_nil))))
theorem spec_l05Depths_v3_l0_r : RoundIs (mkCtx Go.K.Link.seat spec_l05Depths_v3_c spec_l05Depths_v3_tab) (sums spec_l05Depths_v3_ls) 0 (bodyAt (loopsOf 0 spec_l05Depths_v3_code) 0) spec_l05Depths_v3_l0_s := by
  rintro ⟨k, ⟨m, ⟨majors, ⟨images, ⟨list, ⟨i, _⟩⟩⟩⟩⟩⟩
  show _ = (spec_l05Depths_v3_l0 (k, (m, (majors, (images, (list, (i, ()))))))).bind fun r : (Ctl (Int × (((Int × (Int × Unit)) × ((Int × (Int × Unit)) × Unit))) × (List ((Int × (Int × Unit)) × ((Int × (Int × Unit)) × Unit))) × (List ((Int × (Int × Unit)) × ((Int × (Int × Unit)) × Unit))) × (List ((Int × (Int × Unit)) × ((Int × (Int × Unit)) × Unit))) × Int × Unit) ((Int × (((Int × (Int × Unit)) × ((Int × (Int × Unit)) × Unit))) × (List ((Int × (Int × Unit)) × ((Int × (Int × Unit)) × Unit))) × (List ((Int × (Int × Unit)) × ((Int × (Int × Unit)) × Unit))) × Unit))) => some (ctlVal spec_l05Depths_v3_l0_s r)
  simp only [spec_l05Depths_v3_l0, kb_ite, kb_some, kb_none, kb_bind, kb_alt]
  kernel_rfl
theorem spec_l05Depths_v3_l1_r : RoundIs (mkCtx Go.K.Link.seat spec_l05Depths_v3_c spec_l05Depths_v3_tab) (sums spec_l05Depths_v3_ls) 2 (bodyAt (loopsOf 0 spec_l05Depths_v3_code) 1) spec_l05Depths_v3_l1_s := by
  rintro ⟨k, ⟨m, ⟨majors, ⟨list, ⟨out, _⟩⟩⟩⟩⟩
  show _ = (spec_l05Depths_v3_l1 (k, (m, (majors, (list, (out, ())))))).bind fun r : (Ctl (Int × (((Int × (Int × Unit)) × ((Int × (Int × Unit)) × Unit))) × (List ((Int × (Int × Unit)) × ((Int × (Int × Unit)) × Unit))) × (List ((Int × (Int × Unit)) × ((Int × (Int × Unit)) × Unit))) × (List (List ((Int × (Int × Unit)) × ((Int × (Int × Unit)) × Unit)))) × Unit) (((List (List ((Int × (Int × Unit)) × ((Int × (Int × Unit)) × Unit)))) × Int × (List (List ((Int × (Int × Unit)) × ((Int × (Int × Unit)) × Unit)))) × Unit) ⊕ ((List (List ((Int × (Int × Unit)) × ((Int × (Int × Unit)) × Unit)))) × Unit))) => some (ctlVal spec_l05Depths_v3_l1_s r)
  simp only [spec_l05Depths_v3_l1, kb_ite, kb_some, kb_none, kb_bind, kb_alt]
  kernel_rfl
theorem spec_l05Depths_v3_rs : RoundsOK (mkCtx Go.K.Link.seat spec_l05Depths_v3_c spec_l05Depths_v3_tab) (sums spec_l05Depths_v3_ls) (loopsOf 0 spec_l05Depths_v3_code) spec_l05Depths_v3_ls := ⟨⟨rfl, rfl, spec_l05Depths_v3_l0_r⟩, ⟨⟨rfl, rfl, spec_l05Depths_v3_l1_r⟩, trivial⟩⟩
theorem spec_l05Depths_v3_e : ∀ v, (evFn (mkCtx Go.K.Link.seat spec_l05Depths_v3_c spec_l05Depths_v3_tab) (sums spec_l05Depths_v3_ls) 18 Go.Proofs.Try.f18 (encL spec_l05Depths_v3_s.a v)).run = (spec_l05Depths_v3_s.gen v).bind fun y => some (spec_l05Depths_v3_s.out y) := by
  rintro ⟨m, ⟨k, _⟩⟩
  show _ = (spec_l05Depths_v3 m k).bind fun y : (List (List ((Int × (Int × Unit)) × ((Int × (Int × Unit)) × Unit)))) × Int => some (spec_l05Depths_v3_s.out y)
  simp only [spec_l05Depths_v3, kb_ite, kb_some, kb_none, kb_bind, kb_alt]
  kernel_rfl
theorem spec_l05Depths_v3_is : FnIs Go.Proofs.Try.prog 18 (modeOf []) (phi [spec_l05Depths_v3_s]) := spec_is (c := spec_l05Depths_v3_c) seatOK spec_l05Depths_v3_t Go.Proofs.Try.func18 rfl (code := spec_l05Depths_v3_code) rfl rfl spec_l05Depths_v3_rs spec_l05Depths_v3_e
noncomputable def spec_CountByDepth_l0_s : LSum := ⟨1, ⟨[(6, .val (.sl 36 (.sl 31 (.pair (.pair (.int .i64) (.pair (.int .i64) (.unit))) (.pair (.pair (.int .i64) (.pair (.int .i64) (.unit))) (.unit))))) (.own .fr)), (1, .val (.sl 2 (.int .i64)) (.own .fr)), (0, .val (.int .i64) .fr)], 33⟩, (.exit 1, ⟨[(8, .val (.sl 2 (.int .i64)) (.own .fr))], 34⟩), [], spec_CountByDepth_l0⟩
noncomputable def spec_CountByDepth_s : Spec := ⟨[.v (.pair (.pair (.int .i64) (.pair (.int .i64) (.unit))) (.pair (.pair (.int .i64) (.pair (.int .i64) (.unit))) (.unit))) .fr, .v (.int .i64) .fr], (List Int) × Int, fun v => spec_CountByDepth v.1 v.2.1, fun r => ([.v (.sl 2 (.int .i64)) (.own .fr) r.1, .v (.int .i64) .fr r.2], [])⟩
noncomputable def spec_CountByDepth_ls : List LSum := [spec_CountByDepth_l0_s]
noncomputable def spec_CountByDepth_tab : List Row := [⟨16, [], [spec_l03Is_s]⟩, ⟨17, [], [spec_l01In_s]⟩, ⟨18, [], [spec_l05Depths_v3_s]⟩]
theorem spec_CountByDepth_t : ∀ r, r ∈ spec_CountByDepth_tab → RowIs Go.Proofs.Try.prog r := tab_cons (spec_l03Is_is) (tab_cons (spec_l01In_is) (tab_cons (spec_l05Depths_v3_is) (tab_nil)))
theorem spec_CountByDepth_l0_r : RoundIs (mkCtx Go.K.Link.seat spec_CountByDepth_c spec_CountByDepth_tab) (sums spec_CountByDepth_ls) 1 (bodyAt (loopsOf 0 spec_CountByDepth_code) 0) spec_CountByDepth_l0_s := by
  rintro ⟨list, ⟨out, ⟨i, _⟩⟩⟩
  show _ = (spec_CountByDepth_l0 (list, (out, (i, ())))).bind fun r : (Ctl ((List (List ((Int × (Int × Unit)) × ((Int × (Int × Unit)) × Unit)))) × (List Int) × Int × Unit) (((List Int) × Unit))) => some (ctlVal spec_CountByDepth_l0_s r)
  simp only [spec_CountByDepth_l0, kb_ite, kb_some, kb_none, kb_bind, kb_alt]
  kernel_rfl
theorem spec_CountByDepth_rs : RoundsOK (mkCtx Go.K.Link.seat spec_CountByDepth_c spec_CountByDepth_tab) (sums spec_CountByDepth_ls) (loopsOf 0 spec_CountByDepth_code) spec_CountByDepth_ls := ⟨⟨rfl, rfl, spec_CountByDepth_l0_r⟩, trivial⟩
theorem spec_CountByDepth_e : ∀ v, (evFn (mkCtx Go.K.Link.seat spec_CountByDepth_c spec_CountByDepth_tab) (sums spec_CountByDepth_ls) 5 Go.Proofs.Try.f5 (encL spec_CountByDepth_s.a v)).run = (spec_CountByDepth_s.gen v).bind fun y => some (spec_CountByDepth_s.out y) := by
  rintro ⟨m, ⟨k, _⟩⟩
  show _ = (spec_CountByDepth m k).bind fun y : (List Int) × Int => some (spec_CountByDepth_s.out y)
  simp only [spec_CountByDepth, kb_ite, kb_some, kb_none, kb_bind, kb_alt]
  kernel_rfl
theorem spec_CountByDepth_is : FnIs Go.Proofs.Try.prog 5 (modeOf []) (phi [spec_CountByDepth_s]) := spec_is (c := spec_CountByDepth_c) seatOK spec_CountByDepth_t Go.Proofs.Try.func5 rfl (code := spec_CountByDepth_code) rfl rfl spec_CountByDepth_rs spec_CountByDepth_e
noncomputable def impl_CountByDepth_code : Code := (Go.Proofs.Try.f7.body).getD .skip
def impl_CountByDepth_c : Cfg := ⟨7, [], [], [(6, (.pr .fr (.pr (.own .fr) (.pr (.own .fr) .fr))))], [], []⟩
noncomputable def impl_isDepth_code : Code := (Go.Proofs.Try.f21.body).getD .skip
def impl_isDepth_c : Cfg := ⟨21, [], [], [], [], []⟩
noncomputable def impl_within_code : Code := (Go.Proofs.Try.f33.body).getD .skip
def impl_within_c : Cfg := ⟨33, [], [], [], [], []⟩
noncomputable def impl_within_s : Spec := ⟨[.v (.int .i64) .fr, .v (.int .i64) .fr, .v (.int .i64) .fr], Bool, fun v => impl_within v.1 v.2.1 v.2.2.1, fun r => ([.v (.bool) .fr r], [])⟩
noncomputable def impl_within_ls : List LSum := []
noncomputable def impl_within_tab : List Row := []
theorem impl_within_t : ∀ r, r ∈ impl_within_tab → RowIs Go.Proofs.Try.prog r := tab_nil
theorem impl_within_rs : RoundsOK (mkCtx Go.K.Link.seat impl_within_c impl_within_tab) (sums impl_within_ls) (loopsOf 0 impl_within_code) impl_within_ls := trivial
theorem impl_within_e : ∀ v, (evFn (mkCtx Go.K.Link.seat impl_within_c impl_within_tab) (sums impl_within_ls) 33 Go.Proofs.Try.f33 (encL impl_within_s.a v)).run = (impl_within_s.gen v).bind fun y => some (impl_within_s.out y) := by
  rintro ⟨n, ⟨low, ⟨high, _⟩⟩⟩
  show _ = (impl_within n low high).bind fun y : Bool => some (impl_within_s.out y)
  simp only [impl_within, kb_ite, kb_some, kb_none, kb_bind, kb_alt]
  kernel_rfl
theorem impl_within_is : FnIs Go.Proofs.Try.prog 33 (modeOf []) (phi [impl_within_s]) := spec_is (c := impl_within_c) seatOK impl_within_t Go.Proofs.Try.func33 rfl (code := impl_within_code) rfl rfl impl_within_rs impl_within_e
noncomputable def impl_isDepth_s : Spec := ⟨[.v (.int .i64) .fr], Bool, fun v => impl_isDepth v.1, fun r => ([.v (.bool) .fr r], [])⟩
noncomputable def impl_isDepth_ls : List LSum := []
noncomputable def impl_isDepth_tab : List Row := [⟨33, [], [impl_within_s]⟩]
theorem impl_isDepth_t : ∀ r, r ∈ impl_isDepth_tab → RowIs Go.Proofs.Try.prog r := tab_cons (impl_within_is) (tab_nil)
theorem impl_isDepth_rs : RoundsOK (mkCtx Go.K.Link.seat impl_isDepth_c impl_isDepth_tab) (sums impl_isDepth_ls) (loopsOf 0 impl_isDepth_code) impl_isDepth_ls := trivial
theorem impl_isDepth_e : ∀ v, (evFn (mkCtx Go.K.Link.seat impl_isDepth_c impl_isDepth_tab) (sums impl_isDepth_ls) 21 Go.Proofs.Try.f21 (encL impl_isDepth_s.a v)).run = (impl_isDepth_s.gen v).bind fun y => some (impl_isDepth_s.out y) := by
  rintro ⟨k, _⟩
  show _ = (impl_isDepth k).bind fun y : Bool => some (impl_isDepth_s.out y)
  simp only [impl_isDepth, kb_ite, kb_some, kb_none, kb_bind, kb_alt]
  kernel_rfl
theorem impl_isDepth_is : FnIs Go.Proofs.Try.prog 21 (modeOf []) (phi [impl_isDepth_s]) := spec_is (c := impl_isDepth_c) seatOK impl_isDepth_t Go.Proofs.Try.func21 rfl (code := impl_isDepth_code) rfl rfl impl_isDepth_rs impl_isDepth_e
noncomputable def impl_minorLeaf_code : Code := (Go.Proofs.Try.f20.body).getD .skip
def impl_minorLeaf_c : Cfg := ⟨20, [], [], [(6, (.pr .fr (.pr (.own .fr) (.pr (.own .fr) .fr)))), (9, (.pr .fr (.pr (.own .fr) (.pr (.own .fr) .fr))))], [], []⟩
noncomputable def impl_leavesCode_code : Code := (Go.Proofs.Try.f30.body).getD .skip
def impl_leavesCode_c : Cfg := ⟨30, [], [], [], [], []⟩
noncomputable def impl_areAll_impl_Leaf_code : Code := (Go.Proofs.Try.f50.body).getD .skip
def impl_areAll_impl_Leaf_c : Cfg := ⟨50, [], [], [], [], []⟩
noncomputable def slices_ContainsFunc__impl_Leaf_impl_Leaf_code : Code := (Go.Proofs.Try.f39.body).getD .skip
def slices_ContainsFunc__impl_Leaf_impl_Leaf_c : Cfg := ⟨39, [], [], [], [], []⟩
noncomputable def slices_IndexFunc__impl_Leaf_impl_Leaf_code : Code := (Go.Proofs.Try.f66.body).getD .skip
def slices_IndexFunc__impl_Leaf_impl_Leaf_c : Cfg := ⟨66, [], [[0, 1, 7, 8], [], [4]], [], [], []⟩
noncomputable def impl_areAll_impl_Leaf_f1_code : Code := (Go.Proofs.Try.f78.body).getD .skip
def impl_areAll_impl_Leaf_f1_c : Cfg := ⟨78, [], [], [], [], []⟩
noncomputable def impl_IsLeaf_code : Code := (Go.Proofs.Try.f31.body).getD .skip
def impl_IsLeaf_c : Cfg := ⟨31, [], [], [], [], []⟩
noncomputable def impl_IsAngle_code : Code := (Go.Proofs.Try.f51.body).getD .skip
def impl_IsAngle_c : Cfg := ⟨51, [], [], [], [], []⟩
noncomputable def impl_divisor_code : Code := (Go.Proofs.Try.f79.body).getD .skip
def impl_divisor_c : Cfg := ⟨79, [], [[0, 1], [0], [4]], [], [], []⟩
noncomputable def impl_divisor_l0_s : LSum := ⟨0, ⟨[(0, .val (.int .i64) .fr), (0, .val (.int .i64) .fr)], 10⟩, (.exit 0, ⟨[(0, .val (.int .i64) .fr)], 11⟩), [], impl_divisor_l0⟩
noncomputable def impl_divisor_s : Spec := ⟨[.v (.int .i64) .fr, .v (.int .i64) .fr], Int, fun v => impl_divisor v.1 v.2.1, fun r => ([.v (.int .i64) .fr r], [])⟩
noncomputable def impl_divisor_ls : List LSum := [impl_divisor_l0_s]
noncomputable def impl_divisor_tab : List Row := []
theorem impl_divisor_t : ∀ r, r ∈ impl_divisor_tab → RowIs Go.Proofs.Try.prog r := tab_nil
theorem impl_divisor_l0_r : RoundIs (mkCtx Go.K.Link.seat impl_divisor_c impl_divisor_tab) (sums impl_divisor_ls) 0 (bodyAt (loopsOf 0 impl_divisor_code) 0) impl_divisor_l0_s := by
  rintro ⟨a, ⟨b, _⟩⟩
  show _ = (impl_divisor_l0 (a, (b, ()))).bind fun r : (Ctl (Int × Int × Unit) ((Int × Unit))) => some (ctlVal impl_divisor_l0_s r)
  simp only [impl_divisor_l0, kb_ite, kb_some, kb_none, kb_bind, kb_alt]
  kernel_rfl
theorem impl_divisor_rs : RoundsOK (mkCtx Go.K.Link.seat impl_divisor_c impl_divisor_tab) (sums impl_divisor_ls) (loopsOf 0 impl_divisor_code) impl_divisor_ls := ⟨⟨rfl, rfl, impl_divisor_l0_r⟩, trivial⟩
theorem impl_divisor_e : ∀ v, (evFn (mkCtx Go.K.Link.seat impl_divisor_c impl_divisor_tab) (sums impl_divisor_ls) 79 Go.Proofs.Try.f79 (encL impl_divisor_s.a v)).run = (impl_divisor_s.gen v).bind fun y => some (impl_divisor_s.out y) := by
  rintro ⟨a, ⟨b, _⟩⟩
  show _ = (impl_divisor a b).bind fun y : Int => some (impl_divisor_s.out y)
  simp only [impl_divisor, kb_ite, kb_some, kb_none, kb_bind, kb_alt]
  kernel_rfl
theorem impl_divisor_is : FnIs Go.Proofs.Try.prog 79 (modeOf []) (phi [impl_divisor_s]) := spec_is (c := impl_divisor_c) seatOK impl_divisor_t Go.Proofs.Try.func79 rfl (code := impl_divisor_code) rfl rfl impl_divisor_rs impl_divisor_e
noncomputable def impl_IsAngle_s : Spec := ⟨[.v (.pair (.int .i64) (.pair (.int .i64) (.unit))) .fr], Bool, fun v => impl_IsAngle v.1, fun r => ([.v (.bool) .fr r], [])⟩
noncomputable def impl_IsAngle_ls : List LSum := []
noncomputable def impl_IsAngle_tab : List Row := [⟨79, [], [impl_divisor_s]⟩, ⟨33, [], [impl_within_s]⟩]
theorem impl_IsAngle_t : ∀ r, r ∈ impl_IsAngle_tab → RowIs Go.Proofs.Try.prog r := tab_cons (impl_divisor_is) (tab_cons (impl_within_is) (tab_nil))
theorem impl_IsAngle_rs : RoundsOK (mkCtx Go.K.Link.seat impl_IsAngle_c impl_IsAngle_tab) (sums impl_IsAngle_ls) (loopsOf 0 impl_IsAngle_code) impl_IsAngle_ls := trivial
theorem impl_IsAngle_e : ∀ v, (evFn (mkCtx Go.K.Link.seat impl_IsAngle_c impl_IsAngle_tab) (sums impl_IsAngle_ls) 51 Go.Proofs.Try.f51 (encL impl_IsAngle_s.a v)).run = (impl_IsAngle_s.gen v).bind fun y => some (impl_IsAngle_s.out y) := by
  rintro ⟨a, _⟩
  show _ = (impl_IsAngle a).bind fun y : Bool => some (impl_IsAngle_s.out y)
  simp only [impl_IsAngle, kb_ite, kb_some, kb_none, kb_bind, kb_alt]
  kernel_rfl
theorem impl_IsAngle_is : FnIs Go.Proofs.Try.prog 51 (modeOf []) (phi [impl_IsAngle_s]) := spec_is (c := impl_IsAngle_c) seatOK impl_IsAngle_t Go.Proofs.Try.func51 rfl (code := impl_IsAngle_code) rfl rfl impl_IsAngle_rs impl_IsAngle_e
noncomputable def impl_Angle_compare_code : Code := (Go.Proofs.Try.f52.body).getD .skip
def impl_Angle_compare_c : Cfg := ⟨52, [], [], [], [], []⟩
noncomputable def cmp_Compare_int64_code : Code := (Go.Proofs.Try.f80.body).getD .skip
def cmp_Compare_int64_c : Cfg := ⟨80, [], [], [], [], []⟩
noncomputable def cmp_isNaN_int64_code : Code := (Go.Proofs.Try.f99.body).getD .skip
def cmp_isNaN_int64_c : Cfg := ⟨99, [], [], [], [], []⟩
noncomputable def cmp_isNaN_int64_s : Spec := ⟨[.v (.int .i64) .fr], Bool, fun v => cmp_isNaN_int64 v.1, fun r => ([.v (.bool) .fr r], [])⟩
noncomputable def cmp_isNaN_int64_ls : List LSum := []
noncomputable def cmp_isNaN_int64_tab : List Row := []
theorem cmp_isNaN_int64_t : ∀ r, r ∈ cmp_isNaN_int64_tab → RowIs Go.Proofs.Try.prog r := tab_nil
theorem cmp_isNaN_int64_rs : RoundsOK (mkCtx Go.K.Link.seat cmp_isNaN_int64_c cmp_isNaN_int64_tab) (sums cmp_isNaN_int64_ls) (loopsOf 0 cmp_isNaN_int64_code) cmp_isNaN_int64_ls := trivial
theorem cmp_isNaN_int64_e : ∀ v, (evFn (mkCtx Go.K.Link.seat cmp_isNaN_int64_c cmp_isNaN_int64_tab) (sums cmp_isNaN_int64_ls) 99 Go.Proofs.Try.f99 (encL cmp_isNaN_int64_s.a v)).run = (cmp_isNaN_int64_s.gen v).bind fun y => some (cmp_isNaN_int64_s.out y) := by
  rintro ⟨x, _⟩
  show _ = (cmp_isNaN_int64 x).bind fun y : Bool => some (cmp_isNaN_int64_s.out y)
  simp only [cmp_isNaN_int64, kb_ite, kb_some, kb_none, kb_bind, kb_alt]
  kernel_rfl
theorem cmp_isNaN_int64_is : FnIs Go.Proofs.Try.prog 99 (modeOf []) (phi [cmp_isNaN_int64_s]) := spec_is (c := cmp_isNaN_int64_c) seatOK cmp_isNaN_int64_t Go.Proofs.Try.func99 rfl (code := cmp_isNaN_int64_code) rfl rfl cmp_isNaN_int64_rs cmp_isNaN_int64_e
noncomputable def cmp_Compare_int64_s : Spec := ⟨[.v (.int .i64) .fr, .v (.int .i64) .fr], Int, fun v => cmp_Compare_int64 v.1 v.2.1, fun r => ([.v (.int .i64) .fr r], [])⟩
noncomputable def cmp_Compare_int64_ls : List LSum := []
noncomputable def cmp_Compare_int64_tab : List Row := [⟨99, [], [cmp_isNaN_int64_s]⟩]
theorem cmp_Compare_int64_t : ∀ r, r ∈ cmp_Compare_int64_tab → RowIs Go.Proofs.Try.prog r := tab_cons (cmp_isNaN_int64_is) (tab_nil)
theorem cmp_Compare_int64_rs : RoundsOK (mkCtx Go.K.Link.seat cmp_Compare_int64_c cmp_Compare_int64_tab) (sums cmp_Compare_int64_ls) (loopsOf 0 cmp_Compare_int64_code) cmp_Compare_int64_ls := trivial
theorem cmp_Compare_int64_e : ∀ v, (evFn (mkCtx Go.K.Link.seat cmp_Compare_int64_c cmp_Compare_int64_tab) (sums cmp_Compare_int64_ls) 80 Go.Proofs.Try.f80 (encL cmp_Compare_int64_s.a v)).run = (cmp_Compare_int64_s.gen v).bind fun y => some (cmp_Compare_int64_s.out y) := by
  rintro ⟨x, ⟨y, _⟩⟩
  show _ = (cmp_Compare_int64 x y).bind fun y : Int => some (cmp_Compare_int64_s.out y)
  simp only [cmp_Compare_int64, kb_ite, kb_some, kb_none, kb_bind, kb_alt]
  kernel_rfl
theorem cmp_Compare_int64_is : FnIs Go.Proofs.Try.prog 80 (modeOf []) (phi [cmp_Compare_int64_s]) := spec_is (c := cmp_Compare_int64_c) seatOK cmp_Compare_int64_t Go.Proofs.Try.func80 rfl (code := cmp_Compare_int64_code) rfl rfl cmp_Compare_int64_rs cmp_Compare_int64_e
noncomputable def impl_Angle_compare_s : Spec := ⟨[.v (.pair (.int .i64) (.pair (.int .i64) (.unit))) .fr, .v (.pair (.int .i64) (.pair (.int .i64) (.unit))) .fr], Int, fun v => impl_Angle_compare v.1 v.2.1, fun r => ([.v (.int .i64) .fr r], [])⟩
noncomputable def impl_Angle_compare_ls : List LSum := []
noncomputable def impl_Angle_compare_tab : List Row := [⟨80, [], [cmp_Compare_int64_s]⟩]
theorem impl_Angle_compare_t : ∀ r, r ∈ impl_Angle_compare_tab → RowIs Go.Proofs.Try.prog r := tab_cons (cmp_Compare_int64_is) (tab_nil)
theorem impl_Angle_compare_rs : RoundsOK (mkCtx Go.K.Link.seat impl_Angle_compare_c impl_Angle_compare_tab) (sums impl_Angle_compare_ls) (loopsOf 0 impl_Angle_compare_code) impl_Angle_compare_ls := trivial
theorem impl_Angle_compare_e : ∀ v, (evFn (mkCtx Go.K.Link.seat impl_Angle_compare_c impl_Angle_compare_tab) (sums impl_Angle_compare_ls) 52 Go.Proofs.Try.f52 (encL impl_Angle_compare_s.a v)).run = (impl_Angle_compare_s.gen v).bind fun y => some (impl_Angle_compare_s.out y) := by
  rintro ⟨a, ⟨b, _⟩⟩
  show _ = (impl_Angle_compare a b).bind fun y : Int => some (impl_Angle_compare_s.out y)
  simp only [impl_Angle_compare, kb_ite, kb_some, kb_none, kb_bind, kb_alt]
  kernel_rfl
theorem impl_Angle_compare_is : FnIs Go.Proofs.Try.prog 52 (modeOf []) (phi [impl_Angle_compare_s]) := spec_is (c := impl_Angle_compare_c) seatOK impl_Angle_compare_t Go.Proofs.Try.func52 rfl (code := impl_Angle_compare_code) rfl rfl impl_Angle_compare_rs impl_Angle_compare_e
noncomputable def impl_IsLeaf_s : Spec := ⟨[.v (.pair (.pair (.int .i64) (.pair (.int .i64) (.unit))) (.pair (.pair (.int .i64) (.pair (.int .i64) (.unit))) (.unit))) .fr], Bool, fun v => impl_IsLeaf v.1, fun r => ([.v (.bool) .fr r], [])⟩
noncomputable def impl_IsLeaf_ls : List LSum := []
noncomputable def impl_IsLeaf_tab : List Row := [⟨51, [], [impl_IsAngle_s]⟩, ⟨52, [], [impl_Angle_compare_s]⟩]
theorem impl_IsLeaf_t : ∀ r, r ∈ impl_IsLeaf_tab → RowIs Go.Proofs.Try.prog r := tab_cons (impl_IsAngle_is) (tab_cons (impl_Angle_compare_is) (tab_nil))
theorem impl_IsLeaf_rs : RoundsOK (mkCtx Go.K.Link.seat impl_IsLeaf_c impl_IsLeaf_tab) (sums impl_IsLeaf_ls) (loopsOf 0 impl_IsLeaf_code) impl_IsLeaf_ls := trivial
theorem impl_IsLeaf_e : ∀ v, (evFn (mkCtx Go.K.Link.seat impl_IsLeaf_c impl_IsLeaf_tab) (sums impl_IsLeaf_ls) 31 Go.Proofs.Try.f31 (encL impl_IsLeaf_s.a v)).run = (impl_IsLeaf_s.gen v).bind fun y => some (impl_IsLeaf_s.out y) := by
  rintro ⟨l, _⟩
  show _ = (impl_IsLeaf l).bind fun y : Bool => some (impl_IsLeaf_s.out y)
  simp only [impl_IsLeaf, kb_ite, kb_some, kb_none, kb_bind, kb_alt]
  kernel_rfl
theorem impl_IsLeaf_is : FnIs Go.Proofs.Try.prog 31 (modeOf []) (phi [impl_IsLeaf_s]) := spec_is (c := impl_IsLeaf_c) seatOK impl_IsLeaf_t Go.Proofs.Try.func31 rfl (code := impl_IsLeaf_code) rfl rfl impl_IsLeaf_rs impl_IsLeaf_e
noncomputable def impl_areAll_impl_Leaf_f1_s : Spec := ⟨[.v (.pair (.pair (.int .i64) (.pair (.int .i64) (.unit))) (.pair (.pair (.int .i64) (.pair (.int .i64) (.unit))) (.unit))) .fr, .pfn 31 [] []], Bool, fun v => impl_areAll_impl_Leaf_f1 v.1, fun r => ([.v (.bool) .fr r], [])⟩
noncomputable def impl_areAll_impl_Leaf_f1_ls : List LSum := []
noncomputable def impl_areAll_impl_Leaf_f1_tab : List Row := [⟨31, [], [impl_IsLeaf_s]⟩]
theorem impl_areAll_impl_Leaf_f1_t : ∀ r, r ∈ impl_areAll_impl_Leaf_f1_tab → RowIs Go.Proofs.Try.prog r := tab_cons (impl_IsLeaf_is) (tab_nil)
theorem impl_areAll_impl_Leaf_f1_rs : RoundsOK (mkCtx Go.K.Link.seat impl_areAll_impl_Leaf_f1_c impl_areAll_impl_Leaf_f1_tab) (sums impl_areAll_impl_Leaf_f1_ls) (loopsOf 0 impl_areAll_impl_Leaf_f1_code) impl_areAll_impl_Leaf_f1_ls := trivial
theorem impl_areAll_impl_Leaf_f1_e : ∀ v, (evFn (mkCtx Go.K.Link.seat impl_areAll_impl_Leaf_f1_c impl_areAll_impl_Leaf_f1_tab) (sums impl_areAll_impl_Leaf_f1_ls) 78 Go.Proofs.Try.f78 (encL impl_areAll_impl_Leaf_f1_s.a v)).run = (impl_areAll_impl_Leaf_f1_s.gen v).bind fun y => some (impl_areAll_impl_Leaf_f1_s.out y) := by
  rintro ⟨x, ⟨⟨_, _⟩, _⟩⟩
  show _ = (impl_areAll_impl_Leaf_f1 x).bind fun y : Bool => some (impl_areAll_impl_Leaf_f1_s.out y)
  simp only [impl_areAll_impl_Leaf_f1, kb_ite, kb_some, kb_none, kb_bind, kb_alt]
  kernel_rfl
theorem impl_areAll_impl_Leaf_f1_is : FnIs Go.Proofs.Try.prog 78 (modeOf []) (phi [impl_areAll_impl_Leaf_f1_s]) := spec_is (c := impl_areAll_impl_Leaf_f1_c) seatOK impl_areAll_impl_Leaf_f1_t Go.Proofs.Try.func78 rfl (code := impl_areAll_impl_Leaf_f1_code) rfl rfl impl_areAll_impl_Leaf_f1_rs impl_areAll_impl_Leaf_f1_e
noncomputable def slices_IndexFunc__impl_Leaf_impl_Leaf_l0_s : LSum := ⟨0, ⟨[(0, .val (.sl 31 (.pair (.pair (.int .i64) (.pair (.int .i64) (.unit))) (.pair (.pair (.int .i64) (.pair (.int .i64) (.unit))) (.unit)))) .fr), (0, .fnl 78 [] [.arg (.pfn 31 [] [])]), (5, .val (.int .i64) .fr), (0, .val (.int .i64) .fr)], 10⟩, (.ret, ⟨[(4, .val (.int .i64) .fr)], 14⟩), [(.exit 0, ⟨[], 19⟩)], slices_IndexFunc__impl_Leaf_impl_Leaf_l0⟩
noncomputable def slices_IndexFunc__impl_Leaf_impl_Leaf_s : Spec := ⟨[.v (.sl 31 (.pair (.pair (.int .i64) (.pair (.int .i64) (.unit))) (.pair (.pair (.int .i64) (.pair (.int .i64) (.unit))) (.unit)))) .fr, .fn 78 [] [.pfn 31 [] []]], Int, fun v => slices_IndexFunc__impl_Leaf_impl_Leaf v.1, fun r => ([.v (.int .i64) .fr r], [])⟩
noncomputable def slices_IndexFunc__impl_Leaf_impl_Leaf_ls : List LSum := [slices_IndexFunc__impl_Leaf_impl_Leaf_l0_s]
noncomputable def slices_IndexFunc__impl_Leaf_impl_Leaf_tab : List Row := [⟨78, [], [impl_areAll_impl_Leaf_f1_s]⟩]
theorem slices_IndexFunc__impl_Leaf_impl_Leaf_t : ∀ r, r ∈ slices_IndexFunc__impl_Leaf_impl_Leaf_tab → RowIs Go.Proofs.Try.prog r := tab_cons (impl_areAll_impl_Leaf_f1_is) (tab_nil)
theorem slices_IndexFunc__impl_Leaf_impl_Leaf_l0_r : RoundIs (mkCtx Go.K.Link.seat slices_IndexFunc__impl_Leaf_impl_Leaf_c slices_IndexFunc__impl_Leaf_impl_Leaf_tab) (sums slices_IndexFunc__impl_Leaf_impl_Leaf_ls) 0 (bodyAt (loopsOf 0 slices_IndexFunc__impl_Leaf_impl_Leaf_code) 0) slices_IndexFunc__impl_Leaf_impl_Leaf_l0_s := by
  rintro ⟨s, ⟨_, ⟨⟨_, _⟩, _⟩, ⟨t7, ⟨t8, _⟩⟩⟩⟩
  show _ = (slices_IndexFunc__impl_Leaf_impl_Leaf_l0 (s, ((), (((), ()), ()), (t7, (t8, ()))))).bind fun r : (Ctl ((List ((Int × (Int × Unit)) × ((Int × (Int × Unit)) × Unit))) × Unit × ((Unit × Unit) × Unit) × Int × Int × Unit) ((Int × Unit) ⊕ (Unit))) => some (ctlVal slices_IndexFunc__impl_Leaf_impl_Leaf_l0_s r)
  simp only [slices_IndexFunc__impl_Leaf_impl_Leaf_l0, kb_ite, kb_some, kb_none, kb_bind, kb_alt]
  kernel_rfl
theorem slices_IndexFunc__impl_Leaf_impl_Leaf_rs : RoundsOK (mkCtx Go.K.Link.seat slices_IndexFunc__impl_Leaf_impl_Leaf_c slices_IndexFunc__impl_Leaf_impl_Leaf_tab) (sums slices_IndexFunc__impl_Leaf_impl_Leaf_ls) (loopsOf 0 slices_IndexFunc__impl_Leaf_impl_Leaf_code) slices_IndexFunc__impl_Leaf_impl_Leaf_ls := ⟨⟨rfl, rfl, slices_IndexFunc__impl_Leaf_impl_Leaf_l0_r⟩, trivial⟩
theorem slices_IndexFunc__impl_Leaf_impl_Leaf_e : ∀ v, (evFn (mkCtx Go.K.Link.seat slices_IndexFunc__impl_Leaf_impl_Leaf_c slices_IndexFunc__impl_Leaf_impl_Leaf_tab) (sums slices_IndexFunc__impl_Leaf_impl_Leaf_ls) 66 Go.Proofs.Try.f66 (encL slices_IndexFunc__impl_Leaf_impl_Leaf_s.a v)).run = (slices_IndexFunc__impl_Leaf_impl_Leaf_s.gen v).bind fun y => some (slices_IndexFunc__impl_Leaf_impl_Leaf_s.out y) := by
  rintro ⟨s, ⟨⟨_, ⟨⟨_, _⟩, _⟩⟩, _⟩⟩
  show _ = (slices_IndexFunc__impl_Leaf_impl_Leaf s).bind fun y : Int => some (slices_IndexFunc__impl_Leaf_impl_Leaf_s.out y)
  simp only [slices_IndexFunc__impl_Leaf_impl_Leaf, kb_ite, kb_some, kb_none, kb_bind, kb_alt]
  kernel_rfl
theorem slices_IndexFunc__impl_Leaf_impl_Leaf_is : FnIs Go.Proofs.Try.prog 66 (modeOf []) (phi [slices_IndexFunc__impl_Leaf_impl_Leaf_s]) := spec_is (c := slices_IndexFunc__impl_Leaf_impl_Leaf_c) seatOK slices_IndexFunc__impl_Leaf_impl_Leaf_t Go.Proofs.Try.func66 rfl (code := slices_IndexFunc__impl_Leaf_impl_Leaf_code) rfl rfl slices_IndexFunc__impl_Leaf_impl_Leaf_rs slices_IndexFunc__impl_Leaf_impl_Leaf_e
noncomputable def slices_ContainsFunc__impl_Leaf_impl_Leaf_s : Spec := ⟨[.v (.sl 31 (.pair (.pair (.int .i64) (.pair (.int .i64) (.unit))) (.pair (.pair (.int .i64) (.pair (.int .i64) (.unit))) (.unit)))) .fr, .fn 78 [] [.pfn 31 [] []]], Bool, fun v => slices_ContainsFunc__impl_Leaf_impl_Leaf v.1, fun r => ([.v (.bool) .fr r], [])⟩
noncomputable def slices_ContainsFunc__impl_Leaf_impl_Leaf_ls : List LSum := []
noncomputable def slices_ContainsFunc__impl_Leaf_impl_Leaf_tab : List Row := [⟨66, [], [slices_IndexFunc__impl_Leaf_impl_Leaf_s]⟩]
theorem slices_ContainsFunc__impl_Leaf_impl_Leaf_t : ∀ r, r ∈ slices_ContainsFunc__impl_Leaf_impl_Leaf_tab → RowIs Go.Proofs.Try.prog r := tab_cons (slices_IndexFunc__impl_Leaf_impl_Leaf_is) (tab_nil)
theorem slices_ContainsFunc__impl_Leaf_impl_Leaf_rs : RoundsOK (mkCtx Go.K.Link.seat slices_ContainsFunc__impl_Leaf_impl_Leaf_c slices_ContainsFunc__impl_Leaf_impl_Leaf_tab) (sums slices_ContainsFunc__impl_Leaf_impl_Leaf_ls) (loopsOf 0 slices_ContainsFunc__impl_Leaf_impl_Leaf_code) slices_ContainsFunc__impl_Leaf_impl_Leaf_ls := trivial
theorem slices_ContainsFunc__impl_Leaf_impl_Leaf_e : ∀ v, (evFn (mkCtx Go.K.Link.seat slices_ContainsFunc__impl_Leaf_impl_Leaf_c slices_ContainsFunc__impl_Leaf_impl_Leaf_tab) (sums slices_ContainsFunc__impl_Leaf_impl_Leaf_ls) 39 Go.Proofs.Try.f39 (encL slices_ContainsFunc__impl_Leaf_impl_Leaf_s.a v)).run = (slices_ContainsFunc__impl_Leaf_impl_Leaf_s.gen v).bind fun y => some (slices_ContainsFunc__impl_Leaf_impl_Leaf_s.out y) := by
  rintro ⟨s, ⟨⟨_, ⟨⟨_, _⟩, _⟩⟩, _⟩⟩
  show _ = (slices_ContainsFunc__impl_Leaf_impl_Leaf s).bind fun y : Bool => some (slices_ContainsFunc__impl_Leaf_impl_Leaf_s.out y)
  simp only [slices_ContainsFunc__impl_Leaf_impl_Leaf, kb_ite, kb_some, kb_none, kb_bind, kb_alt]
  kernel_rfl
theorem slices_ContainsFunc__impl_Leaf_impl_Leaf_is : FnIs Go.Proofs.Try.prog 39 (modeOf []) (phi [slices_ContainsFunc__impl_Leaf_impl_Leaf_s]) := spec_is (c := slices_ContainsFunc__impl_Leaf_impl_Leaf_c) seatOK slices_ContainsFunc__impl_Leaf_impl_Leaf_t Go.Proofs.Try.func39 rfl (code := slices_ContainsFunc__impl_Leaf_impl_Leaf_code) rfl rfl slices_ContainsFunc__impl_Leaf_impl_Leaf_rs slices_ContainsFunc__impl_Leaf_impl_Leaf_e
noncomputable def impl_areAll_impl_Leaf_s : Spec := ⟨[.v (.sl 31 (.pair (.pair (.int .i64) (.pair (.int .i64) (.unit))) (.pair (.pair (.int .i64) (.pair (.int .i64) (.unit))) (.unit)))) .fr, .fn 31 [] []], Bool, fun v => impl_areAll_impl_Leaf v.1, fun r => ([.v (.bool) .fr r], [])⟩
noncomputable def impl_areAll_impl_Leaf_ls : List LSum := []
noncomputable def impl_areAll_impl_Leaf_tab : List Row := [⟨39, [], [slices_ContainsFunc__impl_Leaf_impl_Leaf_s]⟩]
theorem impl_areAll_impl_Leaf_t : ∀ r, r ∈ impl_areAll_impl_Leaf_tab → RowIs Go.Proofs.Try.prog r := tab_cons (slices_ContainsFunc__impl_Leaf_impl_Leaf_is) (tab_nil)
theorem impl_areAll_impl_Leaf_rs : RoundsOK (mkCtx Go.K.Link.seat impl_areAll_impl_Leaf_c impl_areAll_impl_Leaf_tab) (sums impl_areAll_impl_Leaf_ls) (loopsOf 0 impl_areAll_impl_Leaf_code) impl_areAll_impl_Leaf_ls := trivial
theorem impl_areAll_impl_Leaf_e : ∀ v, (evFn (mkCtx Go.K.Link.seat impl_areAll_impl_Leaf_c impl_areAll_impl_Leaf_tab) (sums impl_areAll_impl_Leaf_ls) 50 Go.Proofs.Try.f50 (encL impl_areAll_impl_Leaf_s.a v)).run = (impl_areAll_impl_Leaf_s.gen v).bind fun y => some (impl_areAll_impl_Leaf_s.out y) := by
  rintro ⟨list, ⟨⟨_, _⟩, _⟩⟩
  show _ = (impl_areAll_impl_Leaf list).bind fun y : Bool => some (impl_areAll_impl_Leaf_s.out y)
  simp only [impl_areAll_impl_Leaf, kb_ite, kb_some, kb_none, kb_bind, kb_alt]
  kernel_rfl
theorem impl_areAll_impl_Leaf_is : FnIs Go.Proofs.Try.prog 50 (modeOf []) (phi [impl_areAll_impl_Leaf_s]) := spec_is (c := impl_areAll_impl_Leaf_c) seatOK impl_areAll_impl_Leaf_t Go.Proofs.Try.func50 rfl (code := impl_areAll_impl_Leaf_code) rfl rfl impl_areAll_impl_Leaf_rs impl_areAll_impl_Leaf_e
noncomputable def impl_leavesCode_s : Spec := ⟨[.v (.sl 31 (.pair (.pair (.int .i64) (.pair (.int .i64) (.unit))) (.pair (.pair (.int .i64) (.pair (.int .i64) (.unit))) (.unit)))) .fr], Int, fun v => impl_leavesCode v.1, fun r => ([.v (.int .i64) .fr r], [])⟩
noncomputable def impl_leavesCode_ls : List LSum := []
noncomputable def impl_leavesCode_tab : List Row := [⟨50, [], [impl_areAll_impl_Leaf_s]⟩]
theorem impl_leavesCode_t : ∀ r, r ∈ impl_leavesCode_tab → RowIs Go.Proofs.Try.prog r := tab_cons (impl_areAll_impl_Leaf_is) (tab_nil)
theorem impl_leavesCode_rs : RoundsOK (mkCtx Go.K.Link.seat impl_leavesCode_c impl_leavesCode_tab) (sums impl_leavesCode_ls) (loopsOf 0 impl_leavesCode_code) impl_leavesCode_ls := trivial
theorem impl_leavesCode_e : ∀ v, (evFn (mkCtx Go.K.Link.seat impl_leavesCode_c impl_leavesCode_tab) (sums impl_leavesCode_ls) 30 Go.Proofs.Try.f30 (encL impl_leavesCode_s.a v)).run = (impl_leavesCode_s.gen v).bind fun y => some (impl_leavesCode_s.out y) := by
  rintro ⟨list, _⟩
  show _ = (impl_leavesCode list).bind fun y : Int => some (impl_leavesCode_s.out y)
  simp only [impl_leavesCode, kb_ite, kb_some, kb_none, kb_bind, kb_alt]
  kernel_rfl
theorem impl_leavesCode_is : FnIs Go.Proofs.Try.prog 30 (modeOf []) (phi [impl_leavesCode_s]) := spec_is (c := impl_leavesCode_c) seatOK impl_leavesCode_t Go.Proofs.Try.func30 rfl (code := impl_leavesCode_code) rfl rfl impl_leavesCode_rs impl_leavesCode_e
noncomputable def impl_minorOf_code : Code := (Go.Proofs.Try.f32.body).getD .skip
def impl_minorOf_c : Cfg := ⟨32, [], [], [], [], [(999999, [2, 5])]⟩
noncomputable def impl_Leaf_isShort_code : Code := (Go.Proofs.Try.f53.body).getD .skip
def impl_Leaf_isShort_c : Cfg := ⟨53, [], [], [], [], []⟩
noncomputable def impl_Leaf_size_code : Code := (Go.Proofs.Try.f58.body).getD .skip
def impl_Leaf_size_c : Cfg := ⟨58, [], [], [], [], []⟩
noncomputable def impl_Angle_distance_code : Code := (Go.Proofs.Try.f89.body).getD .skip
def impl_Angle_distance_c : Cfg := ⟨89, [], [], [], [], []⟩
noncomputable def impl_Angle_minus_code : Code := (Go.Proofs.Try.f84.body).getD .skip
def impl_Angle_minus_c : Cfg := ⟨84, [], [], [], [], []⟩
noncomputable def impl_angle_code : Code := (Go.Proofs.Try.f103.body).getD .skip
def impl_angle_c : Cfg := ⟨103, [], [], [], [], []⟩
noncomputable def impl_angle_s : Spec := ⟨[.v (.int .i64) .fr, .v (.int .i64) .fr], (Int × (Int × Unit)), fun v => impl_angle v.1 v.2.1, fun r => ([.v (.pair (.int .i64) (.pair (.int .i64) (.unit))) .fr r], [])⟩
noncomputable def impl_angle_ls : List LSum := []
noncomputable def impl_angle_tab : List Row := [⟨79, [], [impl_divisor_s]⟩]
theorem impl_angle_t : ∀ r, r ∈ impl_angle_tab → RowIs Go.Proofs.Try.prog r := tab_cons (impl_divisor_is) (tab_nil)
theorem impl_angle_rs : RoundsOK (mkCtx Go.K.Link.seat impl_angle_c impl_angle_tab) (sums impl_angle_ls) (loopsOf 0 impl_angle_code) impl_angle_ls := trivial
theorem impl_angle_e : ∀ v, (evFn (mkCtx Go.K.Link.seat impl_angle_c impl_angle_tab) (sums impl_angle_ls) 103 Go.Proofs.Try.f103 (encL impl_angle_s.a v)).run = (impl_angle_s.gen v).bind fun y => some (impl_angle_s.out y) := by
  rintro ⟨num, ⟨den, _⟩⟩
  show _ = (impl_angle num den).bind fun y : (Int × (Int × Unit)) => some (impl_angle_s.out y)
  simp only [impl_angle, kb_ite, kb_some, kb_none, kb_bind, kb_alt]
  kernel_rfl
theorem impl_angle_is : FnIs Go.Proofs.Try.prog 103 (modeOf []) (phi [impl_angle_s]) := spec_is (c := impl_angle_c) seatOK impl_angle_t Go.Proofs.Try.func103 rfl (code := impl_angle_code) rfl rfl impl_angle_rs impl_angle_e
noncomputable def impl_Angle_minus_s : Spec := ⟨[.v (.pair (.int .i64) (.pair (.int .i64) (.unit))) .fr, .v (.pair (.int .i64) (.pair (.int .i64) (.unit))) .fr], (Int × (Int × Unit)), fun v => impl_Angle_minus v.1 v.2.1, fun r => ([.v (.pair (.int .i64) (.pair (.int .i64) (.unit))) .fr r], [])⟩
noncomputable def impl_Angle_minus_ls : List LSum := []
noncomputable def impl_Angle_minus_tab : List Row := [⟨103, [], [impl_angle_s]⟩]
theorem impl_Angle_minus_t : ∀ r, r ∈ impl_Angle_minus_tab → RowIs Go.Proofs.Try.prog r := tab_cons (impl_angle_is) (tab_nil)
theorem impl_Angle_minus_rs : RoundsOK (mkCtx Go.K.Link.seat impl_Angle_minus_c impl_Angle_minus_tab) (sums impl_Angle_minus_ls) (loopsOf 0 impl_Angle_minus_code) impl_Angle_minus_ls := trivial
theorem impl_Angle_minus_e : ∀ v, (evFn (mkCtx Go.K.Link.seat impl_Angle_minus_c impl_Angle_minus_tab) (sums impl_Angle_minus_ls) 84 Go.Proofs.Try.f84 (encL impl_Angle_minus_s.a v)).run = (impl_Angle_minus_s.gen v).bind fun y => some (impl_Angle_minus_s.out y) := by
  rintro ⟨a, ⟨b, _⟩⟩
  show _ = (impl_Angle_minus a b).bind fun y : (Int × (Int × Unit)) => some (impl_Angle_minus_s.out y)
  simp only [impl_Angle_minus, kb_ite, kb_some, kb_none, kb_bind, kb_alt]
  kernel_rfl
theorem impl_Angle_minus_is : FnIs Go.Proofs.Try.prog 84 (modeOf []) (phi [impl_Angle_minus_s]) := spec_is (c := impl_Angle_minus_c) seatOK impl_Angle_minus_t Go.Proofs.Try.func84 rfl (code := impl_Angle_minus_code) rfl rfl impl_Angle_minus_rs impl_Angle_minus_e
noncomputable def impl_Angle_distance_s : Spec := ⟨[.v (.pair (.int .i64) (.pair (.int .i64) (.unit))) .fr, .v (.pair (.int .i64) (.pair (.int .i64) (.unit))) .fr], (Int × (Int × Unit)), fun v => impl_Angle_distance v.1 v.2.1, fun r => ([.v (.pair (.int .i64) (.pair (.int .i64) (.unit))) .fr r], [])⟩
noncomputable def impl_Angle_distance_ls : List LSum := []
noncomputable def impl_Angle_distance_tab : List Row := [⟨84, [], [impl_Angle_minus_s]⟩, ⟨52, [], [impl_Angle_compare_s]⟩]
theorem impl_Angle_distance_t : ∀ r, r ∈ impl_Angle_distance_tab → RowIs Go.Proofs.Try.prog r := tab_cons (impl_Angle_minus_is) (tab_cons (impl_Angle_compare_is) (tab_nil))
theorem impl_Angle_distance_rs : RoundsOK (mkCtx Go.K.Link.seat impl_Angle_distance_c impl_Angle_distance_tab) (sums impl_Angle_distance_ls) (loopsOf 0 impl_Angle_distance_code) impl_Angle_distance_ls := trivial
theorem impl_Angle_distance_e : ∀ v, (evFn (mkCtx Go.K.Link.seat impl_Angle_distance_c impl_Angle_distance_tab) (sums impl_Angle_distance_ls) 89 Go.Proofs.Try.f89 (encL impl_Angle_distance_s.a v)).run = (impl_Angle_distance_s.gen v).bind fun y => some (impl_Angle_distance_s.out y) := by
  rintro ⟨a, ⟨b, _⟩⟩
  show _ = (impl_Angle_distance a b).bind fun y : (Int × (Int × Unit)) => some (impl_Angle_distance_s.out y)
  simp only [impl_Angle_distance, kb_ite, kb_some, kb_none, kb_bind, kb_alt]
  kernel_rfl
theorem impl_Angle_distance_is : FnIs Go.Proofs.Try.prog 89 (modeOf []) (phi [impl_Angle_distance_s]) := spec_is (c := impl_Angle_distance_c) seatOK impl_Angle_distance_t Go.Proofs.Try.func89 rfl (code := impl_Angle_distance_code) rfl rfl impl_Angle_distance_rs impl_Angle_distance_e
noncomputable def impl_Leaf_size_s : Spec := ⟨[.v (.pair (.pair (.int .i64) (.pair (.int .i64) (.unit))) (.pair (.pair (.int .i64) (.pair (.int .i64) (.unit))) (.unit))) .fr], (Int × (Int × Unit)), fun v => impl_Leaf_size v.1, fun r => ([.v (.pair (.int .i64) (.pair (.int .i64) (.unit))) .fr r], [])⟩
noncomputable def impl_Leaf_size_ls : List LSum := []
noncomputable def impl_Leaf_size_tab : List Row := [⟨89, [], [impl_Angle_distance_s]⟩]
theorem impl_Leaf_size_t : ∀ r, r ∈ impl_Leaf_size_tab → RowIs Go.Proofs.Try.prog r := tab_cons (impl_Angle_distance_is) (tab_nil)
theorem impl_Leaf_size_rs : RoundsOK (mkCtx Go.K.Link.seat impl_Leaf_size_c impl_Leaf_size_tab) (sums impl_Leaf_size_ls) (loopsOf 0 impl_Leaf_size_code) impl_Leaf_size_ls := trivial
theorem impl_Leaf_size_e : ∀ v, (evFn (mkCtx Go.K.Link.seat impl_Leaf_size_c impl_Leaf_size_tab) (sums impl_Leaf_size_ls) 58 Go.Proofs.Try.f58 (encL impl_Leaf_size_s.a v)).run = (impl_Leaf_size_s.gen v).bind fun y => some (impl_Leaf_size_s.out y) := by
  rintro ⟨l, _⟩
  show _ = (impl_Leaf_size l).bind fun y : (Int × (Int × Unit)) => some (impl_Leaf_size_s.out y)
  simp only [impl_Leaf_size, kb_ite, kb_some, kb_none, kb_bind, kb_alt]
  kernel_rfl
theorem impl_Leaf_size_is : FnIs Go.Proofs.Try.prog 58 (modeOf []) (phi [impl_Leaf_size_s]) := spec_is (c := impl_Leaf_size_c) seatOK impl_Leaf_size_t Go.Proofs.Try.func58 rfl (code := impl_Leaf_size_code) rfl rfl impl_Leaf_size_rs impl_Leaf_size_e
noncomputable def impl_Leaf_isShort_s : Spec := ⟨[.v (.pair (.pair (.int .i64) (.pair (.int .i64) (.unit))) (.pair (.pair (.int .i64) (.pair (.int .i64) (.unit))) (.unit))) .fr], Bool, fun v => impl_Leaf_isShort v.1, fun r => ([.v (.bool) .fr r], [])⟩
noncomputable def impl_Leaf_isShort_ls : List LSum := []
noncomputable def impl_Leaf_isShort_tab : List Row := [⟨52, [], [impl_Angle_compare_s]⟩, ⟨58, [], [impl_Leaf_size_s]⟩]
theorem impl_Leaf_isShort_t : ∀ r, r ∈ impl_Leaf_isShort_tab → RowIs Go.Proofs.Try.prog r := tab_cons (impl_Angle_compare_is) (tab_cons (impl_Leaf_size_is) (tab_nil))
theorem impl_Leaf_isShort_rs : RoundsOK (mkCtx Go.K.Link.seat impl_Leaf_isShort_c impl_Leaf_isShort_tab) (sums impl_Leaf_isShort_ls) (loopsOf 0 impl_Leaf_isShort_code) impl_Leaf_isShort_ls := trivial
theorem impl_Leaf_isShort_e : ∀ v, (evFn (mkCtx Go.K.Link.seat impl_Leaf_isShort_c impl_Leaf_isShort_tab) (sums impl_Leaf_isShort_ls) 53 Go.Proofs.Try.f53 (encL impl_Leaf_isShort_s.a v)).run = (impl_Leaf_isShort_s.gen v).bind fun y => some (impl_Leaf_isShort_s.out y) := by
  rintro ⟨l, _⟩
  show _ = (impl_Leaf_isShort l).bind fun y : Bool => some (impl_Leaf_isShort_s.out y)
  simp only [impl_Leaf_isShort, kb_ite, kb_some, kb_none, kb_bind, kb_alt]
  kernel_rfl
theorem impl_Leaf_isShort_is : FnIs Go.Proofs.Try.prog 53 (modeOf []) (phi [impl_Leaf_isShort_s]) := spec_is (c := impl_Leaf_isShort_c) seatOK impl_Leaf_isShort_t Go.Proofs.Try.func53 rfl (code := impl_Leaf_isShort_code) rfl rfl impl_Leaf_isShort_rs impl_Leaf_isShort_e
noncomputable def impl_Leaf_images_code : Code := (Go.Proofs.Try.f54.body).getD .skip
def impl_Leaf_images_c : Cfg := ⟨54, [], [[1, 4, 15, 20], [4, 15], [2, 3, 4, 15, 20]], [], [], []⟩
noncomputable def slices_Contains__impl_Leaf_impl_Leaf_code : Code := (Go.Proofs.Try.f81.body).getD .skip
def slices_Contains__impl_Leaf_impl_Leaf_c : Cfg := ⟨81, [], [], [], [], []⟩
noncomputable def slices_Index__impl_Leaf_impl_Leaf_code : Code := (Go.Proofs.Try.f100.body).getD .skip
def slices_Index__impl_Leaf_impl_Leaf_c : Cfg := ⟨100, [], [[0, 3, 7, 8], [], [4]], [], [], []⟩
noncomputable def slices_Index__impl_Leaf_impl_Leaf_l0_s : LSum := ⟨0, ⟨[(0, .val (.sl 31 (.pair (.pair (.int .i64) (.pair (.int .i64) (.unit))) (.pair (.pair (.int .i64) (.pair (.int .i64) (.unit))) (.unit)))) .fr), (2, .val (.ptr (.pair (.pair (.int .i64) (.pair (.int .i64) (.unit))) (.pair (.pair (.int .i64) (.pair (.int .i64) (.unit))) (.unit)))) (.own .fr)), (3, .val (.int .i64) .fr), (0, .val (.int .i64) .fr)], 10⟩, (.ret, ⟨[(4, .val (.int .i64) .fr)], 14⟩), [(.exit 0, ⟨[], 19⟩)], slices_Index__impl_Leaf_impl_Leaf_l0⟩
noncomputable def slices_Index__impl_Leaf_impl_Leaf_s : Spec := ⟨[.v (.sl 31 (.pair (.pair (.int .i64) (.pair (.int .i64) (.unit))) (.pair (.pair (.int .i64) (.pair (.int .i64) (.unit))) (.unit)))) .fr, .v (.pair (.pair (.int .i64) (.pair (.int .i64) (.unit))) (.pair (.pair (.int .i64) (.pair (.int .i64) (.unit))) (.unit))) .fr], Int, fun v => slices_Index__impl_Leaf_impl_Leaf v.1 v.2.1, fun r => ([.v (.int .i64) .fr r], [])⟩
noncomputable def slices_Index__impl_Leaf_impl_Leaf_ls : List LSum := [slices_Index__impl_Leaf_impl_Leaf_l0_s]
noncomputable def slices_Index__impl_Leaf_impl_Leaf_tab : List Row := []
theorem slices_Index__impl_Leaf_impl_Leaf_t : ∀ r, r ∈ slices_Index__impl_Leaf_impl_Leaf_tab → RowIs Go.Proofs.Try.prog r := tab_nil
theorem slices_Index__impl_Leaf_impl_Leaf_l0_r : RoundIs (mkCtx Go.K.Link.seat slices_Index__impl_Leaf_impl_Leaf_c slices_Index__impl_Leaf_impl_Leaf_tab) (sums slices_Index__impl_Leaf_impl_Leaf_ls) 0 (bodyAt (loopsOf 0 slices_Index__impl_Leaf_impl_Leaf_code) 0) slices_Index__impl_Leaf_impl_Leaf_l0_s := by
  rintro ⟨s, ⟨v, ⟨t7, ⟨t8, _⟩⟩⟩⟩
  show _ = (slices_Index__impl_Leaf_impl_Leaf_l0 (s, (v, (t7, (t8, ()))))).bind fun r : (Ctl ((List ((Int × (Int × Unit)) × ((Int × (Int × Unit)) × Unit))) × (((Int × (Int × Unit)) × ((Int × (Int × Unit)) × Unit))) × Int × Int × Unit) ((Int × Unit) ⊕ (Unit))) => some (ctlVal slices_Index__impl_Leaf_impl_Leaf_l0_s r)
  simp only [slices_Index__impl_Leaf_impl_Leaf_l0, kb_ite, kb_some, kb_none, kb_bind, kb_alt]
  kernel_rfl
theorem slices_Index__impl_Leaf_impl_Leaf_rs : RoundsOK (mkCtx Go.K.Link.seat slices_Index__impl_Leaf_impl_Leaf_c slices_Index__impl_Leaf_impl_Leaf_tab) (sums slices_Index__impl_Leaf_impl_Leaf_ls) (loopsOf 0 slices_Index__impl_Leaf_impl_Leaf_code) slices_Index__impl_Leaf_impl_Leaf_ls := ⟨⟨rfl, rfl, slices_Index__impl_Leaf_impl_Leaf_l0_r⟩, trivial⟩
theorem slices_Index__impl_Leaf_impl_Leaf_e : ∀ v, (evFn (mkCtx Go.K.Link.seat slices_Index__impl_Leaf_impl_Leaf_c slices_Index__impl_Leaf_impl_Leaf_tab) (sums slices_Index__impl_Leaf_impl_Leaf_ls) 100 Go.Proofs.Try.f100 (encL slices_Index__impl_Leaf_impl_Leaf_s.a v)).run = (slices_Index__impl_Leaf_impl_Leaf_s.gen v).bind fun y => some (slices_Index__impl_Leaf_impl_Leaf_s.out y) := by
  rintro ⟨s, ⟨v, _⟩⟩
  show _ = (slices_Index__impl_Leaf_impl_Leaf s v).bind fun y : Int => some (slices_Index__impl_Leaf_impl_Leaf_s.out y)
  simp only [slices_Index__impl_Leaf_impl_Leaf, kb_ite, kb_some, kb_none, kb_bind, kb_alt]
  kernel_rfl
theorem slices_Index__impl_Leaf_impl_Leaf_is : FnIs Go.Proofs.Try.prog 100 (modeOf []) (phi [slices_Index__impl_Leaf_impl_Leaf_s]) := spec_is (c := slices_Index__impl_Leaf_impl_Leaf_c) seatOK slices_Index__impl_Leaf_impl_Leaf_t Go.Proofs.Try.func100 rfl (code := slices_Index__impl_Leaf_impl_Leaf_code) rfl rfl slices_Index__impl_Leaf_impl_Leaf_rs slices_Index__impl_Leaf_impl_Leaf_e
noncomputable def slices_Contains__impl_Leaf_impl_Leaf_s : Spec := ⟨[.v (.sl 31 (.pair (.pair (.int .i64) (.pair (.int .i64) (.unit))) (.pair (.pair (.int .i64) (.pair (.int .i64) (.unit))) (.unit)))) .fr, .v (.pair (.pair (.int .i64) (.pair (.int .i64) (.unit))) (.pair (.pair (.int .i64) (.pair (.int .i64) (.unit))) (.unit))) .fr], Bool, fun v => slices_Contains__impl_Leaf_impl_Leaf v.1 v.2.1, fun r => ([.v (.bool) .fr r], [])⟩
noncomputable def slices_Contains__impl_Leaf_impl_Leaf_ls : List LSum := []
noncomputable def slices_Contains__impl_Leaf_impl_Leaf_tab : List Row := [⟨100, [], [slices_Index__impl_Leaf_impl_Leaf_s]⟩]
theorem slices_Contains__impl_Leaf_impl_Leaf_t : ∀ r, r ∈ slices_Contains__impl_Leaf_impl_Leaf_tab → RowIs Go.Proofs.Try.prog r := tab_cons (slices_Index__impl_Leaf_impl_Leaf_is) (tab_nil)
theorem slices_Contains__impl_Leaf_impl_Leaf_rs : RoundsOK (mkCtx Go.K.Link.seat slices_Contains__impl_Leaf_impl_Leaf_c slices_Contains__impl_Leaf_impl_Leaf_tab) (sums slices_Contains__impl_Leaf_impl_Leaf_ls) (loopsOf 0 slices_Contains__impl_Leaf_impl_Leaf_code) slices_Contains__impl_Leaf_impl_Leaf_ls := trivial
theorem slices_Contains__impl_Leaf_impl_Leaf_e : ∀ v, (evFn (mkCtx Go.K.Link.seat slices_Contains__impl_Leaf_impl_Leaf_c slices_Contains__impl_Leaf_impl_Leaf_tab) (sums slices_Contains__impl_Leaf_impl_Leaf_ls) 81 Go.Proofs.Try.f81 (encL slices_Contains__impl_Leaf_impl_Leaf_s.a v)).run = (slices_Contains__impl_Leaf_impl_Leaf_s.gen v).bind fun y => some (slices_Contains__impl_Leaf_impl_Leaf_s.out y) := by
  rintro ⟨s, ⟨v, _⟩⟩
  show _ = (slices_Contains__impl_Leaf_impl_Leaf s v).bind fun y : Bool => some (slices_Contains__impl_Leaf_impl_Leaf_s.out y)
  simp only [slices_Contains__impl_Leaf_impl_Leaf, kb_ite, kb_some, kb_none, kb_bind, kb_alt]
  kernel_rfl
theorem slices_Contains__impl_Leaf_impl_Leaf_is : FnIs Go.Proofs.Try.prog 81 (modeOf []) (phi [slices_Contains__impl_Leaf_impl_Leaf_s]) := spec_is (c := slices_Contains__impl_Leaf_impl_Leaf_c) seatOK slices_Contains__impl_Leaf_impl_Leaf_t Go.Proofs.Try.func81 rfl (code := slices_Contains__impl_Leaf_impl_Leaf_code) rfl rfl slices_Contains__impl_Leaf_impl_Leaf_rs slices_Contains__impl_Leaf_impl_Leaf_e
noncomputable def impl_Leaf_isDiameter_code : Code := (Go.Proofs.Try.f82.body).getD .skip
def impl_Leaf_isDiameter_c : Cfg := ⟨82, [], [], [], [], []⟩
noncomputable def impl_half_code : Code := (Go.Proofs.Try.f101.body).getD .skip
def impl_half_c : Cfg := ⟨101, [], [], [], [], []⟩
noncomputable def impl_half_s : Spec := ⟨[], (Int × (Int × Unit)), fun v => impl_half , fun r => ([.v (.pair (.int .i64) (.pair (.int .i64) (.unit))) .fr r], [])⟩
noncomputable def impl_half_ls : List LSum := []
noncomputable def impl_half_tab : List Row := []
theorem impl_half_t : ∀ r, r ∈ impl_half_tab → RowIs Go.Proofs.Try.prog r := tab_nil
theorem impl_half_rs : RoundsOK (mkCtx Go.K.Link.seat impl_half_c impl_half_tab) (sums impl_half_ls) (loopsOf 0 impl_half_code) impl_half_ls := trivial
theorem impl_half_e : ∀ v, (evFn (mkCtx Go.K.Link.seat impl_half_c impl_half_tab) (sums impl_half_ls) 101 Go.Proofs.Try.f101 (encL impl_half_s.a v)).run = (impl_half_s.gen v).bind fun y => some (impl_half_s.out y) := by
  rintro _
  show _ = (impl_half ).bind fun y : (Int × (Int × Unit)) => some (impl_half_s.out y)
  simp only [impl_half, kb_ite, kb_some, kb_none, kb_bind, kb_alt]
  kernel_rfl
theorem impl_half_is : FnIs Go.Proofs.Try.prog 101 (modeOf []) (phi [impl_half_s]) := spec_is (c := impl_half_c) seatOK impl_half_t Go.Proofs.Try.func101 rfl (code := impl_half_code) rfl rfl impl_half_rs impl_half_e
noncomputable def impl_Leaf_isDiameter_s : Spec := ⟨[.v (.pair (.pair (.int .i64) (.pair (.int .i64) (.unit))) (.pair (.pair (.int .i64) (.pair (.int .i64) (.unit))) (.unit))) .fr], Bool, fun v => impl_Leaf_isDiameter v.1, fun r => ([.v (.bool) .fr r], [])⟩
noncomputable def impl_Leaf_isDiameter_ls : List LSum := []
noncomputable def impl_Leaf_isDiameter_tab : List Row := [⟨58, [], [impl_Leaf_size_s]⟩, ⟨101, [], [impl_half_s]⟩]
theorem impl_Leaf_isDiameter_t : ∀ r, r ∈ impl_Leaf_isDiameter_tab → RowIs Go.Proofs.Try.prog r := tab_cons (impl_Leaf_size_is) (tab_cons (impl_half_is) (tab_nil))
theorem impl_Leaf_isDiameter_rs : RoundsOK (mkCtx Go.K.Link.seat impl_Leaf_isDiameter_c impl_Leaf_isDiameter_tab) (sums impl_Leaf_isDiameter_ls) (loopsOf 0 impl_Leaf_isDiameter_code) impl_Leaf_isDiameter_ls := trivial
theorem impl_Leaf_isDiameter_e : ∀ v, (evFn (mkCtx Go.K.Link.seat impl_Leaf_isDiameter_c impl_Leaf_isDiameter_tab) (sums impl_Leaf_isDiameter_ls) 82 Go.Proofs.Try.f82 (encL impl_Leaf_isDiameter_s.a v)).run = (impl_Leaf_isDiameter_s.gen v).bind fun y => some (impl_Leaf_isDiameter_s.out y) := by
  rintro ⟨l, _⟩
  show _ = (impl_Leaf_isDiameter l).bind fun y : Bool => some (impl_Leaf_isDiameter_s.out y)
  simp only [impl_Leaf_isDiameter, kb_ite, kb_some, kb_none, kb_bind, kb_alt]
  kernel_rfl
theorem impl_Leaf_isDiameter_is : FnIs Go.Proofs.Try.prog 82 (modeOf []) (phi [impl_Leaf_isDiameter_s]) := spec_is (c := impl_Leaf_isDiameter_c) seatOK impl_Leaf_isDiameter_t Go.Proofs.Try.func82 rfl (code := impl_Leaf_isDiameter_code) rfl rfl impl_Leaf_isDiameter_rs impl_Leaf_isDiameter_e
noncomputable def impl_Leaf_image_code : Code := (Go.Proofs.Try.f83.body).getD .skip
def impl_Leaf_image_c : Cfg := ⟨83, [], [], [], [], []⟩
noncomputable def impl_Angle_double_code : Code := (Go.Proofs.Try.f102.body).getD .skip
def impl_Angle_double_c : Cfg := ⟨102, [], [], [], [], []⟩
noncomputable def impl_Angle_double_s : Spec := ⟨[.v (.pair (.int .i64) (.pair (.int .i64) (.unit))) .fr], (Int × (Int × Unit)), fun v => impl_Angle_double v.1, fun r => ([.v (.pair (.int .i64) (.pair (.int .i64) (.unit))) .fr r], [])⟩
noncomputable def impl_Angle_double_ls : List LSum := []
noncomputable def impl_Angle_double_tab : List Row := [⟨103, [], [impl_angle_s]⟩]
theorem impl_Angle_double_t : ∀ r, r ∈ impl_Angle_double_tab → RowIs Go.Proofs.Try.prog r := tab_cons (impl_angle_is) (tab_nil)
theorem impl_Angle_double_rs : RoundsOK (mkCtx Go.K.Link.seat impl_Angle_double_c impl_Angle_double_tab) (sums impl_Angle_double_ls) (loopsOf 0 impl_Angle_double_code) impl_Angle_double_ls := trivial
theorem impl_Angle_double_e : ∀ v, (evFn (mkCtx Go.K.Link.seat impl_Angle_double_c impl_Angle_double_tab) (sums impl_Angle_double_ls) 102 Go.Proofs.Try.f102 (encL impl_Angle_double_s.a v)).run = (impl_Angle_double_s.gen v).bind fun y => some (impl_Angle_double_s.out y) := by
  rintro ⟨a, _⟩
  show _ = (impl_Angle_double a).bind fun y : (Int × (Int × Unit)) => some (impl_Angle_double_s.out y)
  simp only [impl_Angle_double, kb_ite, kb_some, kb_none, kb_bind, kb_alt]
  kernel_rfl
theorem impl_Angle_double_is : FnIs Go.Proofs.Try.prog 102 (modeOf []) (phi [impl_Angle_double_s]) := spec_is (c := impl_Angle_double_c) seatOK impl_Angle_double_t Go.Proofs.Try.func102 rfl (code := impl_Angle_double_code) rfl rfl impl_Angle_double_rs impl_Angle_double_e
noncomputable def impl_leaf_code : Code := (Go.Proofs.Try.f87.body).getD .skip
def impl_leaf_c : Cfg := ⟨87, [], [], [], [], []⟩
noncomputable def impl_leaf_s : Spec := ⟨[.v (.pair (.int .i64) (.pair (.int .i64) (.unit))) .fr, .v (.pair (.int .i64) (.pair (.int .i64) (.unit))) .fr], ((Int × (Int × Unit)) × ((Int × (Int × Unit)) × Unit)), fun v => impl_leaf v.1 v.2.1, fun r => ([.v (.pair (.pair (.int .i64) (.pair (.int .i64) (.unit))) (.pair (.pair (.int .i64) (.pair (.int .i64) (.unit))) (.unit))) .fr r], [])⟩
noncomputable def impl_leaf_ls : List LSum := []
noncomputable def impl_leaf_tab : List Row := [⟨52, [], [impl_Angle_compare_s]⟩]
theorem impl_leaf_t : ∀ r, r ∈ impl_leaf_tab → RowIs Go.Proofs.Try.prog r := tab_cons (impl_Angle_compare_is) (tab_nil)
theorem impl_leaf_rs : RoundsOK (mkCtx Go.K.Link.seat impl_leaf_c impl_leaf_tab) (sums impl_leaf_ls) (loopsOf 0 impl_leaf_code) impl_leaf_ls := trivial
theorem impl_leaf_e : ∀ v, (evFn (mkCtx Go.K.Link.seat impl_leaf_c impl_leaf_tab) (sums impl_leaf_ls) 87 Go.Proofs.Try.f87 (encL impl_leaf_s.a v)).run = (impl_leaf_s.gen v).bind fun y => some (impl_leaf_s.out y) := by
  rintro ⟨a, ⟨b, _⟩⟩
  show _ = (impl_leaf a b).bind fun y : ((Int × (Int × Unit)) × ((Int × (Int × Unit)) × Unit)) => some (impl_leaf_s.out y)
  simp only [impl_leaf, kb_ite, kb_some, kb_none, kb_bind, kb_alt]
  kernel_rfl
theorem impl_leaf_is : FnIs Go.Proofs.Try.prog 87 (modeOf []) (phi [impl_leaf_s]) := spec_is (c := impl_leaf_c) seatOK impl_leaf_t Go.Proofs.Try.func87 rfl (code := impl_leaf_code) rfl rfl impl_leaf_rs impl_leaf_e
noncomputable def impl_Leaf_image_s : Spec := ⟨[.v (.pair (.pair (.int .i64) (.pair (.int .i64) (.unit))) (.pair (.pair (.int .i64) (.pair (.int .i64) (.unit))) (.unit))) .fr], ((Int × (Int × Unit)) × ((Int × (Int × Unit)) × Unit)), fun v => impl_Leaf_image v.1, fun r => ([.v (.pair (.pair (.int .i64) (.pair (.int .i64) (.unit))) (.pair (.pair (.int .i64) (.pair (.int .i64) (.unit))) (.unit))) .fr r], [])⟩
noncomputable def impl_Leaf_image_ls : List LSum := []
noncomputable def impl_Leaf_image_tab : List Row := [⟨87, [], [impl_leaf_s]⟩, ⟨102, [], [impl_Angle_double_s]⟩]
theorem impl_Leaf_image_t : ∀ r, r ∈ impl_Leaf_image_tab → RowIs Go.Proofs.Try.prog r := tab_cons (impl_leaf_is) (tab_cons (impl_Angle_double_is) (tab_nil))
theorem impl_Leaf_image_rs : RoundsOK (mkCtx Go.K.Link.seat impl_Leaf_image_c impl_Leaf_image_tab) (sums impl_Leaf_image_ls) (loopsOf 0 impl_Leaf_image_code) impl_Leaf_image_ls := trivial
theorem impl_Leaf_image_e : ∀ v, (evFn (mkCtx Go.K.Link.seat impl_Leaf_image_c impl_Leaf_image_tab) (sums impl_Leaf_image_ls) 83 Go.Proofs.Try.f83 (encL impl_Leaf_image_s.a v)).run = (impl_Leaf_image_s.gen v).bind fun y => some (impl_Leaf_image_s.out y) := by
  rintro ⟨l, _⟩
  show _ = (impl_Leaf_image l).bind fun y : ((Int × (Int × Unit)) × ((Int × (Int × Unit)) × Unit)) => some (impl_Leaf_image_s.out y)
  simp only [impl_Leaf_image, kb_ite, kb_some, kb_none, kb_bind, kb_alt]
  kernel_rfl
theorem impl_Leaf_image_is : FnIs Go.Proofs.Try.prog 83 (modeOf []) (phi [impl_Leaf_image_s]) := spec_is (c := impl_Leaf_image_c) seatOK impl_Leaf_image_t Go.Proofs.Try.func83 rfl (code := impl_Leaf_image_code) rfl rfl impl_Leaf_image_rs impl_Leaf_image_e
noncomputable def impl_Leaf_images_l0_s : LSum := ⟨0, ⟨[(1, .val (.ptr (.pair (.pair (.int .i64) (.pair (.int .i64) (.unit))) (.pair (.pair (.int .i64) (.pair (.int .i64) (.unit))) (.unit)))) (.own .fr)), (2, .val (.sl 31 (.pair (.pair (.int .i64) (.pair (.int .i64) (.unit))) (.pair (.pair (.int .i64) (.pair (.int .i64) (.unit))) (.unit)))) (.own .fr))], 16⟩, (.ret, ⟨[(2, .val (.sl 31 (.pair (.pair (.int .i64) (.pair (.int .i64) (.unit))) (.pair (.pair (.int .i64) (.pair (.int .i64) (.unit))) (.unit)))) (.own .fr)), (0, .val (.bool) .fr), (0, .val (.sl 31 (.pair (.pair (.int .i64) (.pair (.int .i64) (.unit))) (.pair (.pair (.int .i64) (.pair (.int .i64) (.unit))) (.unit)))) (.own .fr))], 16⟩), [(.exit 0, ⟨[(4, .val (.sl 31 (.pair (.pair (.int .i64) (.pair (.int .i64) (.unit))) (.pair (.pair (.int .i64) (.pair (.int .i64) (.unit))) (.unit)))) (.own .fr))], 16⟩)], impl_Leaf_images_l0⟩
noncomputable def impl_Leaf_images_s : Spec := ⟨[.v (.pair (.pair (.int .i64) (.pair (.int .i64) (.unit))) (.pair (.pair (.int .i64) (.pair (.int .i64) (.unit))) (.unit))) .fr], (List ((Int × (Int × Unit)) × ((Int × (Int × Unit)) × Unit))) × Bool, fun v => impl_Leaf_images v.1, fun r => ([.v (.sl 31 (.pair (.pair (.int .i64) (.pair (.int .i64) (.unit))) (.pair (.pair (.int .i64) (.pair (.int .i64) (.unit))) (.unit)))) (.own .fr) r.1, .v (.bool) .fr r.2], [])⟩
noncomputable def impl_Leaf_images_ls : List LSum := [impl_Leaf_images_l0_s]
noncomputable def impl_Leaf_images_tab : List Row := [⟨81, [], [slices_Contains__impl_Leaf_impl_Leaf_s]⟩, ⟨82, [], [impl_Leaf_isDiameter_s]⟩, ⟨83, [], [impl_Leaf_image_s]⟩]
theorem impl_Leaf_images_t : ∀ r, r ∈ impl_Leaf_images_tab → RowIs Go.Proofs.Try.prog r := tab_cons (slices_Contains__impl_Leaf_impl_Leaf_is) (tab_cons (impl_Leaf_isDiameter_is) (tab_cons (impl_Leaf_image_is) (tab_nil)))
theorem impl_Leaf_images_l0_r : RoundIs (mkCtx Go.K.Link.seat impl_Leaf_images_c impl_Leaf_images_tab) (sums impl_Leaf_images_ls) 0 (bodyAt (loopsOf 0 impl_Leaf_images_code) 0) impl_Leaf_images_l0_s := by
  rintro ⟨l, ⟨out, _⟩⟩
  show _ = (impl_Leaf_images_l0 (l, (out, ()))).bind fun r : (Ctl ((((Int × (Int × Unit)) × ((Int × (Int × Unit)) × Unit))) × (List ((Int × (Int × Unit)) × ((Int × (Int × Unit)) × Unit))) × Unit) (((List ((Int × (Int × Unit)) × ((Int × (Int × Unit)) × Unit))) × Bool × (List ((Int × (Int × Unit)) × ((Int × (Int × Unit)) × Unit))) × Unit) ⊕ ((List ((Int × (Int × Unit)) × ((Int × (Int × Unit)) × Unit))) × Unit))) => some (ctlVal impl_Leaf_images_l0_s r)
  simp only [impl_Leaf_images_l0, kb_ite, kb_some, kb_none, kb_bind, kb_alt]
  kernel_rfl
theorem impl_Leaf_images_rs : RoundsOK (mkCtx Go.K.Link.seat impl_Leaf_images_c impl_Leaf_images_tab) (sums impl_Leaf_images_ls) (loopsOf 0 impl_Leaf_images_code) impl_Leaf_images_ls := ⟨⟨rfl, rfl, impl_Leaf_images_l0_r⟩, trivial⟩
theorem impl_Leaf_images_e : ∀ v, (evFn (mkCtx Go.K.Link.seat impl_Leaf_images_c impl_Leaf_images_tab) (sums impl_Leaf_images_ls) 54 Go.Proofs.Try.f54 (encL impl_Leaf_images_s.a v)).run = (impl_Leaf_images_s.gen v).bind fun y => some (impl_Leaf_images_s.out y) := by
  rintro ⟨l, _⟩
  show _ = (impl_Leaf_images l).bind fun y : (List ((Int × (Int × Unit)) × ((Int × (Int × Unit)) × Unit))) × Bool => some (impl_Leaf_images_s.out y)
  simp only [impl_Leaf_images, kb_ite, kb_some, kb_none, kb_bind, kb_alt]
  kernel_rfl
theorem impl_Leaf_images_is : FnIs Go.Proofs.Try.prog 54 (modeOf []) (phi [impl_Leaf_images_s]) := spec_is (c := impl_Leaf_images_c) seatOK impl_Leaf_images_t Go.Proofs.Try.func54 rfl (code := impl_Leaf_images_code) rfl rfl impl_Leaf_images_rs impl_Leaf_images_e
noncomputable def impl_Leaf_majors_code : Code := (Go.Proofs.Try.f55.body).getD .skip
def impl_Leaf_majors_c : Cfg := ⟨55, [], [], [], [], []⟩
noncomputable def impl_Angle_halves_code : Code := (Go.Proofs.Try.f85.body).getD .skip
def impl_Angle_halves_c : Cfg := ⟨85, [], [], [], [], []⟩
noncomputable def impl_Angle_halves_s : Spec := ⟨[.v (.pair (.int .i64) (.pair (.int .i64) (.unit))) .fr], (Int × (Int × Unit)) × (Int × (Int × Unit)), fun v => impl_Angle_halves v.1, fun r => ([.v (.pair (.int .i64) (.pair (.int .i64) (.unit))) .fr r.1, .v (.pair (.int .i64) (.pair (.int .i64) (.unit))) .fr r.2], [])⟩
noncomputable def impl_Angle_halves_ls : List LSum := []
noncomputable def impl_Angle_halves_tab : List Row := [⟨103, [], [impl_angle_s]⟩]
theorem impl_Angle_halves_t : ∀ r, r ∈ impl_Angle_halves_tab → RowIs Go.Proofs.Try.prog r := tab_cons (impl_angle_is) (tab_nil)
theorem impl_Angle_halves_rs : RoundsOK (mkCtx Go.K.Link.seat impl_Angle_halves_c impl_Angle_halves_tab) (sums impl_Angle_halves_ls) (loopsOf 0 impl_Angle_halves_code) impl_Angle_halves_ls := trivial
theorem impl_Angle_halves_e : ∀ v, (evFn (mkCtx Go.K.Link.seat impl_Angle_halves_c impl_Angle_halves_tab) (sums impl_Angle_halves_ls) 85 Go.Proofs.Try.f85 (encL impl_Angle_halves_s.a v)).run = (impl_Angle_halves_s.gen v).bind fun y => some (impl_Angle_halves_s.out y) := by
  rintro ⟨a, _⟩
  show _ = (impl_Angle_halves a).bind fun y : (Int × (Int × Unit)) × (Int × (Int × Unit)) => some (impl_Angle_halves_s.out y)
  simp only [impl_Angle_halves, kb_ite, kb_some, kb_none, kb_bind, kb_alt]
  kernel_rfl
theorem impl_Angle_halves_is : FnIs Go.Proofs.Try.prog 85 (modeOf []) (phi [impl_Angle_halves_s]) := spec_is (c := impl_Angle_halves_c) seatOK impl_Angle_halves_t Go.Proofs.Try.func85 rfl (code := impl_Angle_halves_code) rfl rfl impl_Angle_halves_rs impl_Angle_halves_e
noncomputable def impl_two_code : Code := (Go.Proofs.Try.f86.body).getD .skip
def impl_two_c : Cfg := ⟨86, [], [], [], [], []⟩
noncomputable def impl_Leaf_compare_code : Code := (Go.Proofs.Try.f61.body).getD .skip
def impl_Leaf_compare_c : Cfg := ⟨61, [], [], [], [], []⟩
noncomputable def cmp_Or_int_code : Code := (Go.Proofs.Try.f90.body).getD .skip
def cmp_Or_int_c : Cfg := ⟨90, [], [[0, 3, 6, 7, 8], [3], [2]], [], [], []⟩
noncomputable def cmp_Or_int_l0_s : LSum := ⟨0, ⟨[(0, .val (.sl 3 (.int .i64)) .fr), (2, .val (.int .i64) .fr), (2, .val (.sl 3 (.int .i64)) .fr), (0, .val (.int .i64) .fr), (0, .val (.int .i64) .fr)], 9⟩, (.ret, ⟨[(2, .val (.int .i64) .fr)], 15⟩), [(.exit 0, ⟨[(3, .val (.int .i64) .fr)], 14⟩)], cmp_Or_int_l0⟩
noncomputable def cmp_Or_int_s : Spec := ⟨[.v (.sl 3 (.int .i64)) .fr], Int, fun v => cmp_Or_int v.1, fun r => ([.v (.int .i64) .fr r], [])⟩
noncomputable def cmp_Or_int_ls : List LSum := [cmp_Or_int_l0_s]
noncomputable def cmp_Or_int_tab : List Row := []
theorem cmp_Or_int_t : ∀ r, r ∈ cmp_Or_int_tab → RowIs Go.Proofs.Try.prog r := tab_nil
theorem cmp_Or_int_l0_r : RoundIs (mkCtx Go.K.Link.seat cmp_Or_int_c cmp_Or_int_tab) (sums cmp_Or_int_ls) 0 (bodyAt (loopsOf 0 cmp_Or_int_code) 0) cmp_Or_int_l0_s := by
  rintro ⟨vals, ⟨zero, ⟨t6, ⟨t7, ⟨t8, _⟩⟩⟩⟩⟩
  show _ = (cmp_Or_int_l0 (vals, (zero, (t6, (t7, (t8, ())))))).bind fun r : (Ctl ((List Int) × Int × (List Int) × Int × Int × Unit) ((Int × Unit) ⊕ (Int × Unit))) => some (ctlVal cmp_Or_int_l0_s r)
  simp only [cmp_Or_int_l0, kb_ite, kb_some, kb_none, kb_bind, kb_alt]
  kernel_rfl
theorem cmp_Or_int_rs : RoundsOK (mkCtx Go.K.Link.seat cmp_Or_int_c cmp_Or_int_tab) (sums cmp_Or_int_ls) (loopsOf 0 cmp_Or_int_code) cmp_Or_int_ls := ⟨⟨rfl, rfl, cmp_Or_int_l0_r⟩, trivial⟩
theorem cmp_Or_int_e : ∀ v, (evFn (mkCtx Go.K.Link.seat cmp_Or_int_c cmp_Or_int_tab) (sums cmp_Or_int_ls) 90 Go.Proofs.Try.f90 (encL cmp_Or_int_s.a v)).run = (cmp_Or_int_s.gen v).bind fun y => some (cmp_Or_int_s.out y) := by
  rintro ⟨vals, _⟩
  show _ = (cmp_Or_int vals).bind fun y : Int => some (cmp_Or_int_s.out y)
  simp only [cmp_Or_int, kb_ite, kb_some, kb_none, kb_bind, kb_alt]
  kernel_rfl
theorem cmp_Or_int_is : FnIs Go.Proofs.Try.prog 90 (modeOf []) (phi [cmp_Or_int_s]) := spec_is (c := cmp_Or_int_c) seatOK cmp_Or_int_t Go.Proofs.Try.func90 rfl (code := cmp_Or_int_code) rfl rfl cmp_Or_int_rs cmp_Or_int_e
noncomputable def impl_Leaf_compare_s : Spec := ⟨[.v (.pair (.pair (.int .i64) (.pair (.int .i64) (.unit))) (.pair (.pair (.int .i64) (.pair (.int .i64) (.unit))) (.unit))) .fr, .v (.pair (.pair (.int .i64) (.pair (.int .i64) (.unit))) (.pair (.pair (.int .i64) (.pair (.int .i64) (.unit))) (.unit))) .fr], Int, fun v => impl_Leaf_compare v.1 v.2.1, fun r => ([.v (.int .i64) .fr r], [])⟩
noncomputable def impl_Leaf_compare_ls : List LSum := []
noncomputable def impl_Leaf_compare_tab : List Row := [⟨52, [], [impl_Angle_compare_s]⟩, ⟨90, [], [cmp_Or_int_s]⟩]
theorem impl_Leaf_compare_t : ∀ r, r ∈ impl_Leaf_compare_tab → RowIs Go.Proofs.Try.prog r := tab_cons (impl_Angle_compare_is) (tab_cons (cmp_Or_int_is) (tab_nil))
theorem impl_Leaf_compare_rs : RoundsOK (mkCtx Go.K.Link.seat impl_Leaf_compare_c impl_Leaf_compare_tab) (sums impl_Leaf_compare_ls) (loopsOf 0 impl_Leaf_compare_code) impl_Leaf_compare_ls := trivial
theorem impl_Leaf_compare_e : ∀ v, (evFn (mkCtx Go.K.Link.seat impl_Leaf_compare_c impl_Leaf_compare_tab) (sums impl_Leaf_compare_ls) 61 Go.Proofs.Try.f61 (encL impl_Leaf_compare_s.a v)).run = (impl_Leaf_compare_s.gen v).bind fun y => some (impl_Leaf_compare_s.out y) := by
  rintro ⟨l, ⟨m, _⟩⟩
  show _ = (impl_Leaf_compare l m).bind fun y : Int => some (impl_Leaf_compare_s.out y)
  simp only [impl_Leaf_compare, kb_ite, kb_some, kb_none, kb_bind, kb_alt]
  kernel_rfl
theorem impl_Leaf_compare_is : FnIs Go.Proofs.Try.prog 61 (modeOf []) (phi [impl_Leaf_compare_s]) := spec_is (c := impl_Leaf_compare_c) seatOK impl_Leaf_compare_t Go.Proofs.Try.func61 rfl (code := impl_Leaf_compare_code) rfl rfl impl_Leaf_compare_rs impl_Leaf_compare_e
noncomputable def impl_two_s : Spec := ⟨[.v (.pair (.pair (.int .i64) (.pair (.int .i64) (.unit))) (.pair (.pair (.int .i64) (.pair (.int .i64) (.unit))) (.unit))) .fr, .v (.pair (.pair (.int .i64) (.pair (.int .i64) (.unit))) (.pair (.pair (.int .i64) (.pair (.int .i64) (.unit))) (.unit))) .fr], (List ((Int × (Int × Unit)) × ((Int × (Int × Unit)) × Unit))), fun v => impl_two v.1 v.2.1, fun r => ([.v (.sl 31 (.pair (.pair (.int .i64) (.pair (.int .i64) (.unit))) (.pair (.pair (.int .i64) (.pair (.int .i64) (.unit))) (.unit)))) (.own .fr) r], [])⟩
noncomputable def impl_two_ls : List LSum := []
noncomputable def impl_two_tab : List Row := [⟨61, [], [impl_Leaf_compare_s]⟩]
theorem impl_two_t : ∀ r, r ∈ impl_two_tab → RowIs Go.Proofs.Try.prog r := tab_cons (impl_Leaf_compare_is) (tab_nil)
theorem impl_two_rs : RoundsOK (mkCtx Go.K.Link.seat impl_two_c impl_two_tab) (sums impl_two_ls) (loopsOf 0 impl_two_code) impl_two_ls := trivial
theorem impl_two_e : ∀ v, (evFn (mkCtx Go.K.Link.seat impl_two_c impl_two_tab) (sums impl_two_ls) 86 Go.Proofs.Try.f86 (encL impl_two_s.a v)).run = (impl_two_s.gen v).bind fun y => some (impl_two_s.out y) := by
  rintro ⟨l, ⟨m, _⟩⟩
  show _ = (impl_two l m).bind fun y : (List ((Int × (Int × Unit)) × ((Int × (Int × Unit)) × Unit))) => some (impl_two_s.out y)
  simp only [impl_two, kb_ite, kb_some, kb_none, kb_bind, kb_alt]
  kernel_rfl
theorem impl_two_is : FnIs Go.Proofs.Try.prog 86 (modeOf []) (phi [impl_two_s]) := spec_is (c := impl_two_c) seatOK impl_two_t Go.Proofs.Try.func86 rfl (code := impl_two_code) rfl rfl impl_two_rs impl_two_e
noncomputable def impl_areAll_impl_Leaf_v2_code : Code := (Go.Proofs.Try.f50.body).getD .skip
def impl_areAll_impl_Leaf_v2_c : Cfg := ⟨50, [], [], [], [], []⟩
noncomputable def slices_ContainsFunc__impl_Leaf_impl_Leaf_v2_code : Code := (Go.Proofs.Try.f39.body).getD .skip
def slices_ContainsFunc__impl_Leaf_impl_Leaf_v2_c : Cfg := ⟨39, [], [], [], [], []⟩
noncomputable def slices_IndexFunc__impl_Leaf_impl_Leaf_v2_code : Code := (Go.Proofs.Try.f66.body).getD .skip
def slices_IndexFunc__impl_Leaf_impl_Leaf_v2_c : Cfg := ⟨66, [], [[0, 1, 7, 8], [], [4]], [], [], []⟩
noncomputable def impl_areAll_impl_Leaf_f1_v2_code : Code := (Go.Proofs.Try.f78.body).getD .skip
def impl_areAll_impl_Leaf_f1_v2_c : Cfg := ⟨78, [], [], [], [], []⟩
noncomputable def impl_areLimited_f1_code : Code := (Go.Proofs.Try.f93.body).getD .skip
def impl_areLimited_f1_c : Cfg := ⟨93, [], [], [], [], []⟩
noncomputable def impl_areLimited_f1_s : Spec := ⟨[.v (.pair (.pair (.int .i64) (.pair (.int .i64) (.unit))) (.pair (.pair (.int .i64) (.pair (.int .i64) (.unit))) (.unit))) .fr], Bool, fun v => impl_areLimited_f1 v.1, fun r => ([.v (.bool) .fr r], [])⟩
noncomputable def impl_areLimited_f1_ls : List LSum := []
noncomputable def impl_areLimited_f1_tab : List Row := []
theorem impl_areLimited_f1_t : ∀ r, r ∈ impl_areLimited_f1_tab → RowIs Go.Proofs.Try.prog r := tab_nil
theorem impl_areLimited_f1_rs : RoundsOK (mkCtx Go.K.Link.seat impl_areLimited_f1_c impl_areLimited_f1_tab) (sums impl_areLimited_f1_ls) (loopsOf 0 impl_areLimited_f1_code) impl_areLimited_f1_ls := trivial
theorem impl_areLimited_f1_e : ∀ v, (evFn (mkCtx Go.K.Link.seat impl_areLimited_f1_c impl_areLimited_f1_tab) (sums impl_areLimited_f1_ls) 93 Go.Proofs.Try.f93 (encL impl_areLimited_f1_s.a v)).run = (impl_areLimited_f1_s.gen v).bind fun y => some (impl_areLimited_f1_s.out y) := by
  rintro ⟨l, _⟩
  show _ = (impl_areLimited_f1 l).bind fun y : Bool => some (impl_areLimited_f1_s.out y)
  simp only [impl_areLimited_f1, kb_ite, kb_some, kb_none, kb_bind, kb_alt]
  kernel_rfl
theorem impl_areLimited_f1_is : FnIs Go.Proofs.Try.prog 93 (modeOf []) (phi [impl_areLimited_f1_s]) := spec_is (c := impl_areLimited_f1_c) seatOK impl_areLimited_f1_t Go.Proofs.Try.func93 rfl (code := impl_areLimited_f1_code) rfl rfl impl_areLimited_f1_rs impl_areLimited_f1_e
noncomputable def impl_areAll_impl_Leaf_f1_v2_s : Spec := ⟨[.v (.pair (.pair (.int .i64) (.pair (.int .i64) (.unit))) (.pair (.pair (.int .i64) (.pair (.int .i64) (.unit))) (.unit))) .fr, .pfn 93 [] []], Bool, fun v => impl_areAll_impl_Leaf_f1_v2 v.1, fun r => ([.v (.bool) .fr r], [])⟩
noncomputable def impl_areAll_impl_Leaf_f1_v2_ls : List LSum := []
noncomputable def impl_areAll_impl_Leaf_f1_v2_tab : List Row := [⟨93, [], [impl_areLimited_f1_s]⟩]
theorem impl_areAll_impl_Leaf_f1_v2_t : ∀ r, r ∈ impl_areAll_impl_Leaf_f1_v2_tab → RowIs Go.Proofs.Try.prog r := tab_cons (impl_areLimited_f1_is) (tab_nil)
theorem impl_areAll_impl_Leaf_f1_v2_rs : RoundsOK (mkCtx Go.K.Link.seat impl_areAll_impl_Leaf_f1_v2_c impl_areAll_impl_Leaf_f1_v2_tab) (sums impl_areAll_impl_Leaf_f1_v2_ls) (loopsOf 0 impl_areAll_impl_Leaf_f1_v2_code) impl_areAll_impl_Leaf_f1_v2_ls := trivial
theorem impl_areAll_impl_Leaf_f1_v2_e : ∀ v, (evFn (mkCtx Go.K.Link.seat impl_areAll_impl_Leaf_f1_v2_c impl_areAll_impl_Leaf_f1_v2_tab) (sums impl_areAll_impl_Leaf_f1_v2_ls) 78 Go.Proofs.Try.f78 (encL impl_areAll_impl_Leaf_f1_v2_s.a v)).run = (impl_areAll_impl_Leaf_f1_v2_s.gen v).bind fun y => some (impl_areAll_impl_Leaf_f1_v2_s.out y) := by
  rintro ⟨x, ⟨⟨_, _⟩, _⟩⟩
  show _ = (impl_areAll_impl_Leaf_f1_v2 x).bind fun y : Bool => some (impl_areAll_impl_Leaf_f1_v2_s.out y)
  simp only [impl_areAll_impl_Leaf_f1_v2, kb_ite, kb_some, kb_none, kb_bind, kb_alt]
  kernel_rfl
theorem impl_areAll_impl_Leaf_f1_v2_is : FnIs Go.Proofs.Try.prog 78 (modeOf []) (phi [impl_areAll_impl_Leaf_f1_v2_s]) := spec_is (c := impl_areAll_impl_Leaf_f1_v2_c) seatOK impl_areAll_impl_Leaf_f1_v2_t Go.Proofs.Try.func78 rfl (code := impl_areAll_impl_Leaf_f1_v2_code) rfl rfl impl_areAll_impl_Leaf_f1_v2_rs impl_areAll_impl_Leaf_f1_v2_e
noncomputable def slices_IndexFunc__impl_Leaf_impl_Leaf_v2_l0_s : LSum := ⟨0, ⟨[(0, .val (.sl 31 (.pair (.pair (.int .i64) (.pair (.int .i64) (.unit))) (.pair (.pair (.int .i64) (.pair (.int .i64) (.unit))) (.unit)))) .fr), (0, .fnl 78 [] [.arg (.pfn 93 [] [])]), (5, .val (.int .i64) .fr), (0, .val (.int .i64) .fr)], 10⟩, (.ret, ⟨[(4, .val (.int .i64) .fr)], 14⟩), [(.exit 0, ⟨[], 19⟩)], slices_IndexFunc__impl_Leaf_impl_Leaf_v2_l0⟩
noncomputable def slices_IndexFunc__impl_Leaf_impl_Leaf_v2_s : Spec := ⟨[.v (.sl 31 (.pair (.pair (.int .i64) (.pair (.int .i64) (.unit))) (.pair (.pair (.int .i64) (.pair (.int .i64) (.unit))) (.unit)))) .fr, .fn 78 [] [.pfn 93 [] []]], Int, fun v => slices_IndexFunc__impl_Leaf_impl_Leaf_v2 v.1, fun r => ([.v (.int .i64) .fr r], [])⟩
noncomputable def slices_IndexFunc__impl_Leaf_impl_Leaf_v2_ls : List LSum := [slices_IndexFunc__impl_Leaf_impl_Leaf_v2_l0_s]
noncomputable def slices_IndexFunc__impl_Leaf_impl_Leaf_v2_tab : List Row := [⟨78, [], [impl_areAll_impl_Leaf_f1_v2_s]⟩]
theorem slices_IndexFunc__impl_Leaf_impl_Leaf_v2_t : ∀ r, r ∈ slices_IndexFunc__impl_Leaf_impl_Leaf_v2_tab → RowIs Go.Proofs.Try.prog r := tab_cons (impl_areAll_impl_Leaf_f1_v2_is) (tab_nil)
theorem slices_IndexFunc__impl_Leaf_impl_Leaf_v2_l0_r : RoundIs (mkCtx Go.K.Link.seat slices_IndexFunc__impl_Leaf_impl_Leaf_v2_c slices_IndexFunc__impl_Leaf_impl_Leaf_v2_tab) (sums slices_IndexFunc__impl_Leaf_impl_Leaf_v2_ls) 0 (bodyAt (loopsOf 0 slices_IndexFunc__impl_Leaf_impl_Leaf_v2_code) 0) slices_IndexFunc__impl_Leaf_impl_Leaf_v2_l0_s := by
  rintro ⟨s, ⟨_, ⟨⟨_, _⟩, _⟩, ⟨t7, ⟨t8, _⟩⟩⟩⟩
  show _ = (slices_IndexFunc__impl_Leaf_impl_Leaf_v2_l0 (s, ((), (((), ()), ()), (t7, (t8, ()))))).bind fun r : (Ctl ((List ((Int × (Int × Unit)) × ((Int × (Int × Unit)) × Unit))) × Unit × ((Unit × Unit) × Unit) × Int × Int × Unit) ((Int × Unit) ⊕ (Unit))) => some (ctlVal slices_IndexFunc__impl_Leaf_impl_Leaf_v2_l0_s r)
  simp only [slices_IndexFunc__impl_Leaf_impl_Leaf_v2_l0, kb_ite, kb_some, kb_none, kb_bind, kb_alt]
  kernel_rfl
theorem slices_IndexFunc__impl_Leaf_impl_Leaf_v2_rs : RoundsOK (mkCtx Go.K.Link.seat slices_IndexFunc__impl_Leaf_impl_Leaf_v2_c slices_IndexFunc__impl_Leaf_impl_Leaf_v2_tab) (sums slices_IndexFunc__impl_Leaf_impl_Leaf_v2_ls) (loopsOf 0 slices_IndexFunc__impl_Leaf_impl_Leaf_v2_code) slices_IndexFunc__impl_Leaf_impl_Leaf_v2_ls := ⟨⟨rfl, rfl, slices_IndexFunc__impl_Leaf_impl_Leaf_v2_l0_r⟩, trivial⟩
theorem slices_IndexFunc__impl_Leaf_impl_Leaf_v2_e : ∀ v, (evFn (mkCtx Go.K.Link.seat slices_IndexFunc__impl_Leaf_impl_Leaf_v2_c slices_IndexFunc__impl_Leaf_impl_Leaf_v2_tab) (sums slices_IndexFunc__impl_Leaf_impl_Leaf_v2_ls) 66 Go.Proofs.Try.f66 (encL slices_IndexFunc__impl_Leaf_impl_Leaf_v2_s.a v)).run = (slices_IndexFunc__impl_Leaf_impl_Leaf_v2_s.gen v).bind fun y => some (slices_IndexFunc__impl_Leaf_impl_Leaf_v2_s.out y) := by
  rintro ⟨s, ⟨⟨_, ⟨⟨_, _⟩, _⟩⟩, _⟩⟩
  show _ = (slices_IndexFunc__impl_Leaf_impl_Leaf_v2 s).bind fun y : Int => some (slices_IndexFunc__impl_Leaf_impl_Leaf_v2_s.out y)
  simp only [slices_IndexFunc__impl_Leaf_impl_Leaf_v2, kb_ite, kb_some, kb_none, kb_bind, kb_alt]
  kernel_rfl
theorem slices_IndexFunc__impl_Leaf_impl_Leaf_v2_is : FnIs Go.Proofs.Try.prog 66 (modeOf []) (phi [slices_IndexFunc__impl_Leaf_impl_Leaf_v2_s]) := spec_is (c := slices_IndexFunc__impl_Leaf_impl_Leaf_v2_c) seatOK slices_IndexFunc__impl_Leaf_impl_Leaf_v2_t Go.Proofs.Try.func66 rfl (code := slices_IndexFunc__impl_Leaf_impl_Leaf_v2_code) rfl rfl slices_IndexFunc__impl_Leaf_impl_Leaf_v2_rs slices_IndexFunc__impl_Leaf_impl_Leaf_v2_e
noncomputable def slices_ContainsFunc__impl_Leaf_impl_Leaf_v2_s : Spec := ⟨[.v (.sl 31 (.pair (.pair (.int .i64) (.pair (.int .i64) (.unit))) (.pair (.pair (.int .i64) (.pair (.int .i64) (.unit))) (.unit)))) .fr, .fn 78 [] [.pfn 93 [] []]], Bool, fun v => slices_ContainsFunc__impl_Leaf_impl_Leaf_v2 v.1, fun r => ([.v (.bool) .fr r], [])⟩
noncomputable def slices_ContainsFunc__impl_Leaf_impl_Leaf_v2_ls : List LSum := []
noncomputable def slices_ContainsFunc__impl_Leaf_impl_Leaf_v2_tab : List Row := [⟨66, [], [slices_IndexFunc__impl_Leaf_impl_Leaf_v2_s]⟩]
theorem slices_ContainsFunc__impl_Leaf_impl_Leaf_v2_t : ∀ r, r ∈ slices_ContainsFunc__impl_Leaf_impl_Leaf_v2_tab → RowIs Go.Proofs.Try.prog r := tab_cons (slices_IndexFunc__impl_Leaf_impl_Leaf_v2_is) (tab_nil)
theorem slices_ContainsFunc__impl_Leaf_impl_Leaf_v2_rs : RoundsOK (mkCtx Go.K.Link.seat slices_ContainsFunc__impl_Leaf_impl_Leaf_v2_c slices_ContainsFunc__impl_Leaf_impl_Leaf_v2_tab) (sums slices_ContainsFunc__impl_Leaf_impl_Leaf_v2_ls) (loopsOf 0 slices_ContainsFunc__impl_Leaf_impl_Leaf_v2_code) slices_ContainsFunc__impl_Leaf_impl_Leaf_v2_ls := trivial
theorem slices_ContainsFunc__impl_Leaf_impl_Leaf_v2_e : ∀ v, (evFn (mkCtx Go.K.Link.seat slices_ContainsFunc__impl_Leaf_impl_Leaf_v2_c slices_ContainsFunc__impl_Leaf_impl_Leaf_v2_tab) (sums slices_ContainsFunc__impl_Leaf_impl_Leaf_v2_ls) 39 Go.Proofs.Try.f39 (encL slices_ContainsFunc__impl_Leaf_impl_Leaf_v2_s.a v)).run = (slices_ContainsFunc__impl_Leaf_impl_Leaf_v2_s.gen v).bind fun y => some (slices_ContainsFunc__impl_Leaf_impl_Leaf_v2_s.out y) := by
  rintro ⟨s, ⟨⟨_, ⟨⟨_, _⟩, _⟩⟩, _⟩⟩
  show _ = (slices_ContainsFunc__impl_Leaf_impl_Leaf_v2 s).bind fun y : Bool => some (slices_ContainsFunc__impl_Leaf_impl_Leaf_v2_s.out y)
  simp only [slices_ContainsFunc__impl_Leaf_impl_Leaf_v2, kb_ite, kb_some, kb_none, kb_bind, kb_alt]
  kernel_rfl
theorem slices_ContainsFunc__impl_Leaf_impl_Leaf_v2_is : FnIs Go.Proofs.Try.prog 39 (modeOf []) (phi [slices_ContainsFunc__impl_Leaf_impl_Leaf_v2_s]) := spec_is (c := slices_ContainsFunc__impl_Leaf_impl_Leaf_v2_c) seatOK slices_ContainsFunc__impl_Leaf_impl_Leaf_v2_t Go.Proofs.Try.func39 rfl (code := slices_ContainsFunc__impl_Leaf_impl_Leaf_v2_code) rfl rfl slices_ContainsFunc__impl_Leaf_impl_Leaf_v2_rs slices_ContainsFunc__impl_Leaf_impl_Leaf_v2_e
noncomputable def impl_areAll_impl_Leaf_v2_s : Spec := ⟨[.v (.sl 31 (.pair (.pair (.int .i64) (.pair (.int .i64) (.unit))) (.pair (.pair (.int .i64) (.pair (.int .i64) (.unit))) (.unit)))) .fr, .fn 93 [] []], Bool, fun v => impl_areAll_impl_Leaf_v2 v.1, fun r => ([.v (.bool) .fr r], [])⟩
noncomputable def impl_areAll_impl_Leaf_v2_ls : List LSum := []
noncomputable def impl_areAll_impl_Leaf_v2_tab : List Row := [⟨39, [], [slices_ContainsFunc__impl_Leaf_impl_Leaf_v2_s]⟩]
theorem impl_areAll_impl_Leaf_v2_t : ∀ r, r ∈ impl_areAll_impl_Leaf_v2_tab → RowIs Go.Proofs.Try.prog r := tab_cons (slices_ContainsFunc__impl_Leaf_impl_Leaf_v2_is) (tab_nil)
theorem impl_areAll_impl_Leaf_v2_rs : RoundsOK (mkCtx Go.K.Link.seat impl_areAll_impl_Leaf_v2_c impl_areAll_impl_Leaf_v2_tab) (sums impl_areAll_impl_Leaf_v2_ls) (loopsOf 0 impl_areAll_impl_Leaf_v2_code) impl_areAll_impl_Leaf_v2_ls := trivial
theorem impl_areAll_impl_Leaf_v2_e : ∀ v, (evFn (mkCtx Go.K.Link.seat impl_areAll_impl_Leaf_v2_c impl_areAll_impl_Leaf_v2_tab) (sums impl_areAll_impl_Leaf_v2_ls) 50 Go.Proofs.Try.f50 (encL impl_areAll_impl_Leaf_v2_s.a v)).run = (impl_areAll_impl_Leaf_v2_s.gen v).bind fun y => some (impl_areAll_impl_Leaf_v2_s.out y) := by
  rintro ⟨list, ⟨⟨_, _⟩, _⟩⟩
  show _ = (impl_areAll_impl_Leaf_v2 list).bind fun y : Bool => some (impl_areAll_impl_Leaf_v2_s.out y)
  simp only [impl_areAll_impl_Leaf_v2, kb_ite, kb_some, kb_none, kb_bind, kb_alt]
  kernel_rfl
theorem impl_areAll_impl_Leaf_v2_is : FnIs Go.Proofs.Try.prog 50 (modeOf []) (phi [impl_areAll_impl_Leaf_v2_s]) := spec_is (c := impl_areAll_impl_Leaf_v2_c) seatOK impl_areAll_impl_Leaf_v2_t Go.Proofs.Try.func50 rfl (code := impl_areAll_impl_Leaf_v2_code) rfl rfl impl_areAll_impl_Leaf_v2_rs impl_areAll_impl_Leaf_v2_e
noncomputable def impl_areLimited_v2_code : Code := (Go.Proofs.Try.f64.body).getD .skip
def impl_areLimited_v2_c : Cfg := ⟨64, [], [], [], [0], []⟩
noncomputable def impl_areLimited_v2_s : Spec := ⟨[.v (.sl 31 (.pair (.pair (.int .i64) (.pair (.int .i64) (.unit))) (.pair (.pair (.int .i64) (.pair (.int .i64) (.unit))) (.unit)))) .fr], (List ((Int × (Int × Unit)) × ((Int × (Int × Unit)) × Unit))) × Int, fun v => impl_areLimited_v2 v.1, fun r => ([.v (.sl 31 (.pair (.pair (.int .i64) (.pair (.int .i64) (.unit))) (.pair (.pair (.int .i64) (.pair (.int .i64) (.unit))) (.unit)))) .fr r.1, .v (.int .i64) .fr r.2], [])⟩
noncomputable def impl_areLimited_v2_ls : List LSum := []
noncomputable def impl_areLimited_v2_tab : List Row := [⟨50, [], [impl_areAll_impl_Leaf_v2_s]⟩]
theorem impl_areLimited_v2_t : ∀ r, r ∈ impl_areLimited_v2_tab → RowIs Go.Proofs.Try.prog r := tab_cons (impl_areAll_impl_Leaf_v2_is) (tab_nil)
theorem impl_areLimited_v2_rs : RoundsOK (mkCtx Go.K.Link.seat impl_areLimited_v2_c impl_areLimited_v2_tab) (sums impl_areLimited_v2_ls) (loopsOf 0 impl_areLimited_v2_code) impl_areLimited_v2_ls := trivial
theorem impl_areLimited_v2_e : ∀ v, (evFn (mkCtx Go.K.Link.seat impl_areLimited_v2_c impl_areLimited_v2_tab) (sums impl_areLimited_v2_ls) 64 Go.Proofs.Try.f64 (encL impl_areLimited_v2_s.a v)).run = (impl_areLimited_v2_s.gen v).bind fun y => some (impl_areLimited_v2_s.out y) := by
  rintro ⟨list, _⟩
  show _ = (impl_areLimited_v2 list).bind fun y : (List ((Int × (Int × Unit)) × ((Int × (Int × Unit)) × Unit))) × Int => some (impl_areLimited_v2_s.out y)
  simp only [impl_areLimited_v2, kb_ite, kb_some, kb_none, kb_bind, kb_alt]
  kernel_rfl
theorem impl_areLimited_v2_is : FnIs Go.Proofs.Try.prog 64 (modeOf []) (phi [impl_areLimited_v2_s]) := spec_is (c := impl_areLimited_v2_c) seatOK impl_areLimited_v2_t Go.Proofs.Try.func64 rfl (code := impl_areLimited_v2_code) rfl rfl impl_areLimited_v2_rs impl_areLimited_v2_e
noncomputable def impl_Leaf_majors_s : Spec := ⟨[.v (.pair (.pair (.int .i64) (.pair (.int .i64) (.unit))) (.pair (.pair (.int .i64) (.pair (.int .i64) (.unit))) (.unit))) .fr], (List ((Int × (Int × Unit)) × ((Int × (Int × Unit)) × Unit))) × Int, fun v => impl_Leaf_majors v.1, fun r => ([.v (.sl 31 (.pair (.pair (.int .i64) (.pair (.int .i64) (.unit))) (.pair (.pair (.int .i64) (.pair (.int .i64) (.unit))) (.unit)))) .fr r.1, .v (.int .i64) .fr r.2], [])⟩
noncomputable def impl_Leaf_majors_ls : List LSum := []
noncomputable def impl_Leaf_majors_tab : List Row := [⟨58, [], [impl_Leaf_size_s]⟩, ⟨64, [], [impl_areLimited_v2_s]⟩, ⟨84, [], [impl_Angle_minus_s]⟩, ⟨85, [], [impl_Angle_halves_s]⟩, ⟨86, [], [impl_two_s]⟩, ⟨87, [], [impl_leaf_s]⟩]
theorem impl_Leaf_majors_t : ∀ r, r ∈ impl_Leaf_majors_tab → RowIs Go.Proofs.Try.prog r := tab_cons (impl_Leaf_size_is) (tab_cons (impl_areLimited_v2_is) (tab_cons (impl_Angle_minus_is) (tab_cons (impl_Angle_halves_is) (tab_cons (impl_two_is) (tab_cons (impl_leaf_is) (tab_nil))))))
theorem impl_Leaf_majors_rs : RoundsOK (mkCtx Go.K.Link.seat impl_Leaf_majors_c impl_Leaf_majors_tab) (sums impl_Leaf_majors_ls) (loopsOf 0 impl_Leaf_majors_code) impl_Leaf_majors_ls := trivial
theorem impl_Leaf_majors_e : ∀ v, (evFn (mkCtx Go.K.Link.seat impl_Leaf_majors_c impl_Leaf_majors_tab) (sums impl_Leaf_majors_ls) 55 Go.Proofs.Try.f55 (encL impl_Leaf_majors_s.a v)).run = (impl_Leaf_majors_s.gen v).bind fun y => some (impl_Leaf_majors_s.out y) := by
  rintro ⟨l, _⟩
  show _ = (impl_Leaf_majors l).bind fun y : (List ((Int × (Int × Unit)) × ((Int × (Int × Unit)) × Unit))) × Int => some (impl_Leaf_majors_s.out y)
  simp only [impl_Leaf_majors, kb_ite, kb_some, kb_none, kb_bind, kb_alt]
  kernel_rfl
theorem impl_Leaf_majors_is : FnIs Go.Proofs.Try.prog 55 (modeOf []) (phi [impl_Leaf_majors_s]) := spec_is (c := impl_Leaf_majors_c) seatOK impl_Leaf_majors_t Go.Proofs.Try.func55 rfl (code := impl_Leaf_majors_code) rfl rfl impl_Leaf_majors_rs impl_Leaf_majors_e
noncomputable def impl_haveCross_code : Code := (Go.Proofs.Try.f56.body).getD .skip
def impl_haveCross_c : Cfg := ⟨56, [], [], [], [], []⟩
noncomputable def slices_ContainsFunc__impl_Leaf_impl_Leaf_v3_code : Code := (Go.Proofs.Try.f39.body).getD .skip
def slices_ContainsFunc__impl_Leaf_impl_Leaf_v3_c : Cfg := ⟨39, [], [], [], [], []⟩
noncomputable def slices_IndexFunc__impl_Leaf_impl_Leaf_v3_code : Code := (Go.Proofs.Try.f66.body).getD .skip
def slices_IndexFunc__impl_Leaf_impl_Leaf_v3_c : Cfg := ⟨66, [], [[0, 1, 7, 8], [], [4]], [], [], []⟩
noncomputable def impl_haveCross_f1_code : Code := (Go.Proofs.Try.f88.body).getD .skip
def impl_haveCross_f1_c : Cfg := ⟨88, [], [], [], [], []⟩
noncomputable def slices_ContainsFunc__impl_Leaf_impl_Leaf_v4_code : Code := (Go.Proofs.Try.f39.body).getD .skip
def slices_ContainsFunc__impl_Leaf_impl_Leaf_v4_c : Cfg := ⟨39, [], [], [], [], []⟩
noncomputable def slices_IndexFunc__impl_Leaf_impl_Leaf_v4_code : Code := (Go.Proofs.Try.f66.body).getD .skip
def slices_IndexFunc__impl_Leaf_impl_Leaf_v4_c : Cfg := ⟨66, [], [[0, 1, 7, 8], [], [4]], [], [], []⟩
noncomputable def impl_Leaf_cross_code : Code := (Go.Proofs.Try.f40.body).getD .skip
def impl_Leaf_cross_c : Cfg := ⟨40, [], [], [], [], []⟩
noncomputable def impl_order_code : Code := (Go.Proofs.Try.f67.body).getD .skip
def impl_order_c : Cfg := ⟨67, [], [], [], [], []⟩
noncomputable def impl_order_s : Spec := ⟨[.v (.pair (.int .i64) (.pair (.int .i64) (.unit))) .fr, .v (.pair (.int .i64) (.pair (.int .i64) (.unit))) .fr, .v (.pair (.int .i64) (.pair (.int .i64) (.unit))) .fr], Int, fun v => impl_order v.1 v.2.1 v.2.2.1, fun r => ([.v (.int .i64) .fr r], [])⟩
noncomputable def impl_order_ls : List LSum := []
noncomputable def impl_order_tab : List Row := [⟨52, [], [impl_Angle_compare_s]⟩, ⟨84, [], [impl_Angle_minus_s]⟩]
theorem impl_order_t : ∀ r, r ∈ impl_order_tab → RowIs Go.Proofs.Try.prog r := tab_cons (impl_Angle_compare_is) (tab_cons (impl_Angle_minus_is) (tab_nil))
theorem impl_order_rs : RoundsOK (mkCtx Go.K.Link.seat impl_order_c impl_order_tab) (sums impl_order_ls) (loopsOf 0 impl_order_code) impl_order_ls := trivial
theorem impl_order_e : ∀ v, (evFn (mkCtx Go.K.Link.seat impl_order_c impl_order_tab) (sums impl_order_ls) 67 Go.Proofs.Try.f67 (encL impl_order_s.a v)).run = (impl_order_s.gen v).bind fun y => some (impl_order_s.out y) := by
  rintro ⟨a, ⟨b, ⟨c, _⟩⟩⟩
  show _ = (impl_order a b c).bind fun y : Int => some (impl_order_s.out y)
  simp only [impl_order, kb_ite, kb_some, kb_none, kb_bind, kb_alt]
  kernel_rfl
theorem impl_order_is : FnIs Go.Proofs.Try.prog 67 (modeOf []) (phi [impl_order_s]) := spec_is (c := impl_order_c) seatOK impl_order_t Go.Proofs.Try.func67 rfl (code := impl_order_code) rfl rfl impl_order_rs impl_order_e
noncomputable def impl_Leaf_cross_s : Spec := ⟨[.v (.pair (.pair (.int .i64) (.pair (.int .i64) (.unit))) (.pair (.pair (.int .i64) (.pair (.int .i64) (.unit))) (.unit))) .fr, .v (.pair (.pair (.int .i64) (.pair (.int .i64) (.unit))) (.pair (.pair (.int .i64) (.pair (.int .i64) (.unit))) (.unit))) .fr], Bool, fun v => impl_Leaf_cross v.1 v.2.1, fun r => ([.v (.bool) .fr r], [])⟩
noncomputable def impl_Leaf_cross_ls : List LSum := []
noncomputable def impl_Leaf_cross_tab : List Row := [⟨67, [], [impl_order_s]⟩]
theorem impl_Leaf_cross_t : ∀ r, r ∈ impl_Leaf_cross_tab → RowIs Go.Proofs.Try.prog r := tab_cons (impl_order_is) (tab_nil)
theorem impl_Leaf_cross_rs : RoundsOK (mkCtx Go.K.Link.seat impl_Leaf_cross_c impl_Leaf_cross_tab) (sums impl_Leaf_cross_ls) (loopsOf 0 impl_Leaf_cross_code) impl_Leaf_cross_ls := trivial
theorem impl_Leaf_cross_e : ∀ v, (evFn (mkCtx Go.K.Link.seat impl_Leaf_cross_c impl_Leaf_cross_tab) (sums impl_Leaf_cross_ls) 40 Go.Proofs.Try.f40 (encL impl_Leaf_cross_s.a v)).run = (impl_Leaf_cross_s.gen v).bind fun y => some (impl_Leaf_cross_s.out y) := by
  rintro ⟨l, ⟨m, _⟩⟩
  show _ = (impl_Leaf_cross l m).bind fun y : Bool => some (impl_Leaf_cross_s.out y)
  simp only [impl_Leaf_cross, kb_ite, kb_some, kb_none, kb_bind, kb_alt]
  kernel_rfl
theorem impl_Leaf_cross_is : FnIs Go.Proofs.Try.prog 40 (modeOf []) (phi [impl_Leaf_cross_s]) := spec_is (c := impl_Leaf_cross_c) seatOK impl_Leaf_cross_t Go.Proofs.Try.func40 rfl (code := impl_Leaf_cross_code) rfl rfl impl_Leaf_cross_rs impl_Leaf_cross_e
noncomputable def slices_IndexFunc__impl_Leaf_impl_Leaf_v4_l0_s : LSum := ⟨0, ⟨[(0, .val (.sl 31 (.pair (.pair (.int .i64) (.pair (.int .i64) (.unit))) (.pair (.pair (.int .i64) (.pair (.int .i64) (.unit))) (.unit)))) .fr), (0, .fnl 40 [.v (.pair (.pair (.int .i64) (.pair (.int .i64) (.unit))) (.pair (.pair (.int .i64) (.pair (.int .i64) (.unit))) (.unit))) .fr] []), (5, .val (.int .i64) .fr), (0, .val (.int .i64) .fr)], 10⟩, (.ret, ⟨[(4, .val (.int .i64) .fr)], 14⟩), [(.exit 0, ⟨[], 19⟩)], slices_IndexFunc__impl_Leaf_impl_Leaf_v4_l0⟩
noncomputable def slices_IndexFunc__impl_Leaf_impl_Leaf_v4_s : Spec := ⟨[.v (.sl 31 (.pair (.pair (.int .i64) (.pair (.int .i64) (.unit))) (.pair (.pair (.int .i64) (.pair (.int .i64) (.unit))) (.unit)))) .fr, .fn 40 [.v (.pair (.pair (.int .i64) (.pair (.int .i64) (.unit))) (.pair (.pair (.int .i64) (.pair (.int .i64) (.unit))) (.unit))) .fr] []], Int, fun v => slices_IndexFunc__impl_Leaf_impl_Leaf_v4 v.1 v.2.1.1.1, fun r => ([.v (.int .i64) .fr r], [])⟩
noncomputable def slices_IndexFunc__impl_Leaf_impl_Leaf_v4_ls : List LSum := [slices_IndexFunc__impl_Leaf_impl_Leaf_v4_l0_s]
noncomputable def slices_IndexFunc__impl_Leaf_impl_Leaf_v4_tab : List Row := [⟨40, [], [impl_Leaf_cross_s]⟩]
theorem slices_IndexFunc__impl_Leaf_impl_Leaf_v4_t : ∀ r, r ∈ slices_IndexFunc__impl_Leaf_impl_Leaf_v4_tab → RowIs Go.Proofs.Try.prog r := tab_cons (impl_Leaf_cross_is) (tab_nil)
theorem slices_IndexFunc__impl_Leaf_impl_Leaf_v4_l0_r : RoundIs (mkCtx Go.K.Link.seat slices_IndexFunc__impl_Leaf_impl_Leaf_v4_c slices_IndexFunc__impl_Leaf_impl_Leaf_v4_tab) (sums slices_IndexFunc__impl_Leaf_impl_Leaf_v4_ls) 0 (bodyAt (loopsOf 0 slices_IndexFunc__impl_Leaf_impl_Leaf_v4_code) 0) slices_IndexFunc__impl_Leaf_impl_Leaf_v4_l0_s := by
  rintro ⟨s, ⟨⟨f, _⟩, _, ⟨t7, ⟨t8, _⟩⟩⟩⟩
  show _ = (slices_IndexFunc__impl_Leaf_impl_Leaf_v4_l0 (s, ((f, ()), (), (t7, (t8, ()))))).bind fun r : (Ctl ((List ((Int × (Int × Unit)) × ((Int × (Int × Unit)) × Unit))) × (((Int × (Int × Unit)) × ((Int × (Int × Unit)) × Unit)) × Unit) × Unit × Int × Int × Unit) ((Int × Unit) ⊕ (Unit))) => some (ctlVal slices_IndexFunc__impl_Leaf_impl_Leaf_v4_l0_s r)
  simp only [slices_IndexFunc__impl_Leaf_impl_Leaf_v4_l0, kb_ite, kb_some, kb_none, kb_bind, kb_alt]
  kernel_rfl
theorem slices_IndexFunc__impl_Leaf_impl_Leaf_v4_rs : RoundsOK (mkCtx Go.K.Link.seat slices_IndexFunc__impl_Leaf_impl_Leaf_v4_c slices_IndexFunc__impl_Leaf_impl_Leaf_v4_tab) (sums slices_IndexFunc__impl_Leaf_impl_Leaf_v4_ls) (loopsOf 0 slices_IndexFunc__impl_Leaf_impl_Leaf_v4_code) slices_IndexFunc__impl_Leaf_impl_Leaf_v4_ls := ⟨⟨rfl, rfl, slices_IndexFunc__impl_Leaf_impl_Leaf_v4_l0_r⟩, trivial⟩
theorem slices_IndexFunc__impl_Leaf_impl_Leaf_v4_e : ∀ v, (evFn (mkCtx Go.K.Link.seat slices_IndexFunc__impl_Leaf_impl_Leaf_v4_c slices_IndexFunc__impl_Leaf_impl_Leaf_v4_tab) (sums slices_IndexFunc__impl_Leaf_impl_Leaf_v4_ls) 66 Go.Proofs.Try.f66 (encL slices_IndexFunc__impl_Leaf_impl_Leaf_v4_s.a v)).run = (slices_IndexFunc__impl_Leaf_impl_Leaf_v4_s.gen v).bind fun y => some (slices_IndexFunc__impl_Leaf_impl_Leaf_v4_s.out y) := by
  rintro ⟨s, ⟨⟨⟨f_0, _⟩, _⟩, _⟩⟩
  show _ = (slices_IndexFunc__impl_Leaf_impl_Leaf_v4 s f_0).bind fun y : Int => some (slices_IndexFunc__impl_Leaf_impl_Leaf_v4_s.out y)
  simp only [slices_IndexFunc__impl_Leaf_impl_Leaf_v4, kb_ite, kb_some, kb_none, kb_bind, kb_alt]
  kernel_rfl
theorem slices_IndexFunc__impl_Leaf_impl_Leaf_v4_is : FnIs Go.Proofs.Try.prog 66 (modeOf []) (phi [slices_IndexFunc__impl_Leaf_impl_Leaf_v4_s]) := spec_is (c := slices_IndexFunc__impl_Leaf_impl_Leaf_v4_c) seatOK slices_IndexFunc__impl_Leaf_impl_Leaf_v4_t Go.Proofs.Try.func66 rfl (code := slices_IndexFunc__impl_Leaf_impl_Leaf_v4_code) rfl rfl slices_IndexFunc__impl_Leaf_impl_Leaf_v4_rs slices_IndexFunc__impl_Leaf_impl_Leaf_v4_e
noncomputable def slices_ContainsFunc__impl_Leaf_impl_Leaf_v4_s : Spec := ⟨[.v (.sl 31 (.pair (.pair (.int .i64) (.pair (.int .i64) (.unit))) (.pair (.pair (.int .i64) (.pair (.int .i64) (.unit))) (.unit)))) .fr, .fn 40 [.v (.pair (.pair (.int .i64) (.pair (.int .i64) (.unit))) (.pair (.pair (.int .i64) (.pair (.int .i64) (.unit))) (.unit))) .fr] []], Bool, fun v => slices_ContainsFunc__impl_Leaf_impl_Leaf_v4 v.1 v.2.1.1.1, fun r => ([.v (.bool) .fr r], [])⟩
noncomputable def slices_ContainsFunc__impl_Leaf_impl_Leaf_v4_ls : List LSum := []
noncomputable def slices_ContainsFunc__impl_Leaf_impl_Leaf_v4_tab : List Row := [⟨66, [], [slices_IndexFunc__impl_Leaf_impl_Leaf_v4_s]⟩]
theorem slices_ContainsFunc__impl_Leaf_impl_Leaf_v4_t : ∀ r, r ∈ slices_ContainsFunc__impl_Leaf_impl_Leaf_v4_tab → RowIs Go.Proofs.Try.prog r := tab_cons (slices_IndexFunc__impl_Leaf_impl_Leaf_v4_is) (tab_nil)
theorem slices_ContainsFunc__impl_Leaf_impl_Leaf_v4_rs : RoundsOK (mkCtx Go.K.Link.seat slices_ContainsFunc__impl_Leaf_impl_Leaf_v4_c slices_ContainsFunc__impl_Leaf_impl_Leaf_v4_tab) (sums slices_ContainsFunc__impl_Leaf_impl_Leaf_v4_ls) (loopsOf 0 slices_ContainsFunc__impl_Leaf_impl_Leaf_v4_code) slices_ContainsFunc__impl_Leaf_impl_Leaf_v4_ls := trivial
theorem slices_ContainsFunc__impl_Leaf_impl_Leaf_v4_e : ∀ v, (evFn (mkCtx Go.K.Link.seat slices_ContainsFunc__impl_Leaf_impl_Leaf_v4_c slices_ContainsFunc__impl_Leaf_impl_Leaf_v4_tab) (sums slices_ContainsFunc__impl_Leaf_impl_Leaf_v4_ls) 39 Go.Proofs.Try.f39 (encL slices_ContainsFunc__impl_Leaf_impl_Leaf_v4_s.a v)).run = (slices_ContainsFunc__impl_Leaf_impl_Leaf_v4_s.gen v).bind fun y => some (slices_ContainsFunc__impl_Leaf_impl_Leaf_v4_s.out y) := by
  rintro ⟨s, ⟨⟨⟨f_0, _⟩, _⟩, _⟩⟩
  show _ = (slices_ContainsFunc__impl_Leaf_impl_Leaf_v4 s f_0).bind fun y : Bool => some (slices_ContainsFunc__impl_Leaf_impl_Leaf_v4_s.out y)
  simp only [slices_ContainsFunc__impl_Leaf_impl_Leaf_v4, kb_ite, kb_some, kb_none, kb_bind, kb_alt]
  kernel_rfl
theorem slices_ContainsFunc__impl_Leaf_impl_Leaf_v4_is : FnIs Go.Proofs.Try.prog 39 (modeOf []) (phi [slices_ContainsFunc__impl_Leaf_impl_Leaf_v4_s]) := spec_is (c := slices_ContainsFunc__impl_Leaf_impl_Leaf_v4_c) seatOK slices_ContainsFunc__impl_Leaf_impl_Leaf_v4_t Go.Proofs.Try.func39 rfl (code := slices_ContainsFunc__impl_Leaf_impl_Leaf_v4_code) rfl rfl slices_ContainsFunc__impl_Leaf_impl_Leaf_v4_rs slices_ContainsFunc__impl_Leaf_impl_Leaf_v4_e
noncomputable def impl_haveCross_f1_s : Spec := ⟨[.v (.pair (.pair (.int .i64) (.pair (.int .i64) (.unit))) (.pair (.pair (.int .i64) (.pair (.int .i64) (.unit))) (.unit))) .fr, .v (.ptr (.sl 31 (.pair (.pair (.int .i64) (.pair (.int .i64) (.unit))) (.pair (.pair (.int .i64) (.pair (.int .i64) (.unit))) (.unit))))) .fr], Bool, fun v => impl_haveCross_f1 v.1 v.2.1, fun r => ([.v (.bool) .fr r], [])⟩
noncomputable def impl_haveCross_f1_ls : List LSum := []
noncomputable def impl_haveCross_f1_tab : List Row := [⟨39, [], [slices_ContainsFunc__impl_Leaf_impl_Leaf_v4_s]⟩]
theorem impl_haveCross_f1_t : ∀ r, r ∈ impl_haveCross_f1_tab → RowIs Go.Proofs.Try.prog r := tab_cons (slices_ContainsFunc__impl_Leaf_impl_Leaf_v4_is) (tab_nil)
theorem impl_haveCross_f1_rs : RoundsOK (mkCtx Go.K.Link.seat impl_haveCross_f1_c impl_haveCross_f1_tab) (sums impl_haveCross_f1_ls) (loopsOf 0 impl_haveCross_f1_code) impl_haveCross_f1_ls := trivial
theorem impl_haveCross_f1_e : ∀ v, (evFn (mkCtx Go.K.Link.seat impl_haveCross_f1_c impl_haveCross_f1_tab) (sums impl_haveCross_f1_ls) 88 Go.Proofs.Try.f88 (encL impl_haveCross_f1_s.a v)).run = (impl_haveCross_f1_s.gen v).bind fun y => some (impl_haveCross_f1_s.out y) := by
  rintro ⟨l, ⟨t1, _⟩⟩
  show _ = (impl_haveCross_f1 l t1).bind fun y : Bool => some (impl_haveCross_f1_s.out y)
  simp only [impl_haveCross_f1, kb_ite, kb_some, kb_none, kb_bind, kb_alt]
  kernel_rfl
theorem impl_haveCross_f1_is : FnIs Go.Proofs.Try.prog 88 (modeOf []) (phi [impl_haveCross_f1_s]) := spec_is (c := impl_haveCross_f1_c) seatOK impl_haveCross_f1_t Go.Proofs.Try.func88 rfl (code := impl_haveCross_f1_code) rfl rfl impl_haveCross_f1_rs impl_haveCross_f1_e
noncomputable def slices_IndexFunc__impl_Leaf_impl_Leaf_v3_l0_s : LSum := ⟨0, ⟨[(0, .val (.sl 31 (.pair (.pair (.int .i64) (.pair (.int .i64) (.unit))) (.pair (.pair (.int .i64) (.pair (.int .i64) (.unit))) (.unit)))) .fr), (0, .fnl 88 [] [.arg (.v (.ptr (.sl 31 (.pair (.pair (.int .i64) (.pair (.int .i64) (.unit))) (.pair (.pair (.int .i64) (.pair (.int .i64) (.unit))) (.unit))))) .fr)]), (5, .val (.int .i64) .fr), (0, .val (.int .i64) .fr)], 10⟩, (.ret, ⟨[(4, .val (.int .i64) .fr)], 14⟩), [(.exit 0, ⟨[], 19⟩)], slices_IndexFunc__impl_Leaf_impl_Leaf_v3_l0⟩
noncomputable def slices_IndexFunc__impl_Leaf_impl_Leaf_v3_s : Spec := ⟨[.v (.sl 31 (.pair (.pair (.int .i64) (.pair (.int .i64) (.unit))) (.pair (.pair (.int .i64) (.pair (.int .i64) (.unit))) (.unit)))) .fr, .fn 88 [] [.v (.ptr (.sl 31 (.pair (.pair (.int .i64) (.pair (.int .i64) (.unit))) (.pair (.pair (.int .i64) (.pair (.int .i64) (.unit))) (.unit))))) .fr]], Int, fun v => slices_IndexFunc__impl_Leaf_impl_Leaf_v3 v.1 v.2.1.2.1, fun r => ([.v (.int .i64) .fr r], [])⟩
noncomputable def slices_IndexFunc__impl_Leaf_impl_Leaf_v3_ls : List LSum := [slices_IndexFunc__impl_Leaf_impl_Leaf_v3_l0_s]
noncomputable def slices_IndexFunc__impl_Leaf_impl_Leaf_v3_tab : List Row := [⟨88, [], [impl_haveCross_f1_s]⟩]
theorem slices_IndexFunc__impl_Leaf_impl_Leaf_v3_t : ∀ r, r ∈ slices_IndexFunc__impl_Leaf_impl_Leaf_v3_tab → RowIs Go.Proofs.Try.prog r := tab_cons (impl_haveCross_f1_is) (tab_nil)
theorem slices_IndexFunc__impl_Leaf_impl_Leaf_v3_l0_r : RoundIs (mkCtx Go.K.Link.seat slices_IndexFunc__impl_Leaf_impl_Leaf_v3_c slices_IndexFunc__impl_Leaf_impl_Leaf_v3_tab) (sums slices_IndexFunc__impl_Leaf_impl_Leaf_v3_ls) 0 (bodyAt (loopsOf 0 slices_IndexFunc__impl_Leaf_impl_Leaf_v3_code) 0) slices_IndexFunc__impl_Leaf_impl_Leaf_v3_l0_s := by
  rintro ⟨s, ⟨_, ⟨f, _⟩, ⟨t7, ⟨t8, _⟩⟩⟩⟩
  show _ = (slices_IndexFunc__impl_Leaf_impl_Leaf_v3_l0 (s, ((), (f, ()), (t7, (t8, ()))))).bind fun r : (Ctl ((List ((Int × (Int × Unit)) × ((Int × (Int × Unit)) × Unit))) × Unit × (List ((Int × (Int × Unit)) × ((Int × (Int × Unit)) × Unit)) × Unit) × Int × Int × Unit) ((Int × Unit) ⊕ (Unit))) => some (ctlVal slices_IndexFunc__impl_Leaf_impl_Leaf_v3_l0_s r)
  simp only [slices_IndexFunc__impl_Leaf_impl_Leaf_v3_l0, kb_ite, kb_some, kb_none, kb_bind, kb_alt]
  kernel_rfl
theorem slices_IndexFunc__impl_Leaf_impl_Leaf_v3_rs : RoundsOK (mkCtx Go.K.Link.seat slices_IndexFunc__impl_Leaf_impl_Leaf_v3_c slices_IndexFunc__impl_Leaf_impl_Leaf_v3_tab) (sums slices_IndexFunc__impl_Leaf_impl_Leaf_v3_ls) (loopsOf 0 slices_IndexFunc__impl_Leaf_impl_Leaf_v3_code) slices_IndexFunc__impl_Leaf_impl_Leaf_v3_ls := ⟨⟨rfl, rfl, slices_IndexFunc__impl_Leaf_impl_Leaf_v3_l0_r⟩, trivial⟩
theorem slices_IndexFunc__impl_Leaf_impl_Leaf_v3_e : ∀ v, (evFn (mkCtx Go.K.Link.seat slices_IndexFunc__impl_Leaf_impl_Leaf_v3_c slices_IndexFunc__impl_Leaf_impl_Leaf_v3_tab) (sums slices_IndexFunc__impl_Leaf_impl_Leaf_v3_ls) 66 Go.Proofs.Try.f66 (encL slices_IndexFunc__impl_Leaf_impl_Leaf_v3_s.a v)).run = (slices_IndexFunc__impl_Leaf_impl_Leaf_v3_s.gen v).bind fun y => some (slices_IndexFunc__impl_Leaf_impl_Leaf_v3_s.out y) := by
  rintro ⟨s, ⟨⟨_, ⟨f_0, _⟩⟩, _⟩⟩
  show _ = (slices_IndexFunc__impl_Leaf_impl_Leaf_v3 s f_0).bind fun y : Int => some (slices_IndexFunc__impl_Leaf_impl_Leaf_v3_s.out y)
  simp only [slices_IndexFunc__impl_Leaf_impl_Leaf_v3, kb_ite, kb_some, kb_none, kb_bind, kb_alt]
  kernel_rfl
theorem slices_IndexFunc__impl_Leaf_impl_Leaf_v3_is : FnIs Go.Proofs.Try.prog 66 (modeOf []) (phi [slices_IndexFunc__impl_Leaf_impl_Leaf_v3_s]) := spec_is (c := slices_IndexFunc__impl_Leaf_impl_Leaf_v3_c) seatOK slices_IndexFunc__impl_Leaf_impl_Leaf_v3_t Go.Proofs.Try.func66 rfl (code := slices_IndexFunc__impl_Leaf_impl_Leaf_v3_code) rfl rfl slices_IndexFunc__impl_Leaf_impl_Leaf_v3_rs slices_IndexFunc__impl_Leaf_impl_Leaf_v3_e
noncomputable def slices_ContainsFunc__impl_Leaf_impl_Leaf_v3_s : Spec := ⟨[.v (.sl 31 (.pair (.pair (.int .i64) (.pair (.int .i64) (.unit))) (.pair (.pair (.int .i64) (.pair (.int .i64) (.unit))) (.unit)))) .fr, .fn 88 [] [.v (.ptr (.sl 31 (.pair (.pair (.int .i64) (.pair (.int .i64) (.unit))) (.pair (.pair (.int .i64) (.pair (.int .i64) (.unit))) (.unit))))) .fr]], Bool, fun v => slices_ContainsFunc__impl_Leaf_impl_Leaf_v3 v.1 v.2.1.2.1, fun r => ([.v (.bool) .fr r], [])⟩
noncomputable def slices_ContainsFunc__impl_Leaf_impl_Leaf_v3_ls : List LSum := []
noncomputable def slices_ContainsFunc__impl_Leaf_impl_Leaf_v3_tab : List Row := [⟨66, [], [slices_IndexFunc__impl_Leaf_impl_Leaf_v3_s]⟩]
theorem slices_ContainsFunc__impl_Leaf_impl_Leaf_v3_t : ∀ r, r ∈ slices_ContainsFunc__impl_Leaf_impl_Leaf_v3_tab → RowIs Go.Proofs.Try.prog r := tab_cons (slices_IndexFunc__impl_Leaf_impl_Leaf_v3_is) (tab_nil)
theorem slices_ContainsFunc__impl_Leaf_impl_Leaf_v3_rs : RoundsOK (mkCtx Go.K.Link.seat slices_ContainsFunc__impl_Leaf_impl_Leaf_v3_c slices_ContainsFunc__impl_Leaf_impl_Leaf_v3_tab) (sums slices_ContainsFunc__impl_Leaf_impl_Leaf_v3_ls) (loopsOf 0 slices_ContainsFunc__impl_Leaf_impl_Leaf_v3_code) slices_ContainsFunc__impl_Leaf_impl_Leaf_v3_ls := trivial
theorem slices_ContainsFunc__impl_Leaf_impl_Leaf_v3_e : ∀ v, (evFn (mkCtx Go.K.Link.seat slices_ContainsFunc__impl_Leaf_impl_Leaf_v3_c slices_ContainsFunc__impl_Leaf_impl_Leaf_v3_tab) (sums slices_ContainsFunc__impl_Leaf_impl_Leaf_v3_ls) 39 Go.Proofs.Try.f39 (encL slices_ContainsFunc__impl_Leaf_impl_Leaf_v3_s.a v)).run = (slices_ContainsFunc__impl_Leaf_impl_Leaf_v3_s.gen v).bind fun y => some (slices_ContainsFunc__impl_Leaf_impl_Leaf_v3_s.out y) := by
  rintro ⟨s, ⟨⟨_, ⟨f_0, _⟩⟩, _⟩⟩
  show _ = (slices_ContainsFunc__impl_Leaf_impl_Leaf_v3 s f_0).bind fun y : Bool => some (slices_ContainsFunc__impl_Leaf_impl_Leaf_v3_s.out y)
  simp only [slices_ContainsFunc__impl_Leaf_impl_Leaf_v3, kb_ite, kb_some, kb_none, kb_bind, kb_alt]
  kernel_rfl
theorem slices_ContainsFunc__impl_Leaf_impl_Leaf_v3_is : FnIs Go.Proofs.Try.prog 39 (modeOf []) (phi [slices_ContainsFunc__impl_Leaf_impl_Leaf_v3_s]) := spec_is (c := slices_ContainsFunc__impl_Leaf_impl_Leaf_v3_c) seatOK slices_ContainsFunc__impl_Leaf_impl_Leaf_v3_t Go.Proofs.Try.func39 rfl (code := slices_ContainsFunc__impl_Leaf_impl_Leaf_v3_code) rfl rfl slices_ContainsFunc__impl_Leaf_impl_Leaf_v3_rs slices_ContainsFunc__impl_Leaf_impl_Leaf_v3_e
noncomputable def impl_haveCross_s : Spec := ⟨[.v (.sl 31 (.pair (.pair (.int .i64) (.pair (.int .i64) (.unit))) (.pair (.pair (.int .i64) (.pair (.int .i64) (.unit))) (.unit)))) .fr, .v (.sl 31 (.pair (.pair (.int .i64) (.pair (.int .i64) (.unit))) (.pair (.pair (.int .i64) (.pair (.int .i64) (.unit))) (.unit)))) .fr], Bool, fun v => impl_haveCross v.1 v.2.1, fun r => ([.v (.bool) .fr r], [])⟩
noncomputable def impl_haveCross_ls : List LSum := []
noncomputable def impl_haveCross_tab : List Row := [⟨39, [], [slices_ContainsFunc__impl_Leaf_impl_Leaf_v3_s]⟩]
theorem impl_haveCross_t : ∀ r, r ∈ impl_haveCross_tab → RowIs Go.Proofs.Try.prog r := tab_cons (slices_ContainsFunc__impl_Leaf_impl_Leaf_v3_is) (tab_nil)
theorem impl_haveCross_rs : RoundsOK (mkCtx Go.K.Link.seat impl_haveCross_c impl_haveCross_tab) (sums impl_haveCross_ls) (loopsOf 0 impl_haveCross_code) impl_haveCross_ls := trivial
theorem impl_haveCross_e : ∀ v, (evFn (mkCtx Go.K.Link.seat impl_haveCross_c impl_haveCross_tab) (sums impl_haveCross_ls) 56 Go.Proofs.Try.f56 (encL impl_haveCross_s.a v)).run = (impl_haveCross_s.gen v).bind fun y => some (impl_haveCross_s.out y) := by
  rintro ⟨list, ⟨other, _⟩⟩
  show _ = (impl_haveCross list other).bind fun y : Bool => some (impl_haveCross_s.out y)
  simp only [impl_haveCross, kb_ite, kb_some, kb_none, kb_bind, kb_alt]
  kernel_rfl
theorem impl_haveCross_is : FnIs Go.Proofs.Try.prog 56 (modeOf []) (phi [impl_haveCross_s]) := spec_is (c := impl_haveCross_c) seatOK impl_haveCross_t Go.Proofs.Try.func56 rfl (code := impl_haveCross_code) rfl rfl impl_haveCross_rs impl_haveCross_e
noncomputable def slices_ContainsFunc__impl_Leaf_impl_Leaf_v5_code : Code := (Go.Proofs.Try.f39.body).getD .skip
def slices_ContainsFunc__impl_Leaf_impl_Leaf_v5_c : Cfg := ⟨39, [], [], [], [], []⟩
noncomputable def slices_IndexFunc__impl_Leaf_impl_Leaf_v5_code : Code := (Go.Proofs.Try.f66.body).getD .skip
def slices_IndexFunc__impl_Leaf_impl_Leaf_v5_c : Cfg := ⟨66, [], [[0, 1, 7, 8], [], [4]], [], [], []⟩
noncomputable def impl_minorOf_f1_code : Code := (Go.Proofs.Try.f57.body).getD .skip
def impl_minorOf_f1_c : Cfg := ⟨57, [], [], [], [], []⟩
noncomputable def impl_minorOf_f1_s : Spec := ⟨[.v (.pair (.pair (.int .i64) (.pair (.int .i64) (.unit))) (.pair (.pair (.int .i64) (.pair (.int .i64) (.unit))) (.unit))) .fr, .v (.ptr (.pair (.pair (.int .i64) (.pair (.int .i64) (.unit))) (.pair (.pair (.int .i64) (.pair (.int .i64) (.unit))) (.unit)))) .fr], Bool, fun v => impl_minorOf_f1 v.1 v.2.1, fun r => ([.v (.bool) .fr r], [])⟩
noncomputable def impl_minorOf_f1_ls : List LSum := []
noncomputable def impl_minorOf_f1_tab : List Row := [⟨52, [], [impl_Angle_compare_s]⟩, ⟨58, [], [impl_Leaf_size_s]⟩]
theorem impl_minorOf_f1_t : ∀ r, r ∈ impl_minorOf_f1_tab → RowIs Go.Proofs.Try.prog r := tab_cons (impl_Angle_compare_is) (tab_cons (impl_Leaf_size_is) (tab_nil))
theorem impl_minorOf_f1_rs : RoundsOK (mkCtx Go.K.Link.seat impl_minorOf_f1_c impl_minorOf_f1_tab) (sums impl_minorOf_f1_ls) (loopsOf 0 impl_minorOf_f1_code) impl_minorOf_f1_ls := trivial
theorem impl_minorOf_f1_e : ∀ v, (evFn (mkCtx Go.K.Link.seat impl_minorOf_f1_c impl_minorOf_f1_tab) (sums impl_minorOf_f1_ls) 57 Go.Proofs.Try.f57 (encL impl_minorOf_f1_s.a v)).run = (impl_minorOf_f1_s.gen v).bind fun y => some (impl_minorOf_f1_s.out y) := by
  rintro ⟨l, ⟨t1, _⟩⟩
  show _ = (impl_minorOf_f1 l t1).bind fun y : Bool => some (impl_minorOf_f1_s.out y)
  simp only [impl_minorOf_f1, kb_ite, kb_some, kb_none, kb_bind, kb_alt]
  kernel_rfl
theorem impl_minorOf_f1_is : FnIs Go.Proofs.Try.prog 57 (modeOf []) (phi [impl_minorOf_f1_s]) := spec_is (c := impl_minorOf_f1_c) seatOK impl_minorOf_f1_t Go.Proofs.Try.func57 rfl (code := impl_minorOf_f1_code) rfl rfl impl_minorOf_f1_rs impl_minorOf_f1_e
noncomputable def slices_IndexFunc__impl_Leaf_impl_Leaf_v5_l0_s : LSum := ⟨0, ⟨[(0, .val (.sl 31 (.pair (.pair (.int .i64) (.pair (.int .i64) (.unit))) (.pair (.pair (.int .i64) (.pair (.int .i64) (.unit))) (.unit)))) .fr), (0, .fnl 57 [] [.arg (.v (.ptr (.pair (.pair (.int .i64) (.pair (.int .i64) (.unit))) (.pair (.pair (.int .i64) (.pair (.int .i64) (.unit))) (.unit)))) .fr)]), (5, .val (.int .i64) .fr), (0, .val (.int .i64) .fr)], 10⟩, (.ret, ⟨[(4, .val (.int .i64) .fr)], 14⟩), [(.exit 0, ⟨[], 19⟩)], slices_IndexFunc__impl_Leaf_impl_Leaf_v5_l0⟩
noncomputable def slices_IndexFunc__impl_Leaf_impl_Leaf_v5_s : Spec := ⟨[.v (.sl 31 (.pair (.pair (.int .i64) (.pair (.int .i64) (.unit))) (.pair (.pair (.int .i64) (.pair (.int .i64) (.unit))) (.unit)))) .fr, .fn 57 [] [.v (.ptr (.pair (.pair (.int .i64) (.pair (.int .i64) (.unit))) (.pair (.pair (.int .i64) (.pair (.int .i64) (.unit))) (.unit)))) .fr]], Int, fun v => slices_IndexFunc__impl_Leaf_impl_Leaf_v5 v.1 v.2.1.2.1, fun r => ([.v (.int .i64) .fr r], [])⟩
noncomputable def slices_IndexFunc__impl_Leaf_impl_Leaf_v5_ls : List LSum := [slices_IndexFunc__impl_Leaf_impl_Leaf_v5_l0_s]
noncomputable def slices_IndexFunc__impl_Leaf_impl_Leaf_v5_tab : List Row := [⟨57, [], [impl_minorOf_f1_s]⟩]
theorem slices_IndexFunc__impl_Leaf_impl_Leaf_v5_t : ∀ r, r ∈ slices_IndexFunc__impl_Leaf_impl_Leaf_v5_tab → RowIs Go.Proofs.Try.prog r := tab_cons (impl_minorOf_f1_is) (tab_nil)
theorem slices_IndexFunc__impl_Leaf_impl_Leaf_v5_l0_r : RoundIs (mkCtx Go.K.Link.seat slices_IndexFunc__impl_Leaf_impl_Leaf_v5_c slices_IndexFunc__impl_Leaf_impl_Leaf_v5_tab) (sums slices_IndexFunc__impl_Leaf_impl_Leaf_v5_ls) 0 (bodyAt (loopsOf 0 slices_IndexFunc__impl_Leaf_impl_Leaf_v5_code) 0) slices_IndexFunc__impl_Leaf_impl_Leaf_v5_l0_s := by
  rintro ⟨s, ⟨_, ⟨f, _⟩, ⟨t7, ⟨t8, _⟩⟩⟩⟩
  show _ = (slices_IndexFunc__impl_Leaf_impl_Leaf_v5_l0 (s, ((), (f, ()), (t7, (t8, ()))))).bind fun r : (Ctl ((List ((Int × (Int × Unit)) × ((Int × (Int × Unit)) × Unit))) × Unit × (((Int × (Int × Unit)) × ((Int × (Int × Unit)) × Unit)) × Unit) × Int × Int × Unit) ((Int × Unit) ⊕ (Unit))) => some (ctlVal slices_IndexFunc__impl_Leaf_impl_Leaf_v5_l0_s r)
  simp only [slices_IndexFunc__impl_Leaf_impl_Leaf_v5_l0, kb_ite, kb_some, kb_none, kb_bind, kb_alt]
  kernel_rfl
theorem slices_IndexFunc__impl_Leaf_impl_Leaf_v5_rs : RoundsOK (mkCtx Go.K.Link.seat slices_IndexFunc__impl_Leaf_impl_Leaf_v5_c slices_IndexFunc__impl_Leaf_impl_Leaf_v5_tab) (sums slices_IndexFunc__impl_Leaf_impl_Leaf_v5_ls) (loopsOf 0 slices_IndexFunc__impl_Leaf_impl_Leaf_v5_code) slices_IndexFunc__impl_Leaf_impl_Leaf_v5_ls := ⟨⟨rfl, rfl, slices_IndexFunc__impl_Leaf_impl_Leaf_v5_l0_r⟩, trivial⟩
theorem slices_IndexFunc__impl_Leaf_impl_Leaf_v5_e : ∀ v, (evFn (mkCtx Go.K.Link.seat slices_IndexFunc__impl_Leaf_impl_Leaf_v5_c slices_IndexFunc__impl_Leaf_impl_Leaf_v5_tab) (sums slices_IndexFunc__impl_Leaf_impl_Leaf_v5_ls) 66 Go.Proofs.Try.f66 (encL slices_IndexFunc__impl_Leaf_impl_Leaf_v5_s.a v)).run = (slices_IndexFunc__impl_Leaf_impl_Leaf_v5_s.gen v).bind fun y => some (slices_IndexFunc__impl_Leaf_impl_Leaf_v5_s.out y) := by
  rintro ⟨s, ⟨⟨_, ⟨f_0, _⟩⟩, _⟩⟩
  show _ = (slices_IndexFunc__impl_Leaf_impl_Leaf_v5 s f_0).bind fun y : Int => some (slices_IndexFunc__impl_Leaf_impl_Leaf_v5_s.out y)
  simp only [slices_IndexFunc__impl_Leaf_impl_Leaf_v5, kb_ite, kb_some, kb_none, kb_bind, kb_alt]
  kernel_rfl
theorem slices_IndexFunc__impl_Leaf_impl_Leaf_v5_is : FnIs Go.Proofs.Try.prog 66 (modeOf []) (phi [slices_IndexFunc__impl_Leaf_impl_Leaf_v5_s]) := spec_is (c := slices_IndexFunc__impl_Leaf_impl_Leaf_v5_c) seatOK slices_IndexFunc__impl_Leaf_impl_Leaf_v5_t Go.Proofs.Try.func66 rfl (code := slices_IndexFunc__impl_Leaf_impl_Leaf_v5_code) rfl rfl slices_IndexFunc__impl_Leaf_impl_Leaf_v5_rs slices_IndexFunc__impl_Leaf_impl_Leaf_v5_e
noncomputable def slices_ContainsFunc__impl_Leaf_impl_Leaf_v5_s : Spec := ⟨[.v (.sl 31 (.pair (.pair (.int .i64) (.pair (.int .i64) (.unit))) (.pair (.pair (.int .i64) (.pair (.int .i64) (.unit))) (.unit)))) .fr, .fn 57 [] [.v (.ptr (.pair (.pair (.int .i64) (.pair (.int .i64) (.unit))) (.pair (.pair (.int .i64) (.pair (.int .i64) (.unit))) (.unit)))) .fr]], Bool, fun v => slices_ContainsFunc__impl_Leaf_impl_Leaf_v5 v.1 v.2.1.2.1, fun r => ([.v (.bool) .fr r], [])⟩
noncomputable def slices_ContainsFunc__impl_Leaf_impl_Leaf_v5_ls : List LSum := []
noncomputable def slices_ContainsFunc__impl_Leaf_impl_Leaf_v5_tab : List Row := [⟨66, [], [slices_IndexFunc__impl_Leaf_impl_Leaf_v5_s]⟩]
theorem slices_ContainsFunc__impl_Leaf_impl_Leaf_v5_t : ∀ r, r ∈ slices_ContainsFunc__impl_Leaf_impl_Leaf_v5_tab → RowIs Go.Proofs.Try.prog r := tab_cons (slices_IndexFunc__impl_Leaf_impl_Leaf_v5_is) (tab_nil)
theorem slices_ContainsFunc__impl_Leaf_impl_Leaf_v5_rs : RoundsOK (mkCtx Go.K.Link.seat slices_ContainsFunc__impl_Leaf_impl_Leaf_v5_c slices_ContainsFunc__impl_Leaf_impl_Leaf_v5_tab) (sums slices_ContainsFunc__impl_Leaf_impl_Leaf_v5_ls) (loopsOf 0 slices_ContainsFunc__impl_Leaf_impl_Leaf_v5_code) slices_ContainsFunc__impl_Leaf_impl_Leaf_v5_ls := trivial
theorem slices_ContainsFunc__impl_Leaf_impl_Leaf_v5_e : ∀ v, (evFn (mkCtx Go.K.Link.seat slices_ContainsFunc__impl_Leaf_impl_Leaf_v5_c slices_ContainsFunc__impl_Leaf_impl_Leaf_v5_tab) (sums slices_ContainsFunc__impl_Leaf_impl_Leaf_v5_ls) 39 Go.Proofs.Try.f39 (encL slices_ContainsFunc__impl_Leaf_impl_Leaf_v5_s.a v)).run = (slices_ContainsFunc__impl_Leaf_impl_Leaf_v5_s.gen v).bind fun y => some (slices_ContainsFunc__impl_Leaf_impl_Leaf_v5_s.out y) := by
  rintro ⟨s, ⟨⟨_, ⟨f_0, _⟩⟩, _⟩⟩
  show _ = (slices_ContainsFunc__impl_Leaf_impl_Leaf_v5 s f_0).bind fun y : Bool => some (slices_ContainsFunc__impl_Leaf_impl_Leaf_v5_s.out y)
  simp only [slices_ContainsFunc__impl_Leaf_impl_Leaf_v5, kb_ite, kb_some, kb_none, kb_bind, kb_alt]
  kernel_rfl
theorem slices_ContainsFunc__impl_Leaf_impl_Leaf_v5_is : FnIs Go.Proofs.Try.prog 39 (modeOf []) (phi [slices_ContainsFunc__impl_Leaf_impl_Leaf_v5_s]) := spec_is (c := slices_ContainsFunc__impl_Leaf_impl_Leaf_v5_c) seatOK slices_ContainsFunc__impl_Leaf_impl_Leaf_v5_t Go.Proofs.Try.func39 rfl (code := slices_ContainsFunc__impl_Leaf_impl_Leaf_v5_code) rfl rfl slices_ContainsFunc__impl_Leaf_impl_Leaf_v5_rs slices_ContainsFunc__impl_Leaf_impl_Leaf_v5_e
noncomputable def impl_minorOf_s : Spec := ⟨[.v (.pair (.pair (.int .i64) (.pair (.int .i64) (.unit))) (.pair (.pair (.int .i64) (.pair (.int .i64) (.unit))) (.unit))) .fr], (((Int × (Int × Unit)) × ((Int × (Int × Unit)) × Unit)) × ((List ((Int × (Int × Unit)) × ((Int × (Int × Unit)) × Unit))) × ((List ((Int × (Int × Unit)) × ((Int × (Int × Unit)) × Unit))) × (Int × Unit)))) × Int, fun v => impl_minorOf v.1, fun r => ([.v (.pair (.pair (.pair (.int .i64) (.pair (.int .i64) (.unit))) (.pair (.pair (.int .i64) (.pair (.int .i64) (.unit))) (.unit))) (.pair (.sl 31 (.pair (.pair (.int .i64) (.pair (.int .i64) (.unit))) (.pair (.pair (.int .i64) (.pair (.int .i64) (.unit))) (.unit)))) (.pair (.sl 31 (.pair (.pair (.int .i64) (.pair (.int .i64) (.unit))) (.pair (.pair (.int .i64) (.pair (.int .i64) (.unit))) (.unit)))) (.pair (.int .i64) (.unit))))) .fr r.1, .v (.int .i64) .fr r.2], [])⟩
noncomputable def impl_minorOf_ls : List LSum := []
noncomputable def impl_minorOf_tab : List Row := [⟨30, [], [impl_leavesCode_s]⟩, ⟨39, [], [slices_ContainsFunc__impl_Leaf_impl_Leaf_v5_s]⟩, ⟨53, [], [impl_Leaf_isShort_s]⟩, ⟨54, [], [impl_Leaf_images_s]⟩, ⟨55, [], [impl_Leaf_majors_s]⟩, ⟨56, [], [impl_haveCross_s]⟩]
theorem impl_minorOf_t : ∀ r, r ∈ impl_minorOf_tab → RowIs Go.Proofs.Try.prog r := tab_cons (impl_leavesCode_is) (tab_cons (slices_ContainsFunc__impl_Leaf_impl_Leaf_v5_is) (tab_cons (impl_Leaf_isShort_is) (tab_cons (impl_Leaf_images_is) (tab_cons (impl_Leaf_majors_is) (tab_cons (impl_haveCross_is) (tab_nil))))))
theorem impl_minorOf_rs : RoundsOK (mkCtx Go.K.Link.seat impl_minorOf_c impl_minorOf_tab) (sums impl_minorOf_ls) (loopsOf 0 impl_minorOf_code) impl_minorOf_ls := trivial
theorem impl_minorOf_e : ∀ v, (evFn (mkCtx Go.K.Link.seat impl_minorOf_c impl_minorOf_tab) (sums impl_minorOf_ls) 32 Go.Proofs.Try.f32 (encL impl_minorOf_s.a v)).run = (impl_minorOf_s.gen v).bind fun y => some (impl_minorOf_s.out y) := by
  rintro ⟨m, _⟩
  show _ = (impl_minorOf m).bind fun y : (((Int × (Int × Unit)) × ((Int × (Int × Unit)) × Unit)) × ((List ((Int × (Int × Unit)) × ((Int × (Int × Unit)) × Unit))) × ((List ((Int × (Int × Unit)) × ((Int × (Int × Unit)) × Unit))) × (Int × Unit)))) × Int => some (impl_minorOf_s.out y)
  simp only [impl_minorOf, kb_ite, kb_some, kb_none, kb_bind, kb_alt]
  kernel_rfl
theorem impl_minorOf_is : FnIs Go.Proofs.Try.prog 32 (modeOf []) (phi [impl_minorOf_s]) := spec_is (c := impl_minorOf_c) seatOK impl_minorOf_t Go.Proofs.Try.func32 rfl (code := impl_minorOf_code) rfl rfl impl_minorOf_rs impl_minorOf_e
noncomputable def impl_minorLeaf_s : Spec := ⟨[.v (.pair (.pair (.int .i64) (.pair (.int .i64) (.unit))) (.pair (.pair (.int .i64) (.pair (.int .i64) (.unit))) (.unit))) .fr, .v (.bool) .fr, .v (.sl 31 (.pair (.pair (.int .i64) (.pair (.int .i64) (.unit))) (.pair (.pair (.int .i64) (.pair (.int .i64) (.unit))) (.unit)))) .fr], (((Int × (Int × Unit)) × ((Int × (Int × Unit)) × Unit)) × ((List ((Int × (Int × Unit)) × ((Int × (Int × Unit)) × Unit))) × ((List ((Int × (Int × Unit)) × ((Int × (Int × Unit)) × Unit))) × (Int × Unit)))) × Int, fun v => impl_minorLeaf v.1 v.2.1 v.2.2.1, fun r => ([.v (.pair (.pair (.pair (.int .i64) (.pair (.int .i64) (.unit))) (.pair (.pair (.int .i64) (.pair (.int .i64) (.unit))) (.unit))) (.pair (.sl 31 (.pair (.pair (.int .i64) (.pair (.int .i64) (.unit))) (.pair (.pair (.int .i64) (.pair (.int .i64) (.unit))) (.unit)))) (.pair (.sl 31 (.pair (.pair (.int .i64) (.pair (.int .i64) (.unit))) (.pair (.pair (.int .i64) (.pair (.int .i64) (.unit))) (.unit)))) (.pair (.int .i64) (.unit))))) .fr r.1, .v (.int .i64) .fr r.2], [])⟩
noncomputable def impl_minorLeaf_ls : List LSum := []
noncomputable def impl_minorLeaf_tab : List Row := [⟨30, [], [impl_leavesCode_s]⟩, ⟨31, [], [impl_IsLeaf_s]⟩, ⟨32, [], [impl_minorOf_s]⟩]
theorem impl_minorLeaf_t : ∀ r, r ∈ impl_minorLeaf_tab → RowIs Go.Proofs.Try.prog r := tab_cons (impl_leavesCode_is) (tab_cons (impl_IsLeaf_is) (tab_cons (impl_minorOf_is) (tab_nil)))
theorem impl_minorLeaf_rs : RoundsOK (mkCtx Go.K.Link.seat impl_minorLeaf_c impl_minorLeaf_tab) (sums impl_minorLeaf_ls) (loopsOf 0 impl_minorLeaf_code) impl_minorLeaf_ls := trivial
theorem impl_minorLeaf_e : ∀ v, (evFn (mkCtx Go.K.Link.seat impl_minorLeaf_c impl_minorLeaf_tab) (sums impl_minorLeaf_ls) 20 Go.Proofs.Try.f20 (encL impl_minorLeaf_s.a v)).run = (impl_minorLeaf_s.gen v).bind fun y => some (impl_minorLeaf_s.out y) := by
  rintro ⟨m, ⟨isRange, ⟨others, _⟩⟩⟩
  show _ = (impl_minorLeaf m isRange others).bind fun y : (((Int × (Int × Unit)) × ((Int × (Int × Unit)) × Unit)) × ((List ((Int × (Int × Unit)) × ((Int × (Int × Unit)) × Unit))) × ((List ((Int × (Int × Unit)) × ((Int × (Int × Unit)) × Unit))) × (Int × Unit)))) × Int => some (impl_minorLeaf_s.out y)
  simp only [impl_minorLeaf, kb_ite, kb_some, kb_none, kb_bind, kb_alt]
  kernel_rfl
theorem impl_minorLeaf_is : FnIs Go.Proofs.Try.prog 20 (modeOf []) (phi [impl_minorLeaf_s]) := spec_is (c := impl_minorLeaf_c) seatOK impl_minorLeaf_t Go.Proofs.Try.func20 rfl (code := impl_minorLeaf_code) rfl rfl impl_minorLeaf_rs impl_minorLeaf_e
noncomputable def impl_minor_laminations_code : Code := (Go.Proofs.Try.f22.body).getD .skip
def impl_minor_laminations_c : Cfg := ⟨22, [], [[1, 2, 7, 10, 22, 23, 24, 30, 34, 67, 77, 79, 80], [1, 2, 7, 10, 30, 34, 67, 77, 79, 80], [4, 5, 6, 7, 10, 30, 34, 67, 77, 79, 80], [], [], [], [2, 7, 10, 30, 34, 35, 36, 67, 77, 79, 80], [7, 10, 30, 34, 67, 77], [4, 5, 6, 7, 10, 30, 34, 67, 77, 79, 80], [], [], [], [2, 7, 10, 30, 34, 35, 36, 39, 40, 41, 67, 77, 79, 80], [2, 7, 10, 30, 34, 35, 36, 67, 77, 79, 80], [4, 5, 6, 7, 10, 30, 34, 67, 77, 79, 80], [], [], [], [2, 7, 10, 13, 30, 34, 35, 36, 39, 40, 41, 49, 54, 55, 56, 67, 77, 79, 80], [2, 7, 10, 30, 34, 35, 36, 39, 40, 41, 67, 77, 79, 80], [4, 5, 6, 7, 10, 30, 34, 67, 77, 79, 80]], [], [], [(999999, [9, 12, 16])]⟩
noncomputable def slices_Concat__impl_Leaf_impl_Leaf_code : Code := (Go.Proofs.Try.f34.body).getD .skip
def slices_Concat__impl_Leaf_impl_Leaf_c : Cfg := ⟨34, [], [[0, 3, 9, 10, 11, 33], [0, 3, 33], [2, 6, 24, 33, 35], [], [], [], [0, 6, 24, 25, 26, 27, 33], [6, 24, 33], [2, 6, 24, 33, 35]], [], [], []⟩
noncomputable def slices_Concat__impl_Leaf_impl_Leaf_l0_s : LSum := ⟨0, ⟨[(0, .val (.sl 36 (.sl 31 (.pair (.pair (.int .i64) (.pair (.int .i64) (.unit))) (.pair (.pair (.int .i64) (.pair (.int .i64) (.unit))) (.unit))))) .fr), (2, .val (.int .i64) .fr), (5, .val (.sl 36 (.sl 31 (.pair (.pair (.int .i64) (.pair (.int .i64) (.unit))) (.pair (.pair (.int .i64) (.pair (.int .i64) (.unit))) (.unit))))) .fr), (0, .val (.int .i64) .fr), (0, .val (.int .i64) .fr)], 24⟩, (.exit 0, ⟨[(0, .val (.sl 36 (.sl 31 (.pair (.pair (.int .i64) (.pair (.int .i64) (.unit))) (.pair (.pair (.int .i64) (.pair (.int .i64) (.unit))) (.unit))))) .fr), (2, .val (.int .i64) .fr)], 32⟩), [], slices_Concat__impl_Leaf_impl_Leaf_l0⟩
noncomputable def slices_Grow__impl_Leaf_impl_Leaf_s : Spec := ⟨[.v (.sl 31 (.pair (.pair (.int .i64) (.pair (.int .i64) (.unit))) (.pair (.pair (.int .i64) (.pair (.int .i64) (.unit))) (.unit)))) (.own .fr), .v (.int .i64) .fr], List ((Int × (Int × Unit)) × ((Int × (Int × Unit)) × Unit)), fun v => slices_Grow__impl_Leaf_impl_Leaf v.1 v.2.1, fun r => ([.v (.sl 31 (.pair (.pair (.int .i64) (.pair (.int .i64) (.unit))) (.pair (.pair (.int .i64) (.pair (.int .i64) (.unit))) (.unit)))) (.own .fr) r], [])⟩
theorem slices_Grow__impl_Leaf_impl_Leaf_is : FnIs Go.Proofs.Try.prog 59 (modeOf [.own]) (phi [slices_Grow__impl_Leaf_impl_Leaf_s]) := grow_is (TS := 36) (TE := 31) (e := (.pair (.pair (.int .i64) (.pair (.int .i64) (.unit))) (.pair (.pair (.int .i64) (.pair (.int .i64) (.unit))) (.unit)))) (q := .fr) (bytes := 32) ⟨Go.Proofs.Try.underlying36, by kernel_rfl, Go.Proofs.Try.isAgg36, Go.Proofs.Try.sizeOf36, Go.Proofs.Try.sizeOf31, by decide, by decide⟩ Go.Proofs.Try.underlying3 Go.Proofs.Try.func59 rfl rfl rfl rfl
noncomputable def slices_Concat__impl_Leaf_impl_Leaf_l1_s : LSum := ⟨2, ⟨[(0, .val (.sl 36 (.sl 31 (.pair (.pair (.int .i64) (.pair (.int .i64) (.unit))) (.pair (.pair (.int .i64) (.pair (.int .i64) (.unit))) (.unit))))) .fr), (5, .val (.sl 31 (.pair (.pair (.int .i64) (.pair (.int .i64) (.unit))) (.pair (.pair (.int .i64) (.pair (.int .i64) (.unit))) (.unit)))) (.own .fr)), (18, .val (.sl 36 (.sl 31 (.pair (.pair (.int .i64) (.pair (.int .i64) (.unit))) (.pair (.pair (.int .i64) (.pair (.int .i64) (.unit))) (.unit))))) .fr), (0, .val (.int .i64) .fr), (0, .val (.int .i64) .fr)], 8⟩, (.exit 2, ⟨[(6, .val (.sl 31 (.pair (.pair (.int .i64) (.pair (.int .i64) (.unit))) (.pair (.pair (.int .i64) (.pair (.int .i64) (.unit))) (.unit)))) (.own .fr))], 29⟩), [], slices_Concat__impl_Leaf_impl_Leaf_l1⟩
noncomputable def slices_Concat__impl_Leaf_impl_Leaf_s : Spec := ⟨[.v (.sl 36 (.sl 31 (.pair (.pair (.int .i64) (.pair (.int .i64) (.unit))) (.pair (.pair (.int .i64) (.pair (.int .i64) (.unit))) (.unit))))) .fr], (List ((Int × (Int × Unit)) × ((Int × (Int × Unit)) × Unit))), fun v => slices_Concat__impl_Leaf_impl_Leaf v.1, fun r => ([.v (.sl 31 (.pair (.pair (.int .i64) (.pair (.int .i64) (.unit))) (.pair (.pair (.int .i64) (.pair (.int .i64) (.unit))) (.unit)))) (.own .fr) r], [])⟩
noncomputable def slices_Concat__impl_Leaf_impl_Leaf_ls : List LSum := [slices_Concat__impl_Leaf_impl_Leaf_l0_s, slices_Concat__impl_Leaf_impl_Leaf_l1_s]
noncomputable def slices_Concat__impl_Leaf_impl_Leaf_tab : List Row := [⟨59, [.own], [slices_Grow__impl_Leaf_impl_Leaf_s]⟩]
theorem slices_Concat__impl_Leaf_impl_Leaf_t : ∀ r, r ∈ slices_Concat__impl_Leaf_impl_Leaf_tab → RowIs Go.Proofs.Try.prog r := tab_cons (slices_Grow__impl_Leaf_impl_Leaf_is) (tab_nil)
theorem slices_Concat__impl_Leaf_impl_Leaf_l0_r : RoundIs (mkCtx Go.K.Link.seat slices_Concat__impl_Leaf_impl_Leaf_c slices_Concat__impl_Leaf_impl_Leaf_tab) (sums slices_Concat__impl_Leaf_impl_Leaf_ls) 0 (bodyAt (loopsOf 0 slices_Concat__impl_Leaf_impl_Leaf_code) 0) slices_Concat__impl_Leaf_impl_Leaf_l0_s := by
  rintro ⟨slices, ⟨size, ⟨t9, ⟨t10, ⟨t11, _⟩⟩⟩⟩⟩
  show _ = (slices_Concat__impl_Leaf_impl_Leaf_l0 (slices, (size, (t9, (t10, (t11, ())))))).bind fun r : (Ctl ((List (List ((Int × (Int × Unit)) × ((Int × (Int × Unit)) × Unit)))) × Int × (List (List ((Int × (Int × Unit)) × ((Int × (Int × Unit)) × Unit)))) × Int × Int × Unit) (((List (List ((Int × (Int × Unit)) × ((Int × (Int × Unit)) × Unit)))) × Int × Unit))) => some (ctlVal slices_Concat__impl_Leaf_impl_Leaf_l0_s r)
  simp only [slices_Concat__impl_Leaf_impl_Leaf_l0, kb_ite, kb_some, kb_none, kb_bind, kb_alt]
  kernel_rfl
theorem slices_Concat__impl_Leaf_impl_Leaf_l1_r : RoundIs (mkCtx Go.K.Link.seat slices_Concat__impl_Leaf_impl_Leaf_c slices_Concat__impl_Leaf_impl_Leaf_tab) (sums slices_Concat__impl_Leaf_impl_Leaf_ls) 2 (bodyAt (loopsOf 0 slices_Concat__impl_Leaf_impl_Leaf_code) 1) slices_Concat__impl_Leaf_impl_Leaf_l1_s := by
  rintro ⟨slices, ⟨newslice, ⟨t25, ⟨t26, ⟨t27, _⟩⟩⟩⟩⟩
  show _ = (slices_Concat__impl_Leaf_impl_Leaf_l1 (slices, (newslice, (t25, (t26, (t27, ())))))).bind fun r : (Ctl ((List (List ((Int × (Int × Unit)) × ((Int × (Int × Unit)) × Unit)))) × (List ((Int × (Int × Unit)) × ((Int × (Int × Unit)) × Unit))) × (List (List ((Int × (Int × Unit)) × ((Int × (Int × Unit)) × Unit)))) × Int × Int × Unit) (((List ((Int × (Int × Unit)) × ((Int × (Int × Unit)) × Unit))) × Unit))) => some (ctlVal slices_Concat__impl_Leaf_impl_Leaf_l1_s r)
  simp only [slices_Concat__impl_Leaf_impl_Leaf_l1, kb_ite, kb_some, kb_none, kb_bind, kb_alt]
  kernel_rfl
theorem slices_Concat__impl_Leaf_impl_Leaf_rs : RoundsOK (mkCtx Go.K.Link.seat slices_Concat__impl_Leaf_impl_Leaf_c slices_Concat__impl_Leaf_impl_Leaf_tab) (sums slices_Concat__impl_Leaf_impl_Leaf_ls) (loopsOf 0 slices_Concat__impl_Leaf_impl_Leaf_code) slices_Concat__impl_Leaf_impl_Leaf_ls := ⟨⟨rfl, rfl, slices_Concat__impl_Leaf_impl_Leaf_l0_r⟩, ⟨⟨rfl, rfl, slices_Concat__impl_Leaf_impl_Leaf_l1_r⟩, trivial⟩⟩
theorem slices_Concat__impl_Leaf_impl_Leaf_e : ∀ v, (evFn (mkCtx Go.K.Link.seat slices_Concat__impl_Leaf_impl_Leaf_c slices_Concat__impl_Leaf_impl_Leaf_tab) (sums slices_Concat__impl_Leaf_impl_Leaf_ls) 34 Go.Proofs.Try.f34 (encL slices_Concat__impl_Leaf_impl_Leaf_s.a v)).run = (slices_Concat__impl_Leaf_impl_Leaf_s.gen v).bind fun y => some (slices_Concat__impl_Leaf_impl_Leaf_s.out y) := by
  rintro ⟨slices, _⟩
  show _ = (slices_Concat__impl_Leaf_impl_Leaf slices).bind fun y : (List ((Int × (Int × Unit)) × ((Int × (Int × Unit)) × Unit))) => some (slices_Concat__impl_Leaf_impl_Leaf_s.out y)
  simp only [slices_Concat__impl_Leaf_impl_Leaf, kb_ite, kb_some, kb_none, kb_bind, kb_alt]
  kernel_rfl
theorem slices_Concat__impl_Leaf_impl_Leaf_is : FnIs Go.Proofs.Try.prog 34 (modeOf []) (phi [slices_Concat__impl_Leaf_impl_Leaf_s]) := spec_is (c := slices_Concat__impl_Leaf_impl_Leaf_c) seatOK slices_Concat__impl_Leaf_impl_Leaf_t Go.Proofs.Try.func34 rfl (code := slices_Concat__impl_Leaf_impl_Leaf_code) rfl rfl slices_Concat__impl_Leaf_impl_Leaf_rs slices_Concat__impl_Leaf_impl_Leaf_e
noncomputable def impl_put_code : Code := (Go.Proofs.Try.f35.body).getD .skip
def impl_put_c : Cfg := ⟨35, [.own], [], [], [], []⟩
noncomputable def slices_BinarySearchFunc__impl_Leaf_impl_Leaf_impl_Leaf_code : Code := (Go.Proofs.Try.f60.body).getD .skip
def slices_BinarySearchFunc__impl_Leaf_impl_Leaf_impl_Leaf_c : Cfg := ⟨60, [], [[0, 2, 4, 8, 9, 10], [0, 2, 4, 8, 9], [6, 7]], [], [], []⟩
noncomputable def slices_BinarySearchFunc__impl_Leaf_impl_Leaf_impl_Leaf_l0_s : LSum := ⟨0, ⟨[(0, .val (.sl 31 (.pair (.pair (.int .i64) (.pair (.int .i64) (.unit))) (.pair (.pair (.int .i64) (.pair (.int .i64) (.unit))) (.unit)))) .fr), (1, .fnl 61 [] []), (1, .val (.ptr (.pair (.pair (.int .i64) (.pair (.int .i64) (.unit))) (.pair (.pair (.int .i64) (.pair (.int .i64) (.unit))) (.unit)))) (.own .fr)), (3, .val (.int .i64) .fr), (0, .val (.int .i64) .fr), (0, .val (.int .i64) .fr)], 38⟩, (.exit 0, ⟨[(0, .val (.sl 31 (.pair (.pair (.int .i64) (.pair (.int .i64) (.unit))) (.pair (.pair (.int .i64) (.pair (.int .i64) (.unit))) (.unit)))) .fr), (1, .fnl 61 [] []), (1, .val (.ptr (.pair (.pair (.int .i64) (.pair (.int .i64) (.unit))) (.pair (.pair (.int .i64) (.pair (.int .i64) (.unit))) (.unit)))) (.own .fr)), (3, .val (.int .i64) .fr), (0, .val (.int .i64) .fr)], 39⟩), [], slices_BinarySearchFunc__impl_Leaf_impl_Leaf_impl_Leaf_l0⟩
noncomputable def slices_BinarySearchFunc__impl_Leaf_impl_Leaf_impl_Leaf_s : Spec := ⟨[.v (.sl 31 (.pair (.pair (.int .i64) (.pair (.int .i64) (.unit))) (.pair (.pair (.int .i64) (.pair (.int .i64) (.unit))) (.unit)))) .fr, .v (.pair (.pair (.int .i64) (.pair (.int .i64) (.unit))) (.pair (.pair (.int .i64) (.pair (.int .i64) (.unit))) (.unit))) .fr, .fn 61 [] []], Int × Bool, fun v => slices_BinarySearchFunc__impl_Leaf_impl_Leaf_impl_Leaf v.1 v.2.1, fun r => ([.v (.int .i64) .fr r.1, .v (.bool) .fr r.2], [])⟩
noncomputable def slices_BinarySearchFunc__impl_Leaf_impl_Leaf_impl_Leaf_ls : List LSum := [slices_BinarySearchFunc__impl_Leaf_impl_Leaf_impl_Leaf_l0_s]
noncomputable def slices_BinarySearchFunc__impl_Leaf_impl_Leaf_impl_Leaf_tab : List Row := [⟨61, [], [impl_Leaf_compare_s]⟩]
theorem slices_BinarySearchFunc__impl_Leaf_impl_Leaf_impl_Leaf_t : ∀ r, r ∈ slices_BinarySearchFunc__impl_Leaf_impl_Leaf_impl_Leaf_tab → RowIs Go.Proofs.Try.prog r := tab_cons (impl_Leaf_compare_is) (tab_nil)
theorem slices_BinarySearchFunc__impl_Leaf_impl_Leaf_impl_Leaf_l0_r : RoundIs (mkCtx Go.K.Link.seat slices_BinarySearchFunc__impl_Leaf_impl_Leaf_impl_Leaf_c slices_BinarySearchFunc__impl_Leaf_impl_Leaf_impl_Leaf_tab) (sums slices_BinarySearchFunc__impl_Leaf_impl_Leaf_impl_Leaf_ls) 0 (bodyAt (loopsOf 0 slices_BinarySearchFunc__impl_Leaf_impl_Leaf_impl_Leaf_code) 0) slices_BinarySearchFunc__impl_Leaf_impl_Leaf_impl_Leaf_l0_s := by
  rintro ⟨x, ⟨_, _, ⟨target, ⟨n, ⟨i, ⟨j, _⟩⟩⟩⟩⟩⟩
  show _ = (slices_BinarySearchFunc__impl_Leaf_impl_Leaf_impl_Leaf_l0 (x, ((), (), (target, (n, (i, (j, ()))))))).bind fun r : (Ctl ((List ((Int × (Int × Unit)) × ((Int × (Int × Unit)) × Unit))) × Unit × Unit × (((Int × (Int × Unit)) × ((Int × (Int × Unit)) × Unit))) × Int × Int × Int × Unit) (((List ((Int × (Int × Unit)) × ((Int × (Int × Unit)) × Unit))) × Unit × Unit × (((Int × (Int × Unit)) × ((Int × (Int × Unit)) × Unit))) × Int × Int × Unit))) => some (ctlVal slices_BinarySearchFunc__impl_Leaf_impl_Leaf_impl_Leaf_l0_s r)
  simp only [slices_BinarySearchFunc__impl_Leaf_impl_Leaf_impl_Leaf_l0, kb_ite, kb_some, kb_none, kb_bind, kb_alt]
  kernel_rfl
theorem slices_BinarySearchFunc__impl_Leaf_impl_Leaf_impl_Leaf_rs : RoundsOK (mkCtx Go.K.Link.seat slices_BinarySearchFunc__impl_Leaf_impl_Leaf_impl_Leaf_c slices_BinarySearchFunc__impl_Leaf_impl_Leaf_impl_Leaf_tab) (sums slices_BinarySearchFunc__impl_Leaf_impl_Leaf_impl_Leaf_ls) (loopsOf 0 slices_BinarySearchFunc__impl_Leaf_impl_Leaf_impl_Leaf_code) slices_BinarySearchFunc__impl_Leaf_impl_Leaf_impl_Leaf_ls := ⟨⟨rfl, rfl, slices_BinarySearchFunc__impl_Leaf_impl_Leaf_impl_Leaf_l0_r⟩, trivial⟩
theorem slices_BinarySearchFunc__impl_Leaf_impl_Leaf_impl_Leaf_e : ∀ v, (evFn (mkCtx Go.K.Link.seat slices_BinarySearchFunc__impl_Leaf_impl_Leaf_impl_Leaf_c slices_BinarySearchFunc__impl_Leaf_impl_Leaf_impl_Leaf_tab) (sums slices_BinarySearchFunc__impl_Leaf_impl_Leaf_impl_Leaf_ls) 60 Go.Proofs.Try.f60 (encL slices_BinarySearchFunc__impl_Leaf_impl_Leaf_impl_Leaf_s.a v)).run = (slices_BinarySearchFunc__impl_Leaf_impl_Leaf_impl_Leaf_s.gen v).bind fun y => some (slices_BinarySearchFunc__impl_Leaf_impl_Leaf_impl_Leaf_s.out y) := by
  rintro ⟨x, ⟨target, ⟨⟨_, _⟩, _⟩⟩⟩
  show _ = (slices_BinarySearchFunc__impl_Leaf_impl_Leaf_impl_Leaf x target).bind fun y : Int × Bool => some (slices_BinarySearchFunc__impl_Leaf_impl_Leaf_impl_Leaf_s.out y)
  simp only [slices_BinarySearchFunc__impl_Leaf_impl_Leaf_impl_Leaf, kb_ite, kb_some, kb_none, kb_bind, kb_alt]
  kernel_rfl
theorem slices_BinarySearchFunc__impl_Leaf_impl_Leaf_impl_Leaf_is : FnIs Go.Proofs.Try.prog 60 (modeOf []) (phi [slices_BinarySearchFunc__impl_Leaf_impl_Leaf_impl_Leaf_s]) := spec_is (c := slices_BinarySearchFunc__impl_Leaf_impl_Leaf_impl_Leaf_c) seatOK slices_BinarySearchFunc__impl_Leaf_impl_Leaf_impl_Leaf_t Go.Proofs.Try.func60 rfl (code := slices_BinarySearchFunc__impl_Leaf_impl_Leaf_impl_Leaf_code) rfl rfl slices_BinarySearchFunc__impl_Leaf_impl_Leaf_impl_Leaf_rs slices_BinarySearchFunc__impl_Leaf_impl_Leaf_impl_Leaf_e
noncomputable def slices_Insert__impl_Leaf_impl_Leaf_s : Spec := ⟨[.v (.sl 31 (.pair (.pair (.int .i64) (.pair (.int .i64) (.unit))) (.pair (.pair (.int .i64) (.pair (.int .i64) (.unit))) (.unit)))) (.own .fr), .v (.int .i64) .fr, .v (.sl 31 (.pair (.pair (.int .i64) (.pair (.int .i64) (.unit))) (.pair (.pair (.int .i64) (.pair (.int .i64) (.unit))) (.unit)))) (.own .fr)], List ((Int × (Int × Unit)) × ((Int × (Int × Unit)) × Unit)), fun v => slices_Insert__impl_Leaf_impl_Leaf v.1 v.2.1 v.2.2.1, fun r => ([.v (.sl 31 (.pair (.pair (.int .i64) (.pair (.int .i64) (.unit))) (.pair (.pair (.int .i64) (.pair (.int .i64) (.unit))) (.unit)))) (.own .fr) r], [])⟩
def slices_Insert__impl_Leaf_impl_Leaf_ren : Go.Shelf.Ren := ⟨fun n => match n with | 29 => 91 | 30 => 92 | n => n, fun n => match n with | 24 => 36 | 9 => 31 | n => n, fun n => n⟩
theorem slices_Insert__impl_Leaf_impl_Leaf_is : FnIs Go.Proofs.Try.prog 62 (modeOf [.own, .rd, .own]) (phi [slices_Insert__impl_Leaf_impl_Leaf_s]) := insert_is (ρ := slices_Insert__impl_Leaf_impl_Leaf_ren) (f := 62) (e := (.pair (.pair (.int .i64) (.pair (.int .i64) (.unit))) (.pair (.pair (.int .i64) (.pair (.int .i64) (.unit))) (.unit)))) (bytes := 32) ⟨seatOK.mixed, ⟨Go.Proofs.Try.underlying36, by kernel_rfl, Go.Proofs.Try.isAgg36, Go.Proofs.Try.sizeOf36, Go.Proofs.Try.sizeOf31, by decide, by decide⟩, Go.Proofs.Try.underlying3, Go.Proofs.Try.underlying4, Go.Proofs.Try.isAgg3, Go.Proofs.Try.isAgg4, Go.Proofs.Try.sizeOf3, Go.Proofs.Try.sizeOf4, ⟨_, Go.Proofs.Try.func91, rfl, rfl, by kernel_rfl, by kernel_rfl⟩⟩ (by decide) Go.Proofs.Try.func62 (by kernel_rfl) rfl rfl rfl
noncomputable def impl_put_s : Spec := ⟨[.v (.sl 31 (.pair (.pair (.int .i64) (.pair (.int .i64) (.unit))) (.pair (.pair (.int .i64) (.pair (.int .i64) (.unit))) (.unit)))) (.own .fr), .v (.pair (.pair (.int .i64) (.pair (.int .i64) (.unit))) (.pair (.pair (.int .i64) (.pair (.int .i64) (.unit))) (.unit))) .fr], (List ((Int × (Int × Unit)) × ((Int × (Int × Unit)) × Unit))), fun v => impl_put v.1 v.2.1, fun r => ([.v (.sl 31 (.pair (.pair (.int .i64) (.pair (.int .i64) (.unit))) (.pair (.pair (.int .i64) (.pair (.int .i64) (.unit))) (.unit)))) (.own .fr) r], [])⟩
noncomputable def impl_put_ls : List LSum := []
noncomputable def impl_put_tab : List Row := [⟨60, [], [slices_BinarySearchFunc__impl_Leaf_impl_Leaf_impl_Leaf_s]⟩, ⟨62, [.own, .rd, .own], [slices_Insert__impl_Leaf_impl_Leaf_s]⟩]
theorem impl_put_t : ∀ r, r ∈ impl_put_tab → RowIs Go.Proofs.Try.prog r := tab_cons (slices_BinarySearchFunc__impl_Leaf_impl_Leaf_impl_Leaf_is) (tab_cons (slices_Insert__impl_Leaf_impl_Leaf_is) (tab_nil))
theorem impl_put_rs : RoundsOK (mkCtx Go.K.Link.seat impl_put_c impl_put_tab) (sums impl_put_ls) (loopsOf 0 impl_put_code) impl_put_ls := trivial
theorem impl_put_e : ∀ v, (evFn (mkCtx Go.K.Link.seat impl_put_c impl_put_tab) (sums impl_put_ls) 35 Go.Proofs.Try.f35 (encL impl_put_s.a v)).run = (impl_put_s.gen v).bind fun y => some (impl_put_s.out y) := by
  rintro ⟨list, ⟨l, _⟩⟩
  show _ = (impl_put list l).bind fun y : (List ((Int × (Int × Unit)) × ((Int × (Int × Unit)) × Unit))) => some (impl_put_s.out y)
  simp only [impl_put, kb_ite, kb_some, kb_none, kb_bind, kb_alt]
  kernel_rfl
theorem impl_put_is : FnIs Go.Proofs.Try.prog 35 (modeOf [.own]) (phi [impl_put_s]) := spec_is (c := impl_put_c) seatOK impl_put_t Go.Proofs.Try.func35 rfl (code := impl_put_code) rfl rfl impl_put_rs impl_put_e
noncomputable def impl_minor_laminations_l0_s : LSum := ⟨0, ⟨[(1, .val (.int .i64) .fr), (0, .val (.ptr (.pair (.pair (.pair (.int .i64) (.pair (.int .i64) (.unit))) (.pair (.pair (.int .i64) (.pair (.int .i64) (.unit))) (.unit))) (.pair (.sl 31 (.pair (.pair (.int .i64) (.pair (.int .i64) (.unit))) (.pair (.pair (.int .i64) (.pair (.int .i64) (.unit))) (.unit)))) (.pair (.sl 31 (.pair (.pair (.int .i64) (.pair (.int .i64) (.unit))) (.pair (.pair (.int .i64) (.pair (.int .i64) (.unit))) (.unit)))) (.pair (.int .i64) (.unit)))))) (.own .fr)), (4, .val (.sl 31 (.pair (.pair (.int .i64) (.pair (.int .i64) (.unit))) (.pair (.pair (.int .i64) (.pair (.int .i64) (.unit))) (.unit)))) (.own .fr)), (14, .val (.sl 31 (.pair (.pair (.int .i64) (.pair (.int .i64) (.unit))) (.pair (.pair (.int .i64) (.pair (.int .i64) (.unit))) (.unit)))) (.own .fr)), (0, .val (.int .i64) .fr), (0, .val (.int .i64) .fr)], 56⟩, (.exit 0, ⟨[(1, .val (.int .i64) .fr), (0, .val (.ptr (.pair (.pair (.pair (.int .i64) (.pair (.int .i64) (.unit))) (.pair (.pair (.int .i64) (.pair (.int .i64) (.unit))) (.unit))) (.pair (.sl 31 (.pair (.pair (.int .i64) (.pair (.int .i64) (.unit))) (.pair (.pair (.int .i64) (.pair (.int .i64) (.unit))) (.unit)))) (.pair (.sl 31 (.pair (.pair (.int .i64) (.pair (.int .i64) (.unit))) (.pair (.pair (.int .i64) (.pair (.int .i64) (.unit))) (.unit)))) (.pair (.int .i64) (.unit)))))) (.own .fr)), (4, .val (.sl 31 (.pair (.pair (.int .i64) (.pair (.int .i64) (.unit))) (.pair (.pair (.int .i64) (.pair (.int .i64) (.unit))) (.unit)))) (.own .fr))], 73⟩), [], impl_minor_laminations_l0⟩
noncomputable def impl_length_impl_Leaf_code : Code := (Go.Proofs.Try.f36.body).getD .skip
def impl_length_impl_Leaf_c : Cfg := ⟨36, [], [], [], [], []⟩
noncomputable def impl_length_impl_Leaf_s : Spec := ⟨[.v (.sl 31 (.pair (.pair (.int .i64) (.pair (.int .i64) (.unit))) (.pair (.pair (.int .i64) (.pair (.int .i64) (.unit))) (.unit)))) .fr], Int, fun v => impl_length_impl_Leaf v.1, fun r => ([.v (.int .i64) .fr r], [])⟩
noncomputable def impl_length_impl_Leaf_ls : List LSum := []
noncomputable def impl_length_impl_Leaf_tab : List Row := []
theorem impl_length_impl_Leaf_t : ∀ r, r ∈ impl_length_impl_Leaf_tab → RowIs Go.Proofs.Try.prog r := tab_nil
theorem impl_length_impl_Leaf_rs : RoundsOK (mkCtx Go.K.Link.seat impl_length_impl_Leaf_c impl_length_impl_Leaf_tab) (sums impl_length_impl_Leaf_ls) (loopsOf 0 impl_length_impl_Leaf_code) impl_length_impl_Leaf_ls := trivial
theorem impl_length_impl_Leaf_e : ∀ v, (evFn (mkCtx Go.K.Link.seat impl_length_impl_Leaf_c impl_length_impl_Leaf_tab) (sums impl_length_impl_Leaf_ls) 36 Go.Proofs.Try.f36 (encL impl_length_impl_Leaf_s.a v)).run = (impl_length_impl_Leaf_s.gen v).bind fun y => some (impl_length_impl_Leaf_s.out y) := by
  rintro ⟨list, _⟩
  show _ = (impl_length_impl_Leaf list).bind fun y : Int => some (impl_length_impl_Leaf_s.out y)
  simp only [impl_length_impl_Leaf, kb_ite, kb_some, kb_none, kb_bind, kb_alt]
  kernel_rfl
theorem impl_length_impl_Leaf_is : FnIs Go.Proofs.Try.prog 36 (modeOf []) (phi [impl_length_impl_Leaf_s]) := spec_is (c := impl_length_impl_Leaf_c) seatOK impl_length_impl_Leaf_t Go.Proofs.Try.func36 rfl (code := impl_length_impl_Leaf_code) rfl rfl impl_length_impl_Leaf_rs impl_length_impl_Leaf_e
noncomputable def slices_Clone__impl_Leaf_impl_Leaf_s : Spec := ⟨[.v (.sl 31 (.pair (.pair (.int .i64) (.pair (.int .i64) (.unit))) (.pair (.pair (.int .i64) (.pair (.int .i64) (.unit))) (.unit)))) .fr], List ((Int × (Int × Unit)) × ((Int × (Int × Unit)) × Unit)), fun v => slices_Clone__impl_Leaf_impl_Leaf v.1, fun r => ([.v (.sl 31 (.pair (.pair (.int .i64) (.pair (.int .i64) (.unit))) (.pair (.pair (.int .i64) (.pair (.int .i64) (.unit))) (.unit)))) (.own .fr) r], [])⟩
theorem slices_Clone__impl_Leaf_impl_Leaf_is : FnIs Go.Proofs.Try.prog 37 (modeOf []) (phi [slices_Clone__impl_Leaf_impl_Leaf_s]) := clone_is (TS := 36) (TE := 31) (e := (.pair (.pair (.int .i64) (.pair (.int .i64) (.unit))) (.pair (.pair (.int .i64) (.pair (.int .i64) (.unit))) (.unit)))) (bytes := 32) ⟨Go.Proofs.Try.underlying36, by kernel_rfl, Go.Proofs.Try.isAgg36, Go.Proofs.Try.sizeOf36, Go.Proofs.Try.sizeOf31, by decide, by decide⟩ Go.Proofs.Try.func37 rfl rfl rfl rfl
noncomputable def impl_Leaf_ways_code : Code := (Go.Proofs.Try.f63.body).getD .skip
def impl_Leaf_ways_c : Cfg := ⟨63, [], [], [], [], []⟩
noncomputable def impl_Leaf_ways_s : Spec := ⟨[.v (.pair (.pair (.int .i64) (.pair (.int .i64) (.unit))) (.pair (.pair (.int .i64) (.pair (.int .i64) (.unit))) (.unit))) .fr], (List ((Int × (Int × Unit)) × ((Int × (Int × Unit)) × Unit))) × (List ((Int × (Int × Unit)) × ((Int × (Int × Unit)) × Unit))), fun v => impl_Leaf_ways v.1, fun r => ([.v (.sl 31 (.pair (.pair (.int .i64) (.pair (.int .i64) (.unit))) (.pair (.pair (.int .i64) (.pair (.int .i64) (.unit))) (.unit)))) (.own .fr) r.1, .v (.sl 31 (.pair (.pair (.int .i64) (.pair (.int .i64) (.unit))) (.pair (.pair (.int .i64) (.pair (.int .i64) (.unit))) (.unit)))) (.own .fr) r.2], [])⟩
noncomputable def impl_Leaf_ways_ls : List LSum := []
noncomputable def impl_Leaf_ways_tab : List Row := [⟨85, [], [impl_Angle_halves_s]⟩, ⟨86, [], [impl_two_s]⟩, ⟨87, [], [impl_leaf_s]⟩]
theorem impl_Leaf_ways_t : ∀ r, r ∈ impl_Leaf_ways_tab → RowIs Go.Proofs.Try.prog r := tab_cons (impl_Angle_halves_is) (tab_cons (impl_two_is) (tab_cons (impl_leaf_is) (tab_nil)))
theorem impl_Leaf_ways_rs : RoundsOK (mkCtx Go.K.Link.seat impl_Leaf_ways_c impl_Leaf_ways_tab) (sums impl_Leaf_ways_ls) (loopsOf 0 impl_Leaf_ways_code) impl_Leaf_ways_ls := trivial
theorem impl_Leaf_ways_e : ∀ v, (evFn (mkCtx Go.K.Link.seat impl_Leaf_ways_c impl_Leaf_ways_tab) (sums impl_Leaf_ways_ls) 63 Go.Proofs.Try.f63 (encL impl_Leaf_ways_s.a v)).run = (impl_Leaf_ways_s.gen v).bind fun y => some (impl_Leaf_ways_s.out y) := by
  rintro ⟨l, _⟩
  show _ = (impl_Leaf_ways l).bind fun y : (List ((Int × (Int × Unit)) × ((Int × (Int × Unit)) × Unit))) × (List ((Int × (Int × Unit)) × ((Int × (Int × Unit)) × Unit))) => some (impl_Leaf_ways_s.out y)
  simp only [impl_Leaf_ways, kb_ite, kb_some, kb_none, kb_bind, kb_alt]
  kernel_rfl
theorem impl_Leaf_ways_is : FnIs Go.Proofs.Try.prog 63 (modeOf []) (phi [impl_Leaf_ways_s]) := spec_is (c := impl_Leaf_ways_c) seatOK impl_Leaf_ways_t Go.Proofs.Try.func63 rfl (code := impl_Leaf_ways_code) rfl rfl impl_Leaf_ways_rs impl_Leaf_ways_e
noncomputable def impl_isLess_code : Code := (Go.Proofs.Try.f65.body).getD .skip
def impl_isLess_c : Cfg := ⟨65, [], [], [], [], []⟩
noncomputable def impl_sum_code : Code := (Go.Proofs.Try.f94.body).getD .skip
def impl_sum_c : Cfg := ⟨94, [], [], [], [], []⟩
noncomputable def impl_sum_s : Spec := ⟨[.v (.sl 31 (.pair (.pair (.int .i64) (.pair (.int .i64) (.unit))) (.pair (.pair (.int .i64) (.pair (.int .i64) (.unit))) (.unit)))) .fr], Int × Int, fun v => impl_sum v.1, fun r => ([.v (.int .i64) .fr r.1, .v (.int .i64) .fr r.2], [])⟩
noncomputable def impl_sum_ls : List LSum := []
noncomputable def impl_sum_tab : List Row := [⟨58, [], [impl_Leaf_size_s]⟩]
theorem impl_sum_t : ∀ r, r ∈ impl_sum_tab → RowIs Go.Proofs.Try.prog r := tab_cons (impl_Leaf_size_is) (tab_nil)
theorem impl_sum_rs : RoundsOK (mkCtx Go.K.Link.seat impl_sum_c impl_sum_tab) (sums impl_sum_ls) (loopsOf 0 impl_sum_code) impl_sum_ls := trivial
theorem impl_sum_e : ∀ v, (evFn (mkCtx Go.K.Link.seat impl_sum_c impl_sum_tab) (sums impl_sum_ls) 94 Go.Proofs.Try.f94 (encL impl_sum_s.a v)).run = (impl_sum_s.gen v).bind fun y => some (impl_sum_s.out y) := by
  rintro ⟨list, _⟩
  show _ = (impl_sum list).bind fun y : Int × Int => some (impl_sum_s.out y)
  simp only [impl_sum, kb_ite, kb_some, kb_none, kb_bind, kb_alt]
  kernel_rfl
theorem impl_sum_is : FnIs Go.Proofs.Try.prog 94 (modeOf []) (phi [impl_sum_s]) := spec_is (c := impl_sum_c) seatOK impl_sum_t Go.Proofs.Try.func94 rfl (code := impl_sum_code) rfl rfl impl_sum_rs impl_sum_e
noncomputable def math_bits_Mul64_code : Code := (Go.Proofs.Try.f95.body).getD .skip
def math_bits_Mul64_c : Cfg := ⟨95, [], [], [], [], []⟩
noncomputable def math_bits_Mul64_s : Spec := ⟨[.v (.int .u64) .fr, .v (.int .u64) .fr], Int × Int, fun v => math_bits_Mul64 v.1 v.2.1, fun r => ([.v (.int .u64) .fr r.1, .v (.int .u64) .fr r.2], [])⟩
noncomputable def math_bits_Mul64_ls : List LSum := []
noncomputable def math_bits_Mul64_tab : List Row := []
theorem math_bits_Mul64_t : ∀ r, r ∈ math_bits_Mul64_tab → RowIs Go.Proofs.Try.prog r := tab_nil
theorem math_bits_Mul64_rs : RoundsOK (mkCtx Go.K.Link.seat math_bits_Mul64_c math_bits_Mul64_tab) (sums math_bits_Mul64_ls) (loopsOf 0 math_bits_Mul64_code) math_bits_Mul64_ls := trivial
theorem math_bits_Mul64_e : ∀ v, (evFn (mkCtx Go.K.Link.seat math_bits_Mul64_c math_bits_Mul64_tab) (sums math_bits_Mul64_ls) 95 Go.Proofs.Try.f95 (encL math_bits_Mul64_s.a v)).run = (math_bits_Mul64_s.gen v).bind fun y => some (math_bits_Mul64_s.out y) := by
  rintro ⟨x, ⟨y, _⟩⟩
  show _ = (math_bits_Mul64 x y).bind fun y : Int × Int => some (math_bits_Mul64_s.out y)
  simp only [math_bits_Mul64, kb_ite, kb_some, kb_none, kb_bind, kb_alt]
  kernel_rfl
theorem math_bits_Mul64_is : FnIs Go.Proofs.Try.prog 95 (modeOf []) (phi [math_bits_Mul64_s]) := spec_is (c := math_bits_Mul64_c) seatOK math_bits_Mul64_t Go.Proofs.Try.func95 rfl (code := math_bits_Mul64_code) rfl rfl math_bits_Mul64_rs math_bits_Mul64_e
noncomputable def impl_isLess_s : Spec := ⟨[.v (.sl 31 (.pair (.pair (.int .i64) (.pair (.int .i64) (.unit))) (.pair (.pair (.int .i64) (.pair (.int .i64) (.unit))) (.unit)))) .fr, .v (.sl 31 (.pair (.pair (.int .i64) (.pair (.int .i64) (.unit))) (.pair (.pair (.int .i64) (.pair (.int .i64) (.unit))) (.unit)))) .fr], Bool, fun v => impl_isLess v.1 v.2.1, fun r => ([.v (.bool) .fr r], [])⟩
noncomputable def impl_isLess_ls : List LSum := []
noncomputable def impl_isLess_tab : List Row := [⟨94, [], [impl_sum_s]⟩, ⟨95, [], [math_bits_Mul64_s]⟩]
theorem impl_isLess_t : ∀ r, r ∈ impl_isLess_tab → RowIs Go.Proofs.Try.prog r := tab_cons (impl_sum_is) (tab_cons (math_bits_Mul64_is) (tab_nil))
theorem impl_isLess_rs : RoundsOK (mkCtx Go.K.Link.seat impl_isLess_c impl_isLess_tab) (sums impl_isLess_ls) (loopsOf 0 impl_isLess_code) impl_isLess_ls := trivial
theorem impl_isLess_e : ∀ v, (evFn (mkCtx Go.K.Link.seat impl_isLess_c impl_isLess_tab) (sums impl_isLess_ls) 65 Go.Proofs.Try.f65 (encL impl_isLess_s.a v)).run = (impl_isLess_s.gen v).bind fun y => some (impl_isLess_s.out y) := by
  rintro ⟨list, ⟨other, _⟩⟩
  show _ = (impl_isLess list other).bind fun y : Bool => some (impl_isLess_s.out y)
  simp only [impl_isLess, kb_ite, kb_some, kb_none, kb_bind, kb_alt]
  kernel_rfl
theorem impl_isLess_is : FnIs Go.Proofs.Try.prog 65 (modeOf []) (phi [impl_isLess_s]) := spec_is (c := impl_isLess_c) seatOK impl_isLess_t Go.Proofs.Try.func65 rfl (code := impl_isLess_code) rfl rfl impl_isLess_rs impl_isLess_e
noncomputable def impl_minor_pullBack_v2_code : Code := (Go.Proofs.Try.f38.body).getD .skip
def impl_minor_pullBack_v2_c : Cfg := ⟨38, [], [], [], [0], []⟩
noncomputable def impl_minor_pullBack_v2_s : Spec := ⟨[.v (.pair (.pair (.pair (.int .i64) (.pair (.int .i64) (.unit))) (.pair (.pair (.int .i64) (.pair (.int .i64) (.unit))) (.unit))) (.pair (.sl 31 (.pair (.pair (.int .i64) (.pair (.int .i64) (.unit))) (.pair (.pair (.int .i64) (.pair (.int .i64) (.unit))) (.unit)))) (.pair (.sl 31 (.pair (.pair (.int .i64) (.pair (.int .i64) (.unit))) (.pair (.pair (.int .i64) (.pair (.int .i64) (.unit))) (.unit)))) (.pair (.int .i64) (.unit))))) .fr, .v (.pair (.pair (.int .i64) (.pair (.int .i64) (.unit))) (.pair (.pair (.int .i64) (.pair (.int .i64) (.unit))) (.unit))) .fr], (List ((Int × (Int × Unit)) × ((Int × (Int × Unit)) × Unit))) × Int, fun v => impl_minor_pullBack_v2 v.1 v.2.1, fun r => ([.v (.sl 31 (.pair (.pair (.int .i64) (.pair (.int .i64) (.unit))) (.pair (.pair (.int .i64) (.pair (.int .i64) (.unit))) (.unit)))) .fr r.1, .v (.int .i64) .fr r.2], [])⟩
noncomputable def impl_minor_pullBack_v2_ls : List LSum := []
noncomputable def impl_minor_pullBack_v2_tab : List Row := [⟨56, [], [impl_haveCross_s]⟩, ⟨63, [], [impl_Leaf_ways_s]⟩, ⟨64, [], [impl_areLimited_v2_s]⟩, ⟨65, [], [impl_isLess_s]⟩]
theorem impl_minor_pullBack_v2_t : ∀ r, r ∈ impl_minor_pullBack_v2_tab → RowIs Go.Proofs.Try.prog r := tab_cons (impl_haveCross_is) (tab_cons (impl_Leaf_ways_is) (tab_cons (impl_areLimited_v2_is) (tab_cons (impl_isLess_is) (tab_nil))))
theorem impl_minor_pullBack_v2_rs : RoundsOK (mkCtx Go.K.Link.seat impl_minor_pullBack_v2_c impl_minor_pullBack_v2_tab) (sums impl_minor_pullBack_v2_ls) (loopsOf 0 impl_minor_pullBack_v2_code) impl_minor_pullBack_v2_ls := trivial
theorem impl_minor_pullBack_v2_e : ∀ v, (evFn (mkCtx Go.K.Link.seat impl_minor_pullBack_v2_c impl_minor_pullBack_v2_tab) (sums impl_minor_pullBack_v2_ls) 38 Go.Proofs.Try.f38 (encL impl_minor_pullBack_v2_s.a v)).run = (impl_minor_pullBack_v2_s.gen v).bind fun y => some (impl_minor_pullBack_v2_s.out y) := by
  rintro ⟨m, ⟨l, _⟩⟩
  show _ = (impl_minor_pullBack_v2 m l).bind fun y : (List ((Int × (Int × Unit)) × ((Int × (Int × Unit)) × Unit))) × Int => some (impl_minor_pullBack_v2_s.out y)
  simp only [impl_minor_pullBack_v2, kb_ite, kb_some, kb_none, kb_bind, kb_alt]
  kernel_rfl
theorem impl_minor_pullBack_v2_is : FnIs Go.Proofs.Try.prog 38 (modeOf []) (phi [impl_minor_pullBack_v2_s]) := spec_is (c := impl_minor_pullBack_v2_c) seatOK impl_minor_pullBack_v2_t Go.Proofs.Try.func38 rfl (code := impl_minor_pullBack_v2_code) rfl rfl impl_minor_pullBack_v2_rs impl_minor_pullBack_v2_e
noncomputable def impl_minor_laminations_l3_s : LSum := ⟨6, ⟨[(2, .val (.ptr (.pair (.pair (.pair (.int .i64) (.pair (.int .i64) (.unit))) (.pair (.pair (.int .i64) (.pair (.int .i64) (.unit))) (.unit))) (.pair (.sl 31 (.pair (.pair (.int .i64) (.pair (.int .i64) (.unit))) (.pair (.pair (.int .i64) (.pair (.int .i64) (.unit))) (.unit)))) (.pair (.sl 31 (.pair (.pair (.int .i64) (.pair (.int .i64) (.unit))) (.pair (.pair (.int .i64) (.pair (.int .i64) (.unit))) (.unit)))) (.pair (.int .i64) (.unit)))))) (.own .fr)), (4, .val (.sl 31 (.pair (.pair (.int .i64) (.pair (.int .i64) (.unit))) (.pair (.pair (.int .i64) (.pair (.int .i64) (.unit))) (.unit)))) (.own .fr)), (2, .val (.sl 2 (.int .i64)) (.own .fr)), (2, .val (.sl 31 (.pair (.pair (.int .i64) (.pair (.int .i64) (.unit))) (.pair (.pair (.int .i64) (.pair (.int .i64) (.unit))) (.unit)))) .fr), (21, .val (.int .i64) .fr), (0, .val (.int .i64) .fr), (2, .val (.sl 31 (.pair (.pair (.int .i64) (.pair (.int .i64) (.unit))) (.pair (.pair (.int .i64) (.pair (.int .i64) (.unit))) (.unit)))) (.own .fr)), (0, .val (.int .i64) .fr), (0, .val (.int .i64) .fr), (7, .val (.sl 31 (.pair (.pair (.int .i64) (.pair (.int .i64) (.unit))) (.pair (.pair (.int .i64) (.pair (.int .i64) (.unit))) (.unit)))) .fr), (4, .val (.sl 31 (.pair (.pair (.int .i64) (.pair (.int .i64) (.unit))) (.pair (.pair (.int .i64) (.pair (.int .i64) (.unit))) (.unit)))) .fr), (0, .val (.int .i64) .fr), (0, .val (.int .i64) .fr)], 24⟩, (.exit 6, ⟨[(2, .val (.ptr (.pair (.pair (.pair (.int .i64) (.pair (.int .i64) (.unit))) (.pair (.pair (.int .i64) (.pair (.int .i64) (.unit))) (.unit))) (.pair (.sl 31 (.pair (.pair (.int .i64) (.pair (.int .i64) (.unit))) (.pair (.pair (.int .i64) (.pair (.int .i64) (.unit))) (.unit)))) (.pair (.sl 31 (.pair (.pair (.int .i64) (.pair (.int .i64) (.unit))) (.pair (.pair (.int .i64) (.pair (.int .i64) (.unit))) (.unit)))) (.pair (.int .i64) (.unit)))))) (.own .fr)), (4, .val (.sl 31 (.pair (.pair (.int .i64) (.pair (.int .i64) (.unit))) (.pair (.pair (.int .i64) (.pair (.int .i64) (.unit))) (.unit)))) (.own .fr)), (2, .val (.sl 2 (.int .i64)) (.own .fr)), (24, .val (.int .i64) .fr), (0, .val (.int .i64) .fr), (2, .val (.sl 31 (.pair (.pair (.int .i64) (.pair (.int .i64) (.unit))) (.pair (.pair (.int .i64) (.pair (.int .i64) (.unit))) (.unit)))) (.own .fr)), (0, .val (.int .i64) .fr), (0, .val (.int .i64) .fr)], 39⟩), [], impl_minor_laminations_l3⟩
noncomputable def impl_minor_laminations_l2_s : LSum := ⟨4, ⟨[(2, .val (.ptr (.pair (.pair (.pair (.int .i64) (.pair (.int .i64) (.unit))) (.pair (.pair (.int .i64) (.pair (.int .i64) (.unit))) (.unit))) (.pair (.sl 31 (.pair (.pair (.int .i64) (.pair (.int .i64) (.unit))) (.pair (.pair (.int .i64) (.pair (.int .i64) (.unit))) (.unit)))) (.pair (.sl 31 (.pair (.pair (.int .i64) (.pair (.int .i64) (.unit))) (.pair (.pair (.int .i64) (.pair (.int .i64) (.unit))) (.unit)))) (.pair (.int .i64) (.unit)))))) (.own .fr)), (4, .val (.sl 31 (.pair (.pair (.int .i64) (.pair (.int .i64) (.unit))) (.pair (.pair (.int .i64) (.pair (.int .i64) (.unit))) (.unit)))) (.own .fr)), (2, .val (.sl 2 (.int .i64)) (.own .fr)), (24, .val (.int .i64) .fr), (0, .val (.int .i64) .fr), (2, .val (.sl 31 (.pair (.pair (.int .i64) (.pair (.int .i64) (.unit))) (.pair (.pair (.int .i64) (.pair (.int .i64) (.unit))) (.unit)))) (.own .fr)), (0, .val (.int .i64) .fr), (0, .val (.int .i64) .fr)], 39⟩, (.ret, ⟨[(4, .val (.sl 31 (.pair (.pair (.int .i64) (.pair (.int .i64) (.unit))) (.pair (.pair (.int .i64) (.pair (.int .i64) (.unit))) (.unit)))) (.own .fr)), (0, .val (.sl 2 (.int .i64)) (.own .fr)), (0, .val (.int .i64) .fr), (0, .val (.sl 31 (.pair (.pair (.int .i64) (.pair (.int .i64) (.unit))) (.pair (.pair (.int .i64) (.pair (.int .i64) (.unit))) (.unit)))) (.own .fr)), (2, .val (.sl 2 (.int .i64)) (.own .fr))], 70⟩), [(.exit 4, ⟨[(2, .val (.ptr (.pair (.pair (.pair (.int .i64) (.pair (.int .i64) (.unit))) (.pair (.pair (.int .i64) (.pair (.int .i64) (.unit))) (.unit))) (.pair (.sl 31 (.pair (.pair (.int .i64) (.pair (.int .i64) (.unit))) (.pair (.pair (.int .i64) (.pair (.int .i64) (.unit))) (.unit)))) (.pair (.sl 31 (.pair (.pair (.int .i64) (.pair (.int .i64) (.unit))) (.pair (.pair (.int .i64) (.pair (.int .i64) (.unit))) (.unit)))) (.pair (.int .i64) (.unit)))))) (.own .fr)), (4, .val (.sl 31 (.pair (.pair (.int .i64) (.pair (.int .i64) (.unit))) (.pair (.pair (.int .i64) (.pair (.int .i64) (.unit))) (.unit)))) (.own .fr)), (2, .val (.sl 2 (.int .i64)) (.own .fr)), (24, .val (.int .i64) .fr), (0, .val (.int .i64) .fr)], 44⟩)], impl_minor_laminations_l2⟩
noncomputable def impl_minor_laminations_l1_s : LSum := ⟨2, ⟨[(2, .val (.ptr (.pair (.pair (.pair (.int .i64) (.pair (.int .i64) (.unit))) (.pair (.pair (.int .i64) (.pair (.int .i64) (.unit))) (.unit))) (.pair (.sl 31 (.pair (.pair (.int .i64) (.pair (.int .i64) (.unit))) (.pair (.pair (.int .i64) (.pair (.int .i64) (.unit))) (.unit)))) (.pair (.sl 31 (.pair (.pair (.int .i64) (.pair (.int .i64) (.unit))) (.pair (.pair (.int .i64) (.pair (.int .i64) (.unit))) (.unit)))) (.pair (.int .i64) (.unit)))))) (.own .fr)), (4, .val (.sl 31 (.pair (.pair (.int .i64) (.pair (.int .i64) (.unit))) (.pair (.pair (.int .i64) (.pair (.int .i64) (.unit))) (.unit)))) (.own .fr)), (2, .val (.sl 2 (.int .i64)) (.own .fr)), (24, .val (.int .i64) .fr), (0, .val (.int .i64) .fr)], 44⟩, (.ret, ⟨[(4, .val (.sl 31 (.pair (.pair (.int .i64) (.pair (.int .i64) (.unit))) (.pair (.pair (.int .i64) (.pair (.int .i64) (.unit))) (.unit)))) (.own .fr)), (0, .val (.sl 2 (.int .i64)) (.own .fr)), (0, .val (.int .i64) .fr), (0, .val (.sl 31 (.pair (.pair (.int .i64) (.pair (.int .i64) (.unit))) (.pair (.pair (.int .i64) (.pair (.int .i64) (.unit))) (.unit)))) (.own .fr)), (2, .val (.sl 2 (.int .i64)) (.own .fr))], 70⟩), [(.exit 2, ⟨[(7, .val (.sl 31 (.pair (.pair (.int .i64) (.pair (.int .i64) (.unit))) (.pair (.pair (.int .i64) (.pair (.int .i64) (.unit))) (.unit)))) (.own .fr)), (2, .val (.sl 2 (.int .i64)) (.own .fr))], 70⟩)], impl_minor_laminations_l1⟩
noncomputable def impl_minor_laminations_s : Spec := ⟨[.v (.pair (.pair (.pair (.int .i64) (.pair (.int .i64) (.unit))) (.pair (.pair (.int .i64) (.pair (.int .i64) (.unit))) (.unit))) (.pair (.sl 31 (.pair (.pair (.int .i64) (.pair (.int .i64) (.unit))) (.pair (.pair (.int .i64) (.pair (.int .i64) (.unit))) (.unit)))) (.pair (.sl 31 (.pair (.pair (.int .i64) (.pair (.int .i64) (.unit))) (.pair (.pair (.int .i64) (.pair (.int .i64) (.unit))) (.unit)))) (.pair (.int .i64) (.unit))))) .fr, .v (.int .i64) .fr], (List ((Int × (Int × Unit)) × ((Int × (Int × Unit)) × Unit))) × (List Int) × Int, fun v => impl_minor_laminations v.1 v.2.1, fun r => ([.v (.sl 31 (.pair (.pair (.int .i64) (.pair (.int .i64) (.unit))) (.pair (.pair (.int .i64) (.pair (.int .i64) (.unit))) (.unit)))) (.own .fr) r.1, .v (.sl 2 (.int .i64)) (.own .fr) r.2.1, .v (.int .i64) .fr r.2.2], [])⟩
noncomputable def impl_minor_laminations_ls : List LSum := [impl_minor_laminations_l0_s, impl_minor_laminations_l1_s, impl_minor_laminations_l2_s, impl_minor_laminations_l3_s]
noncomputable def impl_minor_laminations_tab : List Row := [⟨34, [], [slices_Concat__impl_Leaf_impl_Leaf_s]⟩, ⟨35, [.own], [impl_put_s]⟩, ⟨36, [], [impl_length_impl_Leaf_s]⟩, ⟨37, [], [slices_Clone__impl_Leaf_impl_Leaf_s]⟩, ⟨38, [], [impl_minor_pullBack_v2_s]⟩, ⟨39, [], [slices_ContainsFunc__impl_Leaf_impl_Leaf_v4_s]⟩]
theorem impl_minor_laminations_t : ∀ r, r ∈ impl_minor_laminations_tab → RowIs Go.Proofs.Try.prog r := tab_cons (slices_Concat__impl_Leaf_impl_Leaf_is) (tab_cons (impl_put_is) (tab_cons (impl_length_impl_Leaf_is) (tab_cons (slices_Clone__impl_Leaf_impl_Leaf_is) (tab_cons (impl_minor_pullBack_v2_is) (tab_cons (slices_ContainsFunc__impl_Leaf_impl_Leaf_v4_is) (tab_nil))))))
theorem impl_minor_laminations_l0_r : RoundIs (mkCtx Go.K.Link.seat impl_minor_laminations_c impl_minor_laminations_tab) (sums impl_minor_laminations_ls) 0 (bodyAt (loopsOf 0 impl_minor_laminations_code) 0) impl_minor_laminations_l0_s := by
  rintro ⟨k, ⟨m, ⟨list, ⟨t22, ⟨t23, ⟨t24, _⟩⟩⟩⟩⟩⟩
  show _ = (impl_minor_laminations_l0 (k, (m, (list, (t22, (t23, (t24, ()))))))).bind fun r : (Ctl (Int × ((((Int × (Int × Unit)) × ((Int × (Int × Unit)) × Unit)) × ((List ((Int × (Int × Unit)) × ((Int × (Int × Unit)) × Unit))) × ((List ((Int × (Int × Unit)) × ((Int × (Int × Unit)) × Unit))) × (Int × Unit))))) × (List ((Int × (Int × Unit)) × ((Int × (Int × Unit)) × Unit))) × (List ((Int × (Int × Unit)) × ((Int × (Int × Unit)) × Unit))) × Int × Int × Unit) ((Int × ((((Int × (Int × Unit)) × ((Int × (Int × Unit)) × Unit)) × ((List ((Int × (Int × Unit)) × ((Int × (Int × Unit)) × Unit))) × ((List ((Int × (Int × Unit)) × ((Int × (Int × Unit)) × Unit))) × (Int × Unit))))) × (List ((Int × (Int × Unit)) × ((Int × (Int × Unit)) × Unit))) × Unit))) => some (ctlVal impl_minor_laminations_l0_s r)
  simp only [impl_minor_laminations_l0, kb_ite, kb_some, kb_none, kb_bind, kb_alt]
  kernel_rfl
theorem impl_minor_laminations_l1_r : RoundIs (mkCtx Go.K.Link.seat impl_minor_laminations_c impl_minor_laminations_tab) (sums impl_minor_laminations_ls) 2 (bodyAt (loopsOf 0 impl_minor_laminations_code) 1) impl_minor_laminations_l1_s := by
  rintro ⟨m, ⟨list, ⟨counts, ⟨t35, ⟨t36, _⟩⟩⟩⟩⟩
  show _ = (impl_minor_laminations_l1 (m, (list, (counts, (t35, (t36, ())))))).bind fun r : (Ctl (((((Int × (Int × Unit)) × ((Int × (Int × Unit)) × Unit)) × ((List ((Int × (Int × Unit)) × ((Int × (Int × Unit)) × Unit))) × ((List ((Int × (Int × Unit)) × ((Int × (Int × Unit)) × Unit))) × (Int × Unit))))) × (List ((Int × (Int × Unit)) × ((Int × (Int × Unit)) × Unit))) × (List Int) × Int × Int × Unit) (((List ((Int × (Int × Unit)) × ((Int × (Int × Unit)) × Unit))) × (List Int) × Int × (List ((Int × (Int × Unit)) × ((Int × (Int × Unit)) × Unit))) × (List Int) × Unit) ⊕ ((List ((Int × (Int × Unit)) × ((Int × (Int × Unit)) × Unit))) × (List Int) × Unit))) => some (ctlVal impl_minor_laminations_l1_s r)
  simp only [impl_minor_laminations_l1, kb_ite, kb_some, kb_none, kb_bind, kb_alt]
  kernel_rfl
theorem impl_minor_laminations_l2_r : RoundIs (mkCtx Go.K.Link.seat impl_minor_laminations_c impl_minor_laminations_tab) (sums impl_minor_laminations_ls) 4 (bodyAt (loopsOf 0 impl_minor_laminations_code) 2) impl_minor_laminations_l2_s := by
  rintro ⟨m, ⟨list, ⟨counts, ⟨t35, ⟨t36, ⟨t39, ⟨t40, ⟨t41, _⟩⟩⟩⟩⟩⟩⟩⟩
  show _ = (impl_minor_laminations_l2 (m, (list, (counts, (t35, (t36, (t39, (t40, (t41, ()))))))))).bind fun r : (Ctl (((((Int × (Int × Unit)) × ((Int × (Int × Unit)) × Unit)) × ((List ((Int × (Int × Unit)) × ((Int × (Int × Unit)) × Unit))) × ((List ((Int × (Int × Unit)) × ((Int × (Int × Unit)) × Unit))) × (Int × Unit))))) × (List ((Int × (Int × Unit)) × ((Int × (Int × Unit)) × Unit))) × (List Int) × Int × Int × (List ((Int × (Int × Unit)) × ((Int × (Int × Unit)) × Unit))) × Int × Int × Unit) (((List ((Int × (Int × Unit)) × ((Int × (Int × Unit)) × Unit))) × (List Int) × Int × (List ((Int × (Int × Unit)) × ((Int × (Int × Unit)) × Unit))) × (List Int) × Unit) ⊕ (((((Int × (Int × Unit)) × ((Int × (Int × Unit)) × Unit)) × ((List ((Int × (Int × Unit)) × ((Int × (Int × Unit)) × Unit))) × ((List ((Int × (Int × Unit)) × ((Int × (Int × Unit)) × Unit))) × (Int × Unit))))) × (List ((Int × (Int × Unit)) × ((Int × (Int × Unit)) × Unit))) × (List Int) × Int × Int × Unit))) => some (ctlVal impl_minor_laminations_l2_s r)
  simp only [impl_minor_laminations_l2, kb_ite, kb_some, kb_none, kb_bind, kb_alt]
  kernel_rfl
theorem impl_minor_laminations_l3_r : RoundIs (mkCtx Go.K.Link.seat impl_minor_laminations_c impl_minor_laminations_tab) (sums impl_minor_laminations_ls) 6 (bodyAt (loopsOf 0 impl_minor_laminations_code) 3) impl_minor_laminations_l3_s := by
  rintro ⟨m, ⟨list, ⟨counts, ⟨pulled, ⟨t35, ⟨t36, ⟨t39, ⟨t40, ⟨t41, ⟨t49, ⟨t54, ⟨t55, ⟨t56, _⟩⟩⟩⟩⟩⟩⟩⟩⟩⟩⟩⟩⟩
  show _ = (impl_minor_laminations_l3 (m, (list, (counts, (pulled, (t35, (t36, (t39, (t40, (t41, (t49, (t54, (t55, (t56, ())))))))))))))).bind fun r : (Ctl (((((Int × (Int × Unit)) × ((Int × (Int × Unit)) × Unit)) × ((List ((Int × (Int × Unit)) × ((Int × (Int × Unit)) × Unit))) × ((List ((Int × (Int × Unit)) × ((Int × (Int × Unit)) × Unit))) × (Int × Unit))))) × (List ((Int × (Int × Unit)) × ((Int × (Int × Unit)) × Unit))) × (List Int) × (List ((Int × (Int × Unit)) × ((Int × (Int × Unit)) × Unit))) × Int × Int × (List ((Int × (Int × Unit)) × ((Int × (Int × Unit)) × Unit))) × Int × Int × (List ((Int × (Int × Unit)) × ((Int × (Int × Unit)) × Unit))) × (List ((Int × (Int × Unit)) × ((Int × (Int × Unit)) × Unit))) × Int × Int × Unit) ((((((Int × (Int × Unit)) × ((Int × (Int × Unit)) × Unit)) × ((List ((Int × (Int × Unit)) × ((Int × (Int × Unit)) × Unit))) × ((List ((Int × (Int × Unit)) × ((Int × (Int × Unit)) × Unit))) × (Int × Unit))))) × (List ((Int × (Int × Unit)) × ((Int × (Int × Unit)) × Unit))) × (List Int) × Int × Int × (List ((Int × (Int × Unit)) × ((Int × (Int × Unit)) × Unit))) × Int × Int × Unit))) => some (ctlVal impl_minor_laminations_l3_s r)
  simp only [impl_minor_laminations_l3, kb_ite, kb_some, kb_none, kb_bind, kb_alt]
  kernel_rfl
theorem impl_minor_laminations_rs : RoundsOK (mkCtx Go.K.Link.seat impl_minor_laminations_c impl_minor_laminations_tab) (sums impl_minor_laminations_ls) (loopsOf 0 impl_minor_laminations_code) impl_minor_laminations_ls := ⟨⟨rfl, rfl, impl_minor_laminations_l0_r⟩, ⟨⟨rfl, rfl, impl_minor_laminations_l1_r⟩, ⟨⟨rfl, rfl, impl_minor_laminations_l2_r⟩, ⟨⟨rfl, rfl, impl_minor_laminations_l3_r⟩, trivial⟩⟩⟩⟩
theorem impl_minor_laminations_e : ∀ v, (evFn (mkCtx Go.K.Link.seat impl_minor_laminations_c impl_minor_laminations_tab) (sums impl_minor_laminations_ls) 22 Go.Proofs.Try.f22 (encL impl_minor_laminations_s.a v)).run = (impl_minor_laminations_s.gen v).bind fun y => some (impl_minor_laminations_s.out y) := by
  rintro ⟨m, ⟨k, _⟩⟩
  show _ = (impl_minor_laminations m k).bind fun y : (List ((Int × (Int × Unit)) × ((Int × (Int × Unit)) × Unit))) × (List Int) × Int => some (impl_minor_laminations_s.out y)
  simp only [impl_minor_laminations, kb_ite, kb_some, kb_none, kb_bind, kb_alt]
  kernel_rfl
theorem impl_minor_laminations_is : FnIs Go.Proofs.Try.prog 22 (modeOf []) (phi [impl_minor_laminations_s]) := spec_is (c := impl_minor_laminations_c) seatOK impl_minor_laminations_t Go.Proofs.Try.func22 rfl (code := impl_minor_laminations_code) rfl rfl impl_minor_laminations_rs impl_minor_laminations_e
noncomputable def impl_CountByDepth_s : Spec := ⟨[.v (.pair (.pair (.int .i64) (.pair (.int .i64) (.unit))) (.pair (.pair (.int .i64) (.pair (.int .i64) (.unit))) (.unit))) .fr, .v (.int .i64) .fr], (List Int) × Int, fun v => impl_CountByDepth v.1 v.2.1, fun r => ([.v (.sl 2 (.int .i64)) (.own .fr) r.1, .v (.int .i64) .fr r.2], [])⟩
noncomputable def impl_CountByDepth_ls : List LSum := []
noncomputable def impl_CountByDepth_tab : List Row := [⟨20, [], [impl_minorLeaf_s]⟩, ⟨21, [], [impl_isDepth_s]⟩, ⟨22, [], [impl_minor_laminations_s]⟩]
theorem impl_CountByDepth_t : ∀ r, r ∈ impl_CountByDepth_tab → RowIs Go.Proofs.Try.prog r := tab_cons (impl_minorLeaf_is) (tab_cons (impl_isDepth_is) (tab_cons (impl_minor_laminations_is) (tab_nil)))
theorem impl_CountByDepth_rs : RoundsOK (mkCtx Go.K.Link.seat impl_CountByDepth_c impl_CountByDepth_tab) (sums impl_CountByDepth_ls) (loopsOf 0 impl_CountByDepth_code) impl_CountByDepth_ls := trivial
theorem impl_CountByDepth_e : ∀ v, (evFn (mkCtx Go.K.Link.seat impl_CountByDepth_c impl_CountByDepth_tab) (sums impl_CountByDepth_ls) 7 Go.Proofs.Try.f7 (encL impl_CountByDepth_s.a v)).run = (impl_CountByDepth_s.gen v).bind fun y => some (impl_CountByDepth_s.out y) := by
  rintro ⟨m, ⟨k, _⟩⟩
  show _ = (impl_CountByDepth m k).bind fun y : (List Int) × Int => some (impl_CountByDepth_s.out y)
  simp only [impl_CountByDepth, kb_ite, kb_some, kb_none, kb_bind, kb_alt]
  kernel_rfl
theorem impl_CountByDepth_is : FnIs Go.Proofs.Try.prog 7 (modeOf []) (phi [impl_CountByDepth_s]) := spec_is (c := impl_CountByDepth_c) seatOK impl_CountByDepth_t Go.Proofs.Try.func7 rfl (code := impl_CountByDepth_code) rfl rfl impl_CountByDepth_rs impl_CountByDepth_e
noncomputable def laws_eqInt64S_code : Code := (Go.Proofs.Try.f8.body).getD .skip
def laws_eqInt64S_c : Cfg := ⟨8, [], [[0, 1, 5], [], [4]], [], [], []⟩
noncomputable def laws_eqInt64S_l0_s : LSum := ⟨0, ⟨[(0, .val (.sl 2 (.int .i64)) .fr), (0, .val (.sl 2 (.int .i64)) .fr), (3, .val (.int .i64) .fr)], 20⟩, (.ret, ⟨[(4, .val (.bool) .fr)], 21⟩), [(.exit 0, ⟨[], 26⟩)], laws_eqInt64S_l0⟩
noncomputable def laws_eqInt64S_s : Spec := ⟨[.v (.sl 2 (.int .i64)) .fr, .v (.sl 2 (.int .i64)) .fr], Bool, fun v => laws_eqInt64S v.1 v.2.1, fun r => ([.v (.bool) .fr r], [])⟩
noncomputable def laws_eqInt64S_ls : List LSum := [laws_eqInt64S_l0_s]
noncomputable def laws_eqInt64S_tab : List Row := []
theorem laws_eqInt64S_t : ∀ r, r ∈ laws_eqInt64S_tab → RowIs Go.Proofs.Try.prog r := tab_nil
theorem laws_eqInt64S_l0_r : RoundIs (mkCtx Go.K.Link.seat laws_eqInt64S_c laws_eqInt64S_tab) (sums laws_eqInt64S_ls) 0 (bodyAt (loopsOf 0 laws_eqInt64S_code) 0) laws_eqInt64S_l0_s := by
  rintro ⟨a, ⟨b, ⟨i, _⟩⟩⟩
  show _ = (laws_eqInt64S_l0 (a, (b, (i, ())))).bind fun r : (Ctl ((List Int) × (List Int) × Int × Unit) ((Bool × Unit) ⊕ (Unit))) => some (ctlVal laws_eqInt64S_l0_s r)
  simp only [laws_eqInt64S_l0, kb_ite, kb_some, kb_none, kb_bind, kb_alt]
  kernel_rfl
theorem laws_eqInt64S_rs : RoundsOK (mkCtx Go.K.Link.seat laws_eqInt64S_c laws_eqInt64S_tab) (sums laws_eqInt64S_ls) (loopsOf 0 laws_eqInt64S_code) laws_eqInt64S_ls := ⟨⟨rfl, rfl, laws_eqInt64S_l0_r⟩, trivial⟩
theorem laws_eqInt64S_e : ∀ v, (evFn (mkCtx Go.K.Link.seat laws_eqInt64S_c laws_eqInt64S_tab) (sums laws_eqInt64S_ls) 8 Go.Proofs.Try.f8 (encL laws_eqInt64S_s.a v)).run = (laws_eqInt64S_s.gen v).bind fun y => some (laws_eqInt64S_s.out y) := by
  rintro ⟨a, ⟨b, _⟩⟩
  show _ = (laws_eqInt64S a b).bind fun y : Bool => some (laws_eqInt64S_s.out y)
  simp only [laws_eqInt64S, kb_ite, kb_some, kb_none, kb_bind, kb_alt]
  kernel_rfl
theorem laws_eqInt64S_is : FnIs Go.Proofs.Try.prog 8 (modeOf []) (phi [laws_eqInt64S_s]) := spec_is (c := laws_eqInt64S_c) seatOK laws_eqInt64S_t Go.Proofs.Try.func8 rfl (code := laws_eqInt64S_code) rfl rfl laws_eqInt64S_rs laws_eqInt64S_e
noncomputable def laws_markInt64S_code : Code := (Go.Proofs.Try.f9.body).getD .skip
def laws_markInt64S_c : Cfg := ⟨9, [.mut], [[0, 1, 5], [0, 1], [0, 4]], [], [], []⟩
noncomputable def laws_markInt64S_l0_s : LSum := ⟨0, ⟨[(0, .val (.sl 2 (.int .i64)) (.own .fr)), (0, .val (.int .i64) .fr), (3, .val (.int .i64) .fr)], 13⟩, (.exit 0, ⟨[(0, .val (.sl 2 (.int .i64)) (.own .fr)), (0, .val (.int .i64) .fr)], 17⟩), [], laws_markInt64S_l0⟩
noncomputable def laws_markInt64S_s : Spec := ⟨[.v (.sl 2 (.int .i64)) (.own .fr), .v (.int .i64) .fr], Int × (List Int), fun v => laws_markInt64S v.1 v.2.1, fun r => ([.v (.int .i64) .fr r.1], [.v (.sl 2 (.int .i64)) (.own .fr) r.2])⟩
noncomputable def laws_markInt64S_ls : List LSum := [laws_markInt64S_l0_s]
noncomputable def laws_markInt64S_tab : List Row := []
theorem laws_markInt64S_t : ∀ r, r ∈ laws_markInt64S_tab → RowIs Go.Proofs.Try.prog r := tab_nil
theorem laws_markInt64S_l0_r : RoundIs (mkCtx Go.K.Link.seat laws_markInt64S_c laws_markInt64S_tab) (sums laws_markInt64S_ls) 0 (bodyAt (loopsOf 0 laws_markInt64S_code) 0) laws_markInt64S_l0_s := by
  rintro ⟨a, ⟨k, ⟨i, _⟩⟩⟩
  show _ = (laws_markInt64S_l0 (a, (k, (i, ())))).bind fun r : (Ctl ((List Int) × Int × Int × Unit) (((List Int) × Int × Unit))) => some (ctlVal laws_markInt64S_l0_s r)
  simp only [laws_markInt64S_l0, kb_ite, kb_some, kb_none, kb_bind, kb_alt]
  kernel_rfl
theorem laws_markInt64S_rs : RoundsOK (mkCtx Go.K.Link.seat laws_markInt64S_c laws_markInt64S_tab) (sums laws_markInt64S_ls) (loopsOf 0 laws_markInt64S_code) laws_markInt64S_ls := ⟨⟨rfl, rfl, laws_markInt64S_l0_r⟩, trivial⟩
theorem laws_markInt64S_e : ∀ v, (evFn (mkCtx Go.K.Link.seat laws_markInt64S_c laws_markInt64S_tab) (sums laws_markInt64S_ls) 9 Go.Proofs.Try.f9 (encL laws_markInt64S_s.a v)).run = (laws_markInt64S_s.gen v).bind fun y => some (laws_markInt64S_s.out y) := by
  rintro ⟨a, ⟨k, _⟩⟩
  show _ = (laws_markInt64S a k).bind fun y : Int × (List Int) => some (laws_markInt64S_s.out y)
  simp only [laws_markInt64S, kb_ite, kb_some, kb_none, kb_bind, kb_alt]
  kernel_rfl
theorem laws_markInt64S_is : FnIs Go.Proofs.Try.prog 9 (modeOf [.mut]) (phi [laws_markInt64S_s]) := spec_is (c := laws_markInt64S_c) seatOK laws_markInt64S_t Go.Proofs.Try.func9 rfl (code := laws_markInt64S_code) rfl rfl laws_markInt64S_rs laws_markInt64S_e
noncomputable def laws_heldInt64S_code : Code := (Go.Proofs.Try.f10.body).getD .skip
def laws_heldInt64S_c : Cfg := ⟨10, [], [[0, 1, 5], [1], [4]], [], [], []⟩
noncomputable def laws_heldInt64S_l0_s : LSum := ⟨0, ⟨[(0, .val (.sl 2 (.int .i64)) .fr), (0, .val (.int .i64) .fr), (3, .val (.int .i64) .fr)], 15⟩, (.ret, ⟨[(4, .val (.int .i64) .fr)], 16⟩), [(.exit 0, ⟨[(1, .val (.int .i64) .fr)], 19⟩)], laws_heldInt64S_l0⟩
noncomputable def laws_heldInt64S_s : Spec := ⟨[.v (.sl 2 (.int .i64)) .fr, .v (.int .i64) .fr], Int, fun v => laws_heldInt64S v.1 v.2.1, fun r => ([.v (.int .i64) .fr r], [])⟩
noncomputable def laws_heldInt64S_ls : List LSum := [laws_heldInt64S_l0_s]
noncomputable def laws_heldInt64S_tab : List Row := []
theorem laws_heldInt64S_t : ∀ r, r ∈ laws_heldInt64S_tab → RowIs Go.Proofs.Try.prog r := tab_nil
theorem laws_heldInt64S_l0_r : RoundIs (mkCtx Go.K.Link.seat laws_heldInt64S_c laws_heldInt64S_tab) (sums laws_heldInt64S_ls) 0 (bodyAt (loopsOf 0 laws_heldInt64S_code) 0) laws_heldInt64S_l0_s := by
  rintro ⟨a, ⟨k, ⟨i, _⟩⟩⟩
  show _ = (laws_heldInt64S_l0 (a, (k, (i, ())))).bind fun r : (Ctl ((List Int) × Int × Int × Unit) ((Int × Unit) ⊕ (Int × Unit))) => some (ctlVal laws_heldInt64S_l0_s r)
  simp only [laws_heldInt64S_l0, kb_ite, kb_some, kb_none, kb_bind, kb_alt]
  kernel_rfl
theorem laws_heldInt64S_rs : RoundsOK (mkCtx Go.K.Link.seat laws_heldInt64S_c laws_heldInt64S_tab) (sums laws_heldInt64S_ls) (loopsOf 0 laws_heldInt64S_code) laws_heldInt64S_ls := ⟨⟨rfl, rfl, laws_heldInt64S_l0_r⟩, trivial⟩
theorem laws_heldInt64S_e : ∀ v, (evFn (mkCtx Go.K.Link.seat laws_heldInt64S_c laws_heldInt64S_tab) (sums laws_heldInt64S_ls) 10 Go.Proofs.Try.f10 (encL laws_heldInt64S_s.a v)).run = (laws_heldInt64S_s.gen v).bind fun y => some (laws_heldInt64S_s.out y) := by
  rintro ⟨a, ⟨k, _⟩⟩
  show _ = (laws_heldInt64S a k).bind fun y : Int => some (laws_heldInt64S_s.out y)
  simp only [laws_heldInt64S, kb_ite, kb_some, kb_none, kb_bind, kb_alt]
  kernel_rfl
theorem laws_heldInt64S_is : FnIs Go.Proofs.Try.prog 10 (modeOf []) (phi [laws_heldInt64S_s]) := spec_is (c := laws_heldInt64S_c) seatOK laws_heldInt64S_t Go.Proofs.Try.func10 rfl (code := laws_heldInt64S_code) rfl rfl laws_heldInt64S_rs laws_heldInt64S_e
noncomputable def laws_FnExactCountByDepth_s : Spec := ⟨[.v (.pair (.pair (.int .i64) (.pair (.int .i64) (.unit))) (.pair (.pair (.int .i64) (.pair (.int .i64) (.unit))) (.unit))) .fr, .v (.int .i64) .fr], Bool, fun v => laws_FnExactCountByDepth v.1 v.2.1, fun r => ([.v (.bool) .fr r], [])⟩
noncomputable def laws_FnExactCountByDepth_ls : List LSum := []
noncomputable def laws_FnExactCountByDepth_tab : List Row := [⟨5, [], [spec_CountByDepth_s]⟩, ⟨6, [], [laws_toLeaf_s]⟩, ⟨7, [], [impl_CountByDepth_s]⟩, ⟨8, [], [laws_eqInt64S_s]⟩, ⟨9, [.mut], [laws_markInt64S_s]⟩, ⟨10, [], [laws_heldInt64S_s]⟩]
theorem laws_FnExactCountByDepth_t : ∀ r, r ∈ laws_FnExactCountByDepth_tab → RowIs Go.Proofs.Try.prog r := tab_cons (spec_CountByDepth_is) (tab_cons (laws_toLeaf_is) (tab_cons (impl_CountByDepth_is) (tab_cons (laws_eqInt64S_is) (tab_cons (laws_markInt64S_is) (tab_cons (laws_heldInt64S_is) (tab_nil))))))
theorem laws_FnExactCountByDepth_rs : RoundsOK (mkCtx Go.K.Link.seat laws_FnExactCountByDepth_c laws_FnExactCountByDepth_tab) (sums laws_FnExactCountByDepth_ls) (loopsOf 0 laws_FnExactCountByDepth_code) laws_FnExactCountByDepth_ls := trivial
theorem laws_FnExactCountByDepth_e : ∀ v, (evFn (mkCtx Go.K.Link.seat laws_FnExactCountByDepth_c laws_FnExactCountByDepth_tab) (sums laws_FnExactCountByDepth_ls) 3 Go.Proofs.Try.f3 (encL laws_FnExactCountByDepth_s.a v)).run = (laws_FnExactCountByDepth_s.gen v).bind fun y => some (laws_FnExactCountByDepth_s.out y) := by
  rintro ⟨aM, ⟨aK, _⟩⟩
  show _ = (laws_FnExactCountByDepth aM aK).bind fun y : Bool => some (laws_FnExactCountByDepth_s.out y)
  simp only [laws_FnExactCountByDepth, kb_ite, kb_some, kb_none, kb_bind, kb_alt]
  kernel_rfl
theorem laws_FnExactCountByDepth_is : FnIs Go.Proofs.Try.prog 3 (modeOf []) (phi [laws_FnExactCountByDepth_s]) := spec_is (c := laws_FnExactCountByDepth_c) seatOK laws_FnExactCountByDepth_t Go.Proofs.Try.func3 rfl (code := laws_FnExactCountByDepth_code) rfl rfl laws_FnExactCountByDepth_rs laws_FnExactCountByDepth_e
noncomputable def laws_FnExactLaminationOf_code : Code := (Go.Proofs.Try.f4.body).getD .skip
def laws_FnExactLaminationOf_c : Cfg := ⟨4, [], [], [], [], []⟩
noncomputable def spec_LaminationOf_v2_code : Code := (Go.Proofs.Try.f11.body).getD .skip
def spec_LaminationOf_v2_c : Cfg := ⟨11, [], [], [], [0], []⟩
noncomputable def spec_LaminationOf_v2_s : Spec := ⟨[.v (.pair (.pair (.int .i64) (.pair (.int .i64) (.unit))) (.pair (.pair (.int .i64) (.pair (.int .i64) (.unit))) (.unit))) .fr, .v (.int .i64) .fr], (List ((Int × (Int × Unit)) × ((Int × (Int × Unit)) × Unit))) × Int, fun v => spec_LaminationOf_v2 v.1 v.2.1, fun r => ([.v (.sl 31 (.pair (.pair (.int .i64) (.pair (.int .i64) (.unit))) (.pair (.pair (.int .i64) (.pair (.int .i64) (.unit))) (.unit)))) .fr r.1, .v (.int .i64) .fr r.2], [])⟩
noncomputable def spec_LaminationOf_v2_ls : List LSum := []
noncomputable def spec_LaminationOf_v2_tab : List Row := [⟨16, [], [spec_l03Is_s]⟩, ⟨17, [], [spec_l01In_s]⟩, ⟨18, [], [spec_l05Depths_v3_s]⟩]
theorem spec_LaminationOf_v2_t : ∀ r, r ∈ spec_LaminationOf_v2_tab → RowIs Go.Proofs.Try.prog r := tab_cons (spec_l03Is_is) (tab_cons (spec_l01In_is) (tab_cons (spec_l05Depths_v3_is) (tab_nil)))
theorem spec_LaminationOf_v2_rs : RoundsOK (mkCtx Go.K.Link.seat spec_LaminationOf_v2_c spec_LaminationOf_v2_tab) (sums spec_LaminationOf_v2_ls) (loopsOf 0 spec_LaminationOf_v2_code) spec_LaminationOf_v2_ls := trivial
theorem spec_LaminationOf_v2_e : ∀ v, (evFn (mkCtx Go.K.Link.seat spec_LaminationOf_v2_c spec_LaminationOf_v2_tab) (sums spec_LaminationOf_v2_ls) 11 Go.Proofs.Try.f11 (encL spec_LaminationOf_v2_s.a v)).run = (spec_LaminationOf_v2_s.gen v).bind fun y => some (spec_LaminationOf_v2_s.out y) := by
  rintro ⟨m, ⟨k, _⟩⟩
  show _ = (spec_LaminationOf_v2 m k).bind fun y : (List ((Int × (Int × Unit)) × ((Int × (Int × Unit)) × Unit))) × Int => some (spec_LaminationOf_v2_s.out y)
  simp only [spec_LaminationOf_v2, kb_ite, kb_some, kb_none, kb_bind, kb_alt]
  kernel_rfl
theorem spec_LaminationOf_v2_is : FnIs Go.Proofs.Try.prog 11 (modeOf []) (phi [spec_LaminationOf_v2_s]) := spec_is (c := spec_LaminationOf_v2_c) seatOK spec_LaminationOf_v2_t Go.Proofs.Try.func11 rfl (code := spec_LaminationOf_v2_code) rfl rfl spec_LaminationOf_v2_rs spec_LaminationOf_v2_e
noncomputable def impl_LaminationOf_code : Code := (Go.Proofs.Try.f12.body).getD .skip
def impl_LaminationOf_c : Cfg := ⟨12, [], [], [(6, (.pr .fr (.pr (.own .fr) (.pr (.own .fr) .fr))))], [], []⟩
noncomputable def impl_LaminationOf_s : Spec := ⟨[.v (.pair (.pair (.int .i64) (.pair (.int .i64) (.unit))) (.pair (.pair (.int .i64) (.pair (.int .i64) (.unit))) (.unit))) .fr, .v (.int .i64) .fr], (List ((Int × (Int × Unit)) × ((Int × (Int × Unit)) × Unit))) × Int, fun v => impl_LaminationOf v.1 v.2.1, fun r => ([.v (.sl 31 (.pair (.pair (.int .i64) (.pair (.int .i64) (.unit))) (.pair (.pair (.int .i64) (.pair (.int .i64) (.unit))) (.unit)))) (.own .fr) r.1, .v (.int .i64) .fr r.2], [])⟩
noncomputable def impl_LaminationOf_ls : List LSum := []
noncomputable def impl_LaminationOf_tab : List Row := [⟨20, [], [impl_minorLeaf_s]⟩, ⟨21, [], [impl_isDepth_s]⟩, ⟨22, [], [impl_minor_laminations_s]⟩]
theorem impl_LaminationOf_t : ∀ r, r ∈ impl_LaminationOf_tab → RowIs Go.Proofs.Try.prog r := tab_cons (impl_minorLeaf_is) (tab_cons (impl_isDepth_is) (tab_cons (impl_minor_laminations_is) (tab_nil)))
theorem impl_LaminationOf_rs : RoundsOK (mkCtx Go.K.Link.seat impl_LaminationOf_c impl_LaminationOf_tab) (sums impl_LaminationOf_ls) (loopsOf 0 impl_LaminationOf_code) impl_LaminationOf_ls := trivial
theorem impl_LaminationOf_e : ∀ v, (evFn (mkCtx Go.K.Link.seat impl_LaminationOf_c impl_LaminationOf_tab) (sums impl_LaminationOf_ls) 12 Go.Proofs.Try.f12 (encL impl_LaminationOf_s.a v)).run = (impl_LaminationOf_s.gen v).bind fun y => some (impl_LaminationOf_s.out y) := by
  rintro ⟨m, ⟨k, _⟩⟩
  show _ = (impl_LaminationOf m k).bind fun y : (List ((Int × (Int × Unit)) × ((Int × (Int × Unit)) × Unit))) × Int => some (impl_LaminationOf_s.out y)
  simp only [impl_LaminationOf, kb_ite, kb_some, kb_none, kb_bind, kb_alt]
  kernel_rfl
theorem impl_LaminationOf_is : FnIs Go.Proofs.Try.prog 12 (modeOf []) (phi [impl_LaminationOf_s]) := spec_is (c := impl_LaminationOf_c) seatOK impl_LaminationOf_t Go.Proofs.Try.func12 rfl (code := impl_LaminationOf_code) rfl rfl impl_LaminationOf_rs impl_LaminationOf_e
noncomputable def laws_eqLeafS_code : Code := (Go.Proofs.Try.f13.body).getD .skip
def laws_eqLeafS_c : Cfg := ⟨13, [], [[0, 1, 5], [], [4]], [], [], []⟩
noncomputable def laws_eqLeaf_code : Code := (Go.Proofs.Try.f23.body).getD .skip
def laws_eqLeaf_c : Cfg := ⟨23, [], [], [], [], []⟩
noncomputable def laws_eqAngle_code : Code := (Go.Proofs.Try.f41.body).getD .skip
def laws_eqAngle_c : Cfg := ⟨41, [], [], [], [], []⟩
noncomputable def laws_eqAngle_s : Spec := ⟨[.v (.pair (.int .i64) (.pair (.int .i64) (.unit))) .fr, .v (.pair (.int .i64) (.pair (.int .i64) (.unit))) .fr], Bool, fun v => laws_eqAngle v.1 v.2.1, fun r => ([.v (.bool) .fr r], [])⟩
noncomputable def laws_eqAngle_ls : List LSum := []
noncomputable def laws_eqAngle_tab : List Row := []
theorem laws_eqAngle_t : ∀ r, r ∈ laws_eqAngle_tab → RowIs Go.Proofs.Try.prog r := tab_nil
theorem laws_eqAngle_rs : RoundsOK (mkCtx Go.K.Link.seat laws_eqAngle_c laws_eqAngle_tab) (sums laws_eqAngle_ls) (loopsOf 0 laws_eqAngle_code) laws_eqAngle_ls := trivial
theorem laws_eqAngle_e : ∀ v, (evFn (mkCtx Go.K.Link.seat laws_eqAngle_c laws_eqAngle_tab) (sums laws_eqAngle_ls) 41 Go.Proofs.Try.f41 (encL laws_eqAngle_s.a v)).run = (laws_eqAngle_s.gen v).bind fun y => some (laws_eqAngle_s.out y) := by
  rintro ⟨a, ⟨b, _⟩⟩
  show _ = (laws_eqAngle a b).bind fun y : Bool => some (laws_eqAngle_s.out y)
  simp only [laws_eqAngle, kb_ite, kb_some, kb_none, kb_bind, kb_alt]
  kernel_rfl
theorem laws_eqAngle_is : FnIs Go.Proofs.Try.prog 41 (modeOf []) (phi [laws_eqAngle_s]) := spec_is (c := laws_eqAngle_c) seatOK laws_eqAngle_t Go.Proofs.Try.func41 rfl (code := laws_eqAngle_code) rfl rfl laws_eqAngle_rs laws_eqAngle_e
noncomputable def laws_eqLeaf_s : Spec := ⟨[.v (.pair (.pair (.int .i64) (.pair (.int .i64) (.unit))) (.pair (.pair (.int .i64) (.pair (.int .i64) (.unit))) (.unit))) .fr, .v (.pair (.pair (.int .i64) (.pair (.int .i64) (.unit))) (.pair (.pair (.int .i64) (.pair (.int .i64) (.unit))) (.unit))) .fr], Bool, fun v => laws_eqLeaf v.1 v.2.1, fun r => ([.v (.bool) .fr r], [])⟩
noncomputable def laws_eqLeaf_ls : List LSum := []
noncomputable def laws_eqLeaf_tab : List Row := [⟨41, [], [laws_eqAngle_s]⟩]
theorem laws_eqLeaf_t : ∀ r, r ∈ laws_eqLeaf_tab → RowIs Go.Proofs.Try.prog r := tab_cons (laws_eqAngle_is) (tab_nil)
theorem laws_eqLeaf_rs : RoundsOK (mkCtx Go.K.Link.seat laws_eqLeaf_c laws_eqLeaf_tab) (sums laws_eqLeaf_ls) (loopsOf 0 laws_eqLeaf_code) laws_eqLeaf_ls := trivial
theorem laws_eqLeaf_e : ∀ v, (evFn (mkCtx Go.K.Link.seat laws_eqLeaf_c laws_eqLeaf_tab) (sums laws_eqLeaf_ls) 23 Go.Proofs.Try.f23 (encL laws_eqLeaf_s.a v)).run = (laws_eqLeaf_s.gen v).bind fun y => some (laws_eqLeaf_s.out y) := by
  rintro ⟨a, ⟨b, _⟩⟩
  show _ = (laws_eqLeaf a b).bind fun y : Bool => some (laws_eqLeaf_s.out y)
  simp only [laws_eqLeaf, kb_ite, kb_some, kb_none, kb_bind, kb_alt]
  kernel_rfl
theorem laws_eqLeaf_is : FnIs Go.Proofs.Try.prog 23 (modeOf []) (phi [laws_eqLeaf_s]) := spec_is (c := laws_eqLeaf_c) seatOK laws_eqLeaf_t Go.Proofs.Try.func23 rfl (code := laws_eqLeaf_code) rfl rfl laws_eqLeaf_rs laws_eqLeaf_e
noncomputable def laws_eqLeafS_l0_s : LSum := ⟨0, ⟨[(0, .val (.sl 31 (.pair (.pair (.int .i64) (.pair (.int .i64) (.unit))) (.pair (.pair (.int .i64) (.pair (.int .i64) (.unit))) (.unit)))) .fr), (0, .val (.sl 31 (.pair (.pair (.int .i64) (.pair (.int .i64) (.unit))) (.pair (.pair (.int .i64) (.pair (.int .i64) (.unit))) (.unit)))) .fr), (3, .val (.int .i64) .fr)], 21⟩, (.ret, ⟨[(4, .val (.bool) .fr)], 22⟩), [(.exit 0, ⟨[], 27⟩)], laws_eqLeafS_l0⟩
noncomputable def laws_eqLeafS_s : Spec := ⟨[.v (.sl 31 (.pair (.pair (.int .i64) (.pair (.int .i64) (.unit))) (.pair (.pair (.int .i64) (.pair (.int .i64) (.unit))) (.unit)))) .fr, .v (.sl 31 (.pair (.pair (.int .i64) (.pair (.int .i64) (.unit))) (.pair (.pair (.int .i64) (.pair (.int .i64) (.unit))) (.unit)))) .fr], Bool, fun v => laws_eqLeafS v.1 v.2.1, fun r => ([.v (.bool) .fr r], [])⟩
noncomputable def laws_eqLeafS_ls : List LSum := [laws_eqLeafS_l0_s]
noncomputable def laws_eqLeafS_tab : List Row := [⟨23, [], [laws_eqLeaf_s]⟩]
theorem laws_eqLeafS_t : ∀ r, r ∈ laws_eqLeafS_tab → RowIs Go.Proofs.Try.prog r := tab_cons (laws_eqLeaf_is) (tab_nil)
theorem laws_eqLeafS_l0_r : RoundIs (mkCtx Go.K.Link.seat laws_eqLeafS_c laws_eqLeafS_tab) (sums laws_eqLeafS_ls) 0 (bodyAt (loopsOf 0 laws_eqLeafS_code) 0) laws_eqLeafS_l0_s := by
  rintro ⟨a, ⟨b, ⟨i, _⟩⟩⟩
  show _ = (laws_eqLeafS_l0 (a, (b, (i, ())))).bind fun r : (Ctl ((List ((Int × (Int × Unit)) × ((Int × (Int × Unit)) × Unit))) × (List ((Int × (Int × Unit)) × ((Int × (Int × Unit)) × Unit))) × Int × Unit) ((Bool × Unit) ⊕ (Unit))) => some (ctlVal laws_eqLeafS_l0_s r)
  simp only [laws_eqLeafS_l0, kb_ite, kb_some, kb_none, kb_bind, kb_alt]
  kernel_rfl
theorem laws_eqLeafS_rs : RoundsOK (mkCtx Go.K.Link.seat laws_eqLeafS_c laws_eqLeafS_tab) (sums laws_eqLeafS_ls) (loopsOf 0 laws_eqLeafS_code) laws_eqLeafS_ls := ⟨⟨rfl, rfl, laws_eqLeafS_l0_r⟩, trivial⟩
theorem laws_eqLeafS_e : ∀ v, (evFn (mkCtx Go.K.Link.seat laws_eqLeafS_c laws_eqLeafS_tab) (sums laws_eqLeafS_ls) 13 Go.Proofs.Try.f13 (encL laws_eqLeafS_s.a v)).run = (laws_eqLeafS_s.gen v).bind fun y => some (laws_eqLeafS_s.out y) := by
  rintro ⟨a, ⟨b, _⟩⟩
  show _ = (laws_eqLeafS a b).bind fun y : Bool => some (laws_eqLeafS_s.out y)
  simp only [laws_eqLeafS, kb_ite, kb_some, kb_none, kb_bind, kb_alt]
  kernel_rfl
theorem laws_eqLeafS_is : FnIs Go.Proofs.Try.prog 13 (modeOf []) (phi [laws_eqLeafS_s]) := spec_is (c := laws_eqLeafS_c) seatOK laws_eqLeafS_t Go.Proofs.Try.func13 rfl (code := laws_eqLeafS_code) rfl rfl laws_eqLeafS_rs laws_eqLeafS_e
noncomputable def laws_markLeafS_code : Code := (Go.Proofs.Try.f14.body).getD .skip
def laws_markLeafS_c : Cfg := ⟨14, [.mut], [[0, 1, 5], [0, 1], [0, 4]], [], [], []⟩
noncomputable def laws_markLeafS_l0_s : LSum := ⟨0, ⟨[(0, .val (.sl 31 (.pair (.pair (.int .i64) (.pair (.int .i64) (.unit))) (.pair (.pair (.int .i64) (.pair (.int .i64) (.unit))) (.unit)))) (.own .fr)), (0, .val (.int .i64) .fr), (3, .val (.int .i64) .fr)], 39⟩, (.exit 0, ⟨[(0, .val (.sl 31 (.pair (.pair (.int .i64) (.pair (.int .i64) (.unit))) (.pair (.pair (.int .i64) (.pair (.int .i64) (.unit))) (.unit)))) (.own .fr)), (0, .val (.int .i64) .fr)], 43⟩), [], laws_markLeafS_l0⟩
noncomputable def laws_markLeafS_s : Spec := ⟨[.v (.sl 31 (.pair (.pair (.int .i64) (.pair (.int .i64) (.unit))) (.pair (.pair (.int .i64) (.pair (.int .i64) (.unit))) (.unit)))) (.own .fr), .v (.int .i64) .fr], Int × (List ((Int × (Int × Unit)) × ((Int × (Int × Unit)) × Unit))), fun v => laws_markLeafS v.1 v.2.1, fun r => ([.v (.int .i64) .fr r.1], [.v (.sl 31 (.pair (.pair (.int .i64) (.pair (.int .i64) (.unit))) (.pair (.pair (.int .i64) (.pair (.int .i64) (.unit))) (.unit)))) (.own .fr) r.2])⟩
noncomputable def laws_markLeafS_ls : List LSum := [laws_markLeafS_l0_s]
noncomputable def laws_markLeafS_tab : List Row := []
theorem laws_markLeafS_t : ∀ r, r ∈ laws_markLeafS_tab → RowIs Go.Proofs.Try.prog r := tab_nil
theorem laws_markLeafS_l0_r : RoundIs (mkCtx Go.K.Link.seat laws_markLeafS_c laws_markLeafS_tab) (sums laws_markLeafS_ls) 0 (bodyAt (loopsOf 0 laws_markLeafS_code) 0) laws_markLeafS_l0_s := by
  rintro ⟨a, ⟨k, ⟨i, _⟩⟩⟩
  show _ = (laws_markLeafS_l0 (a, (k, (i, ())))).bind fun r : (Ctl ((List ((Int × (Int × Unit)) × ((Int × (Int × Unit)) × Unit))) × Int × Int × Unit) (((List ((Int × (Int × Unit)) × ((Int × (Int × Unit)) × Unit))) × Int × Unit))) => some (ctlVal laws_markLeafS_l0_s r)
  simp only [laws_markLeafS_l0, kb_ite, kb_some, kb_none, kb_bind, kb_alt]
  kernel_rfl
theorem laws_markLeafS_rs : RoundsOK (mkCtx Go.K.Link.seat laws_markLeafS_c laws_markLeafS_tab) (sums laws_markLeafS_ls) (loopsOf 0 laws_markLeafS_code) laws_markLeafS_ls := ⟨⟨rfl, rfl, laws_markLeafS_l0_r⟩, trivial⟩
theorem laws_markLeafS_e : ∀ v, (evFn (mkCtx Go.K.Link.seat laws_markLeafS_c laws_markLeafS_tab) (sums laws_markLeafS_ls) 14 Go.Proofs.Try.f14 (encL laws_markLeafS_s.a v)).run = (laws_markLeafS_s.gen v).bind fun y => some (laws_markLeafS_s.out y) := by
  rintro ⟨a, ⟨k, _⟩⟩
  show _ = (laws_markLeafS a k).bind fun y : Int × (List ((Int × (Int × Unit)) × ((Int × (Int × Unit)) × Unit))) => some (laws_markLeafS_s.out y)
  simp only [laws_markLeafS, kb_ite, kb_some, kb_none, kb_bind, kb_alt]
  kernel_rfl
theorem laws_markLeafS_is : FnIs Go.Proofs.Try.prog 14 (modeOf [.mut]) (phi [laws_markLeafS_s]) := spec_is (c := laws_markLeafS_c) seatOK laws_markLeafS_t Go.Proofs.Try.func14 rfl (code := laws_markLeafS_code) rfl rfl laws_markLeafS_rs laws_markLeafS_e
noncomputable def laws_heldLeafS_code : Code := (Go.Proofs.Try.f15.body).getD .skip
def laws_heldLeafS_c : Cfg := ⟨15, [], [[0, 1, 5], [1], [4]], [], [], []⟩
noncomputable def laws_heldLeafS_l0_s : LSum := ⟨0, ⟨[(0, .val (.sl 31 (.pair (.pair (.int .i64) (.pair (.int .i64) (.unit))) (.pair (.pair (.int .i64) (.pair (.int .i64) (.unit))) (.unit)))) .fr), (0, .val (.int .i64) .fr), (3, .val (.int .i64) .fr)], 47⟩, (.ret, ⟨[(4, .val (.int .i64) .fr)], 48⟩), [(.exit 0, ⟨[(1, .val (.int .i64) .fr)], 51⟩)], laws_heldLeafS_l0⟩
noncomputable def laws_heldLeafS_s : Spec := ⟨[.v (.sl 31 (.pair (.pair (.int .i64) (.pair (.int .i64) (.unit))) (.pair (.pair (.int .i64) (.pair (.int .i64) (.unit))) (.unit)))) .fr, .v (.int .i64) .fr], Int, fun v => laws_heldLeafS v.1 v.2.1, fun r => ([.v (.int .i64) .fr r], [])⟩
noncomputable def laws_heldLeafS_ls : List LSum := [laws_heldLeafS_l0_s]
noncomputable def laws_heldLeafS_tab : List Row := []
theorem laws_heldLeafS_t : ∀ r, r ∈ laws_heldLeafS_tab → RowIs Go.Proofs.Try.prog r := tab_nil
theorem laws_heldLeafS_l0_r : RoundIs (mkCtx Go.K.Link.seat laws_heldLeafS_c laws_heldLeafS_tab) (sums laws_heldLeafS_ls) 0 (bodyAt (loopsOf 0 laws_heldLeafS_code) 0) laws_heldLeafS_l0_s := by
  rintro ⟨a, ⟨k, ⟨i, _⟩⟩⟩
  show _ = (laws_heldLeafS_l0 (a, (k, (i, ())))).bind fun r : (Ctl ((List ((Int × (Int × Unit)) × ((Int × (Int × Unit)) × Unit))) × Int × Int × Unit) ((Int × Unit) ⊕ (Int × Unit))) => some (ctlVal laws_heldLeafS_l0_s r)
  simp only [laws_heldLeafS_l0, kb_ite, kb_some, kb_none, kb_bind, kb_alt]
  kernel_rfl
theorem laws_heldLeafS_rs : RoundsOK (mkCtx Go.K.Link.seat laws_heldLeafS_c laws_heldLeafS_tab) (sums laws_heldLeafS_ls) (loopsOf 0 laws_heldLeafS_code) laws_heldLeafS_ls := ⟨⟨rfl, rfl, laws_heldLeafS_l0_r⟩, trivial⟩
theorem laws_heldLeafS_e : ∀ v, (evFn (mkCtx Go.K.Link.seat laws_heldLeafS_c laws_heldLeafS_tab) (sums laws_heldLeafS_ls) 15 Go.Proofs.Try.f15 (encL laws_heldLeafS_s.a v)).run = (laws_heldLeafS_s.gen v).bind fun y => some (laws_heldLeafS_s.out y) := by
  rintro ⟨a, ⟨k, _⟩⟩
  show _ = (laws_heldLeafS a k).bind fun y : Int => some (laws_heldLeafS_s.out y)
  simp only [laws_heldLeafS, kb_ite, kb_some, kb_none, kb_bind, kb_alt]
  kernel_rfl
theorem laws_heldLeafS_is : FnIs Go.Proofs.Try.prog 15 (modeOf []) (phi [laws_heldLeafS_s]) := spec_is (c := laws_heldLeafS_c) seatOK laws_heldLeafS_t Go.Proofs.Try.func15 rfl (code := laws_heldLeafS_code) rfl rfl laws_heldLeafS_rs laws_heldLeafS_e
noncomputable def laws_FnExactLaminationOf_s : Spec := ⟨[.v (.pair (.pair (.int .i64) (.pair (.int .i64) (.unit))) (.pair (.pair (.int .i64) (.pair (.int .i64) (.unit))) (.unit))) .fr, .v (.int .i64) .fr], Bool, fun v => laws_FnExactLaminationOf v.1 v.2.1, fun r => ([.v (.bool) .fr r], [])⟩
noncomputable def laws_FnExactLaminationOf_ls : List LSum := []
noncomputable def laws_FnExactLaminationOf_tab : List Row := [⟨6, [], [laws_toLeaf_s]⟩, ⟨11, [], [spec_LaminationOf_v2_s]⟩, ⟨12, [], [impl_LaminationOf_s]⟩, ⟨13, [], [laws_eqLeafS_s]⟩, ⟨14, [.mut], [laws_markLeafS_s]⟩, ⟨15, [], [laws_heldLeafS_s]⟩]
theorem laws_FnExactLaminationOf_t : ∀ r, r ∈ laws_FnExactLaminationOf_tab → RowIs Go.Proofs.Try.prog r := tab_cons (laws_toLeaf_is) (tab_cons (spec_LaminationOf_v2_is) (tab_cons (impl_LaminationOf_is) (tab_cons (laws_eqLeafS_is) (tab_cons (laws_markLeafS_is) (tab_cons (laws_heldLeafS_is) (tab_nil))))))
theorem laws_FnExactLaminationOf_rs : RoundsOK (mkCtx Go.K.Link.seat laws_FnExactLaminationOf_c laws_FnExactLaminationOf_tab) (sums laws_FnExactLaminationOf_ls) (loopsOf 0 laws_FnExactLaminationOf_code) laws_FnExactLaminationOf_ls := trivial
theorem laws_FnExactLaminationOf_e : ∀ v, (evFn (mkCtx Go.K.Link.seat laws_FnExactLaminationOf_c laws_FnExactLaminationOf_tab) (sums laws_FnExactLaminationOf_ls) 4 Go.Proofs.Try.f4 (encL laws_FnExactLaminationOf_s.a v)).run = (laws_FnExactLaminationOf_s.gen v).bind fun y => some (laws_FnExactLaminationOf_s.out y) := by
  rintro ⟨aM, ⟨aK, _⟩⟩
  show _ = (laws_FnExactLaminationOf aM aK).bind fun y : Bool => some (laws_FnExactLaminationOf_s.out y)
  simp only [laws_FnExactLaminationOf, kb_ite, kb_some, kb_none, kb_bind, kb_alt]
  kernel_rfl
theorem laws_FnExactLaminationOf_is : FnIs Go.Proofs.Try.prog 4 (modeOf []) (phi [laws_FnExactLaminationOf_s]) := spec_is (c := laws_FnExactLaminationOf_c) seatOK laws_FnExactLaminationOf_t Go.Proofs.Try.func4 rfl (code := laws_FnExactLaminationOf_code) rfl rfl laws_FnExactLaminationOf_rs laws_FnExactLaminationOf_e
end Go.K.Link
namespace Go.Proofs.Ytkddnpjcceolbaa
open Go.K Go.K.Link Go.RowKit
theorem Try.own : ownKnob Try.prog.godebug = none := by kernel_rfl
theorem Try.laidOut : laidOutB Try.prog = true := by kernel_rfl
end Go.Proofs.Ytkddnpjcceolbaa

