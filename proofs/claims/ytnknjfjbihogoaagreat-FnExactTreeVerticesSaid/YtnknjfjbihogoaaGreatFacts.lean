/- The closed facts of the row, one theorem each; no condition. -/
import Derived.Test.YtnknjfjbihogoaaGreatRows
import Derived.KernelRfl
import Derived.ProofKit
set_option linter.all false
set_option maxRecDepth 100000
set_option linter.all false
namespace Go.Proofs.YtnknjfjbihogoaaGreat
open Go.RowKit
theorem named : Tryz.pinned.checked.prog.funcNamed Rows.fnExactTreeVerticesRow.func = some 3 := by kernel_rfl
noncomputable abbrev jP : Program := Tryz.pinned.checked.prog
noncomputable abbrev jF : Func := Tryz.f3
noncomputable abbrev jS : ChangeSpec := Rows.fnExactTreeVerticesSpec
noncomputable abbrev jC : OpenClaim := Rows.fnExactTreeVerticesRow
theorem and_i {a b : Bool} (ha : a = true) (hb : b = true) : (a && b) = true := by rw [ha, hb]; rfl
theorem j0 : (jC.wf (OpenSpec.ofChange jS)) = true := by kernel_rfl
theorem j1 : (laidOutB jP) = true := by kernel_rfl
theorem j2 : (mapsRowed jP) = true := by kernel_rfl
theorem j3 : (jF.params.all (jP.readableRec ·)) = true := by kernel_rfl
theorem j4 : (namedTie jP jC.named jS.vars) = true := by kernel_rfl
theorem j5 : ((jC.stops == [])) = true := by kernel_rfl
theorem j6 : ((jP.stops == [])) = true := by kernel_rfl
theorem j7 : ((jC.knobs == [])) = true := by kernel_rfl
theorem j8 : ((jP.stopKnobs == [])) = true := by kernel_rfl
theorem j9 : ((jC.inPlace == jP.inPlace 3)) = true := by kernel_rfl
theorem j10 : ((jC.unfollowed == jP.unfollowed 3)) = true := by kernel_rfl
theorem j11 : ((jC.recurses == jP.recurses 3)) = true := by kernel_rfl
theorem j12 : ((jC.named == jP.varsNamed 3)) = true := by kernel_rfl
theorem j13 : ((jC.maps == (jF.params.toList ++ jS.plain.varTypes jP).any (jP.mapsRec ·))) = true := by kernel_rfl
theorem j14 : ((jC.ifaces == (jF.params.toList ++ jS.plain.varTypes jP).any (jP.ifacesRec ·))) = true := by kernel_rfl
theorem j15 : ((jC.mapsOut == jP.mapsAmong jF.resultTypes.toList)) = true := by kernel_rfl
theorem j16 : ((jC.loops == (jF.params.toList ++ jS.plain.varTypes jP).any (jP.loopsFrom ·))) = true := by kernel_rfl
theorem j17 : ((jC.wideKeys == (jF.params.toList ++ jS.plain.varTypes jP ++ jF.resultTypes.toList).any (jP.wideKeysFrom ·))) = true := by kernel_rfl
theorem j18 : (jS.vars.all (jP.varReadable ·)) = true := by kernel_rfl
theorem j19 : (jF.resultTypes.all (fun t => jP.readableRec t && decide (t < jP.types.size))) = true := by kernel_rfl
theorem j20 : ((jC.ifacesOut == jF.resultTypes.toList.any (jP.ifacesRec ·))) = true := by kernel_rfl
theorem j21 : ((jC.loopsOut == jF.resultTypes.toList.any (jP.loopsFrom ·))) = true := by kernel_rfl
theorem j22 : ((jC.plainKeys == jP.plainKeys)) = true := by kernel_rfl
theorem j23 : (jC.shortTexts.isNone) = true := by kernel_rfl
theorem j24 : (jP.stopsHeard) = true := by kernel_rfl
theorem j25 : (jP.mayEnter) = true := by kernel_rfl
theorem j26 : ((jC.lifted == jP.liftsFinal)) = true := by kernel_rfl
theorem j27 : ((jP.make == some jC.make)) = true := by kernel_rfl
theorem j28 : ((jC.kinds == (if jC.domain.isEmpty then [] else jF.params.toList.map fun t => match jP.underlying t with | some (.int k) => some k | _ => none))) = true := by kernel_rfl
theorem j29 : ((jC.pinned == jC.pinnedBy)) = true := by kernel_rfl
theorem j30 : ((jC.veiled == (jF.params.toList ++ jS.plain.varTypes jP ++ jF.resultTypes.toList).any (jP.veiledRec ·))) = true := by kernel_rfl
theorem j31 : (jC.veiledFits jP jF.params.toList (jF.params.toList ++ jS.plain.varTypes jP ++ jF.resultTypes.toList)) = true := by kernel_rfl
theorem facts : joinedFacts jP 3 jF jS jC = true := (and_i (and_i (and_i (and_i (and_i (and_i (and_i (and_i (and_i (and_i (and_i (and_i (and_i (and_i (and_i (and_i (and_i (and_i (and_i (and_i (and_i (and_i (and_i (and_i (and_i (and_i (and_i (and_i (and_i (and_i (and_i j0 j1) j2) j3) j4) j5) j6) j7) j8) j9) j10) j11) j12) j13) j14) j15) j16) j17) j18) j19) j20) j21) j22) j23) j24) j25) j26) j27) j28) j29) j30) j31)
end Go.Proofs.YtnknjfjbihogoaaGreat

