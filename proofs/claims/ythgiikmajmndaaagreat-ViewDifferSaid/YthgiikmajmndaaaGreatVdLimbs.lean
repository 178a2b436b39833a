/- ViewDiffer: the closed facts of its row, one by one. Conditions: none. -/
import Derived.Test.YthgiikmajmndaaaGreatVdRow
import Derived.JoinedCond
namespace Go.Proofs.YthgiikmajmndaaaGreat.viewDiffer
open Go.ChangeShapes Go.WideShapes Go.ChangeAt Go.RowKit
theorem k1 : (Rows.viewDifferRow.wf (OpenSpec.ofChange Rows.viewDifferSpec)) = true := by kernel_rfl
theorem k2 : (laidOutB Tryz.pinned.checked.prog) = true := by kernel_rfl
theorem k3 : (mapsRowed Tryz.pinned.checked.prog) = true := by kernel_rfl
theorem k4 : (Tryz.f3.params.all (Tryz.pinned.checked.prog.readableRec ·)) = true := by kernel_rfl
theorem k5 : (namedTie Tryz.pinned.checked.prog Rows.viewDifferRow.named Rows.viewDifferSpec.vars) = true := by kernel_rfl
theorem k6 : ((Rows.viewDifferRow.stops == [])) = true := by kernel_rfl
theorem k7 : ((Tryz.pinned.checked.prog.stops == [])) = true := by kernel_rfl
theorem k8 : ((Rows.viewDifferRow.knobs == [])) = true := by kernel_rfl
theorem k9 : ((Tryz.pinned.checked.prog.stopKnobs == [])) = true := by kernel_rfl
theorem k10 : ((Rows.viewDifferRow.inPlace == Tryz.pinned.checked.prog.inPlace 3)) = true := by kernel_rfl
theorem k11 : ((Rows.viewDifferRow.unfollowed == Tryz.pinned.checked.prog.unfollowed 3)) = true := by kernel_rfl
theorem k12 : ((Rows.viewDifferRow.recurses == Tryz.pinned.checked.prog.recurses 3)) = true := by kernel_rfl
theorem k13 : ((Rows.viewDifferRow.named == Tryz.pinned.checked.prog.varsNamed 3)) = true := by kernel_rfl
theorem k14 : ((Rows.viewDifferRow.maps == (Tryz.f3.params.toList ++ Rows.viewDifferSpec.plain.varTypes Tryz.pinned.checked.prog).any (Tryz.pinned.checked.prog.mapsRec ·))) = true := by kernel_rfl
theorem k15 : ((Rows.viewDifferRow.ifaces == (Tryz.f3.params.toList ++ Rows.viewDifferSpec.plain.varTypes Tryz.pinned.checked.prog).any (Tryz.pinned.checked.prog.ifacesRec ·))) = true := by kernel_rfl
theorem k16 : ((Rows.viewDifferRow.mapsOut == Tryz.pinned.checked.prog.mapsAmong Tryz.f3.resultTypes.toList)) = true := by kernel_rfl
theorem k17 : ((Rows.viewDifferRow.loops == (Tryz.f3.params.toList ++ Rows.viewDifferSpec.plain.varTypes Tryz.pinned.checked.prog).any (Tryz.pinned.checked.prog.loopsFrom ·))) = true := by kernel_rfl
theorem k17b : ((Rows.viewDifferRow.wideKeys == (Tryz.f3.params.toList ++ Rows.viewDifferSpec.plain.varTypes Tryz.pinned.checked.prog ++ Tryz.f3.resultTypes.toList).any (Tryz.pinned.checked.prog.wideKeysFrom ·))) = true := by kernel_rfl
theorem k18 : (Rows.viewDifferSpec.vars.all (Tryz.pinned.checked.prog.varReadable ·)) = true := by kernel_rfl
theorem k19 : (Tryz.f3.resultTypes.all (fun t => Tryz.pinned.checked.prog.readableRec t && decide (t < Tryz.pinned.checked.prog.types.size))) = true := by kernel_rfl
theorem k20 : ((Rows.viewDifferRow.ifacesOut == Tryz.f3.resultTypes.toList.any (Tryz.pinned.checked.prog.ifacesRec ·))) = true := by kernel_rfl
theorem k21 : ((Rows.viewDifferRow.loopsOut == Tryz.f3.resultTypes.toList.any (Tryz.pinned.checked.prog.loopsFrom ·))) = true := by kernel_rfl
theorem k22 : ((Rows.viewDifferRow.plainKeys == Tryz.pinned.checked.prog.plainKeys)) = true := by kernel_rfl
theorem k23 : (Rows.viewDifferRow.shortTexts.isNone) = true := by kernel_rfl
theorem k23b : (Tryz.pinned.checked.prog.stopsHeard) = true := by kernel_rfl
theorem k24 : (Tryz.pinned.checked.prog.mayEnter) = true := by kernel_rfl
theorem k24b : ((Rows.viewDifferRow.lifted == Tryz.pinned.checked.prog.liftsFinal)) = true := by kernel_rfl
theorem k24c : ((Tryz.pinned.checked.prog.make == some Rows.viewDifferRow.make)) = true := by kernel_rfl
theorem k26 : ((Rows.viewDifferRow.pinned == Rows.viewDifferRow.pinnedBy)) = true := by kernel_rfl
theorem k27 : ((Rows.viewDifferRow.veiled == (Tryz.f3.params.toList ++ Rows.viewDifferSpec.plain.varTypes Tryz.pinned.checked.prog ++ Tryz.f3.resultTypes.toList).any (Tryz.pinned.checked.prog.veiledRec ·))) = true := by kernel_rfl
theorem k28 : (Rows.viewDifferRow.veiledFits Tryz.pinned.checked.prog Tryz.f3.params.toList (Tryz.f3.params.toList ++ Rows.viewDifferSpec.plain.varTypes Tryz.pinned.checked.prog ++ Tryz.f3.resultTypes.toList)) = true := by kernel_rfl
theorem named : Tryz.pinned.checked.prog.funcNamed Rows.viewDifferRow.func = some 3 := by kernel_rfl
end Go.Proofs.YthgiikmajmndaaaGreat.viewDiffer
