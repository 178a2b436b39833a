/- ViewDiffer: the closed facts of its row, one by one. Conditions: none. -/
import Derived.Test.YthgiikmajmndaaaGreatVdLimbs
import Derived.Test.YthgiikmajmndaaaGreatJoined
import Derived.JoinedCond
namespace Go.Proofs.YthgiikmajmndaaaGreat.viewDiffer
open Go.ChangeShapes Go.WideShapes Go.ChangeAt Go.RowKit
theorem k25k : ((Rows.viewDifferRow.kinds == (if Rows.viewDifferRow.domain.isEmpty then [] else kindsOf Tryz.pinned.checked.prog Tryz.f3))) = true := by kernel_rfl
theorem closed : joinedFacts Tryz.pinned.checked.prog 3 Tryz.f3 Rows.viewDifferSpec Rows.viewDifferRow = true :=
  joined_of _ _ _ _ _ k1 k2 k3 k4 k5 k6 k7 k8 k9 k10 k11 k12 k13 k14 k15 k16 k17 k17b k18 k19 k20 k21 k22 k23 k23b k24 k24b k24c k25k k26 k27 k28
theorem inst : Tryz.f3.isInstance Tryz.pinned.checked.prog Rows.viewDifferRow.origin Rows.viewDifferRow.targs := of_decide_eq_true (by kernel_rfl)
theorem wrap : Tryz.f3.isWrapper Tryz.pinned.checked.prog Rows.viewDifferRow.wrapper Rows.viewDifferRow.mainSum := by
  unfold Func.isWrapper
  rw [if_neg (of_decide_eq_false (by kernel_rfl))]
  exact ⟨rfl, rfl⟩
end Go.Proofs.YthgiikmajmndaaaGreat.viewDiffer
