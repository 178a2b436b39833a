/- ViewDiffer: for every two views, the law returns true, and the views read as they did. Conditions: none. -/
import Derived.Test.YthgiikmajmndaaaGreatVdRow
import Derived.Test.YthgiikmajmndaaaGreatVdFacts
import Derived.JoinedCond
namespace Go.Proofs.YthgiikmajmndaaaGreat.viewDiffer
open Go.ChangeShapes Go.WideShapes Go.ChangeAt Go.RowKit
theorem over : Rows.viewDifferRow.holds Tryz.pinned (OpenSpec.ofChange Rows.viewDifferSpec) :=
  OpenClaim.holds_of_wide 3 Tryz.f3 rfl rfl rfl rfl rfl rfl rfl ⟨rfl, rfl, rfl, rfl, rfl⟩ rfl rfl rfl rfl rfl named Tryz.func3 closed inst wrap
    (fun os started H enc _ => lifted os started H enc)
theorem proved : Rows.ViewDifferSaid := over
end Go.Proofs.YthgiikmajmndaaaGreat.viewDiffer
