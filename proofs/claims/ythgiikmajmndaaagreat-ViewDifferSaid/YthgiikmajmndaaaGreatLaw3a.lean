/- The law ViewDiffer: its walk. Conditions: what the arguments hold. -/
import Derived.Test.YthgiikmajmndaaaGreatKnown
import Derived.Deep.DeepCutAuto
set_option linter.unusedSimpArgs false
set_option linter.unusedVariables false
namespace Go.Proofs
open Go Go.RowKit Anc
set_option maxRecDepth 100000 in
set_option maxHeartbeats 4000000 in
theorem Tryz.differ3_long (a1 a2 a3 b1 b2 b3 : Option Addr) (n1 n2 n3 m1 m2 m3 c1 c2 c3 d1 d2 d3 : Nat) (w : World) (h : 200 < n1 ∨ 200 < m1 ∨ 200 < n2 ∨ 200 < m2 ∨ 200 < n3 ∨ 200 < m3) :
    Calls Tryz.prog 3 #[.agg #[.slice a1 n1 c1, .slice a2 n2 c2, .slice a3 n3 c3], .agg #[.slice b1 m1 d1, .slice b2 m2 d2, .slice b3 m3 d3]] w fun e w' => e = .returned (.bool true) ∧ Fr [] w w' := by
  have h' := Lib.hid h
  clear h
  go_enter Tryz.func3, Tryz.ntmps3
  go_wp2_with fail
  all_goals first
    | (refine (Tryz.known6 _).mono ?_; rintro e w1 ⟨rfl, f⟩; go_wp2; go_ret; exact ⟨rfl, (((Fr.refl _ _).alloc _).alloc _).trans' f⟩)
    | (exfalso; have := h'.out; omega)
end Go.Proofs
