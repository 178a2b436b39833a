/- ViewDiffer: the step of its row. Conditions: none. -/
import Derived.Test.YthgiikmajmndaaaGreatRows
import Derived.Test.YthgiikmajmndaaaGreatLaw3
import Derived.Test.YthgiikmajmndaaaGreatLaw3a
import Derived.Test.YthgiikmajmndaaaGreatOpen
import Derived.WalkKit
import Derived.ProofKit
import Derived.OpenShut
import Derived.ChangeOld
import Derived.Below
import Derived.Lib.SmallJoins
set_option linter.unusedSimpArgs false
set_option linter.unusedVariables false
namespace Go.Proofs.YthgiikmajmndaaaGreat.viewDiffer
open Go.ChangeShapes Go.WideShapes Go.ChangeAt Go.RowKit Go.Joins Anc
theorem own : ownKnob Tryz.prog.godebug = none := by kernel_rfl
theorem laidOut : laidOutB Tryz.prog = true := by kernel_rfl
theorem cells26 : Tryz.prog.cellsOf 26 = 3 := by kernel_rfl
theorem walk (s h b s' h' b' : Value) (S H S' H' : List Int) (B B' : List Bytes) (W : World) (k1 : SlI W s S) (k2 : SlI W h H) (k3 : SlG W b B) (g3 : GrL B) (l1 : SlI W s' S') (l2 : SlI W h' H') (l3 : SlG W b' B') (g3' : GrL B') :
    Calls Tryz.prog 3 #[.agg #[s, h, b], .agg #[s', h', b']] W fun e w' => e = .returned (.bool true) ∧ Below W.heap.size W w' := by
  by_cases hs : 200 < S.length ∨ 200 < S'.length ∨ 200 < H.length ∨ 200 < H'.length ∨ 200 < B.length ∨ 200 < B'.length
  · obtain ⟨a1, c1, rfl⟩ := k1.len
    obtain ⟨a2, c2, rfl⟩ := k2.len
    obtain ⟨a3, c3, rfl⟩ := k3.len
    obtain ⟨b1, d1, rfl⟩ := l1.len
    obtain ⟨b2, d2, rfl⟩ := l2.len
    obtain ⟨b3, d3, rfl⟩ := l3.len
    exact (Tryz.differ3_long a1 a2 a3 b1 b2 b3 _ _ _ _ _ _ _ _ _ _ _ _ W hs).mono fun e w' ⟨he, f⟩ => ⟨he, f.below⟩
  · have q1 : S.length ≤ 200 := by omega
    have q2 : S'.length ≤ 200 := by omega
    have q3 : H.length ≤ 200 := by omega
    have q4 : H'.length ≤ 200 := by omega
    have q5 : B.length ≤ 200 := by omega
    have q6 : B'.length ≤ 200 := by omega
    exact (Tryz.differ3_short s h b s' h' b' ⟨S, H, B⟩ ⟨S', H', B'⟩ W ⟨k1, k2, k3, Nat.le_trans q1 (by omega), Nat.le_trans q3 (by omega), Nat.le_trans q5 (by omega), g3⟩ ⟨l1, l2, l3, Nat.le_trans q2 (by omega), Nat.le_trans q4 (by omega), Nat.le_trans q6 (by omega), g3'⟩ q1 q3 q5 q2 q4 q6).mono fun e w' ⟨he, f⟩ => ⟨he, f.below⟩
set_option maxRecDepth 100000 in
theorem lifted (os : Os) (started : os.Started) (H : Type) (enc : TypeId × Value → H) :
    ReturnsInHanded {} Tryz.checked os 3 .any (Rows.viewDifferSpec.pre6 enc Tryz.prog Tryz.f3 Rows.viewDifferRow.domain false) (Rows.viewDifferSpec.post enc Tryz.prog Tryz.f3 false true false false) := by
  refine returnsInHanded_of_change (C := Tryz.checked) own started (by kernel_rfl) Tryz.func3
    (ChangeSpec.witness6 (enc := enc) (C := Tryz.checked) false ⟨#[], #[.agg #[.slice none 0 0, .slice none 0 0, .slice none 0 0], .agg #[.slice none 0 0, .slice none 0 0, .slice none 0 0]], []⟩ 8 (by kernel_rfl) (by kernel_rfl) (by kernel_rfl) (by kernel_rfl)) ?_
  intro W base args ds gs before hval0 hW hcnd _
  have hval : ∀ (j : Nat) t v, Tryz.f3.params[j]? = some t → args[j]? = some v → Value.okWide Tryz.prog W .any base t v := hval0
  have hW' := hW
  obtain ⟨p, q, hA0, hV, rfl, hfz, hnd⟩ := hW
  have hA : DataW.TrodAll enc Tryz.prog W 0 (fun _ => true) true Tryz.f3.params.toList args.toList ds p := hA0
  rw [Tryz.params3] at hA hval
  obtain ⟨v0, vs0, d0, ds0, p0, q0, hargs, rfl, rfl, h0, r0⟩ := trodAll_cons hA
  obtain ⟨v1, vs1, d1, ds1, p1, q1, rfl, rfl, rfl, h1, r1⟩ := trodAll_cons r0
  obtain ⟨rfl, rfl, rfl⟩ := trodAll_nil r1
  obtain rfl : args = #[v0, v1] := by cases args; simp_all
  obtain ⟨rfl, rfl⟩ := trodVars_none hV
  have k0 := h0
  have k1 := h1
  have lt0 : ∀ x ∈ p0, x.block < W.heap.size := by obtain ⟨m, hm⟩ := k0; exact DataW.trod_lt m _ _ _ hm
  have lt1 : ∀ x ∈ p1, x.block < W.heap.size := by obtain ⟨m, hm⟩ := k1; exact DataW.trod_lt m _ _ _ hm
  obtain ⟨s, h, b, y0, y1, y2, n, rfl, _, _, e0, e1, e2⟩ := open_agg3 Tryz.underlying26 (by kernel_rfl) cells26 (hval 0 26 v0 rfl rfl) h0
  obtain ⟨s', h', b', z0, z1, z2, m, rfl, _, _, e3, e4, e5⟩ := open_agg3 Tryz.underlying26 (by kernel_rfl) cells26 (hval 1 26 v1 rfl rfl) h1
  obtain ⟨S, a1⟩ := open_slI Tryz.underlying22 Tryz.underlying28 (by kernel_rfl) e0
  obtain ⟨Hd, a2⟩ := open_slI Tryz.underlying23 Tryz.underlying3 (by kernel_rfl) e1
  obtain ⟨B, a3, g3⟩ := open_slG Tryz.underlying24 Tryz.underlying30 Tryz.underlying5 (by kernel_rfl) (by kernel_rfl) e2
  obtain ⟨S', c1⟩ := open_slI Tryz.underlying22 Tryz.underlying28 (by kernel_rfl) e3
  obtain ⟨Hd', c2⟩ := open_slI Tryz.underlying23 Tryz.underlying3 (by kernel_rfl) e4
  obtain ⟨B', c3, g3'⟩ := open_slG Tryz.underlying24 Tryz.underlying30 Tryz.underlying5 (by kernel_rfl) (by kernel_rfl) e5
  clear hA0 hval0
  refine (walk s h b s' h' b' S Hd S' Hd' B B' W a1 a2 a3 g3 c1 c2 c3 g3').mono fun e W' ⟨he, bel⟩ => ?_
  subst he
  exact ⟨_, rfl, _, _, _, [], _, [], hW', trodAll_mk1 (shut_bool Tryz.underlying4 _), (trodAll_cons_mk (Below.trod laidOut (by kernel_rfl) (of_decide_eq_true (by kernel_rfl)) k0 bel lt0) (trodAll_cons_mk (Below.trod laidOut (by kernel_rfl) (of_decide_eq_true (by kernel_rfl)) k1 bel lt1) trodAll_mk0)), rfl, bel.frame _, fun h => by cases h⟩
end Go.Proofs.YthgiikmajmndaaaGreat.viewDiffer
