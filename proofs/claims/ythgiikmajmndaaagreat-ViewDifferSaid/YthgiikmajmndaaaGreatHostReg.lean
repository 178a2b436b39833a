/- What the host sees, 3: the region in which view.Host grows its three lists. Conditions: three rows of their own, as 'HX' says. -/
import Derived.Test.YthgiikmajmndaaaGreatHost2b
set_option linter.unusedSimpArgs false
set_option linter.unusedVariables false
namespace Anc
open Go Go.RowKit
/-- the operations of a region, by its number -/
def findR (id : Nat) : Code → Option (Array Oper)
  | .region i ops _ => if i == id then some ops else none
  | .seq a b => match findR id a with
    | some x => some x
    | none => findR id b
  | .cond _ a b => match findR id a with
    | some x => some x
    | none => findR id b
  | .block _ a => findR id a
  | .loop a => findR id a
  | .scope a => findR id a
  | _ => none
def regOps (f : Func) (id : Nat) : Array Oper := ((f.body.bind (findR id)).getD #[])
def bsBlk (T : TypeId) (ps : Array (Nat × Value)) : Sem Value := Instr.buildSlice T 1 ps
end Anc
namespace Go.Proofs
open Go Go.RowKit Anc
theorem Tryz.obs22 (ps : Array (Nat × Value)) : Instr.buildSlice 22 1 ps = bsBlk 22 ps := rfl
theorem Tryz.bs22 (x : Int) (w : World) : (bsBlk 22 #[(0, .int .i64 x)]).run Tryz.prog w = .ok (.slice (some ⟨w.heap.size, 0, none⟩) 1 1) (w.alloc (.cells #[.int .i64 x] 28)) :=
  buildSlice_one (l := [.int .i64 x]) Tryz.underlying22 (k := 1) (by kernel_rfl) (by omega) (by omega) _ rfl rfl w
theorem Tryz.obs23 (ps : Array (Nat × Value)) : Instr.buildSlice 23 1 ps = bsBlk 23 ps := rfl
theorem Tryz.bs23 (x : Int) (w : World) : (bsBlk 23 #[(0, .int .i64 x)]).run Tryz.prog w = .ok (.slice (some ⟨w.heap.size, 0, none⟩) 1 1) (w.alloc (.cells #[.int .i64 x] 3)) :=
  buildSlice_one (l := [.int .i64 x]) Tryz.underlying23 (k := 1) (by kernel_rfl) (by omega) (by omega) _ rfl rfl w
theorem Tryz.obs24 (ps : Array (Nat × Value)) : Instr.buildSlice 24 1 ps = bsBlk 24 ps := rfl
theorem Tryz.bs24 (G : Bytes) (hG : G.length = 128) (w : World) : (bsBlk 24 #[(0, .agg (u8s G).toArray)]).run Tryz.prog w = .ok (.slice (some ⟨w.heap.size, 0, none⟩) 1 1) (w.alloc (.cells (u8s G).toArray 30)) :=
  buildSlice_one (l := u8s G) Tryz.underlying24 (k := 128) (by kernel_rfl) (by omega) (by omega) _ rfl (by rw [u8s_length, hG]) w
attribute [go_sem ↓] Tryz.obs22 Tryz.obs23 Tryz.obs24
attribute [go_sem] Tryz.bs22 Tryz.bs23 Tryz.bs24
theorem Tryz.info28 : (Tryz.prog.info? 28).map (fun i => (i.zero, i.size, i.bytes)) = some (some (.int .i64 0), 1, 8) := by kernel_rfl
set_option maxRecDepth 100000 in
set_option maxHeartbeats 4000000 in
theorem Tryz.hostReg (s0 s1 s2 s4 s5 s7 s9 s10 s11 s12 s13 s14 s15 s16 s17 s18 s19 s20 s21 s22 s23 s24 s25 s26 s27 s28 s29 s30 s31 s32 s33 s34 s35 s36 s37 s38 s39 s40 s41 s42 s43 s44 s45 s46 s47 s48 s49 s50 s51 s52 s53 s54 s55 s56 : Value) (w W0 : World) (b2 b3 b4 t6 : Nat) (c2 c4 : List Value) (q : RowG) (G : Bytes) (vS vH vB : Value) (S H : List Int) (Bs : List Bytes) (Q : Exit → Act → World → Prop)
    (hP : ∀ c a d v w, Q (.panic c) (Act.put a d v) w → Q (.panic c) a w) (hX : HX w W0.drew b2 b4 t6 c2 c4 [.int .i64 q.st, .int .u64 q.ow, .int .i64 q.hd] (u8s G) vS vH vB S H Bs) (hB : NW W0.drew b3 [vS, vH, vB])
    (h23 : b2 < b3) (h34 : b3 < b4) (h46 : b4 < t6) (hw3 : w.heap.size ≤ b3) (rS : RowB b4 t6 vS) (rH : RowB b4 t6 vH) (rB : RowB b4 t6 vB) (hGl : G.length = 128) (lS : S.length ≤ 5000) (lH : H.length ≤ 5000) (lB : Bs.length ≤ 5000)
    (hQ : ∀ (u35 u36 u37 u38 u39 u40 u41 u42 u43 u44 u45 u46 u47 u48 u49 u50 u51 u52 u53 u54 : Value) (W : World) (g5 c5 g11 c11 g16 c16 : Nat), HX w W b2 b4 t6 c2 c4 [.int .i64 q.st, .int .u64 q.ow, .int .i64 q.hd] (u8s G) (.slice (some ⟨g5, 0, none⟩) (S.length + 1) c5) (.slice (some ⟨g11, 0, none⟩) (H.length + 1) c11) (.slice (some ⟨g16, 0, none⟩) (Bs.length + 1) c16) (S ++ [q.st]) (H ++ [q.hd]) (Bs ++ [G]) →
      NW W b3 [.slice (some ⟨g5, 0, none⟩) (S.length + 1) c5, .slice (some ⟨g11, 0, none⟩) (H.length + 1) c11, .slice (some ⟨g16, 0, none⟩) (Bs.length + 1) c16] →
      Q .normal ⟨#[s0, s1, s2, .pointer (some ⟨b3, 0, none⟩), s4, s5, .pointer (some ⟨t6, 0, none⟩), s7, .pointer (some ⟨t6 + 1, 0, none⟩), s9, s10, s11, s12, s13, s14, s15, s16, s17, s18, s19, s20, s21, s22, s23, s24, s25, s26, s27, s28, s29, s30, s31, s32, s33, s34, u35, u36, u37, u38, u39, u40, u41, u42, u43, u44, u45, u46, u47, u48, u49, u50, u51, u52, u53, u54, s55, s56], []⟩ W) :
    (Code.region 10 (regOps Tryz.f21 10) true).wp Tryz.prog Q ⟨#[s0, s1, s2, .pointer (some ⟨b3, 0, none⟩), s4, s5, .pointer (some ⟨t6, 0, none⟩), s7, .pointer (some ⟨t6 + 1, 0, none⟩), s9, s10, s11, s12, s13, s14, s15, s16, s17, s18, s19, s20, s21, s22, s23, s24, s25, s26, s27, s28, s29, s30, s31, s32, s33, s34, s35, s36, s37, s38, s39, s40, s41, s42, s43, s44, s45, s46, s47, s48, s49, s50, s51, s52, s53, s54, s55, s56], []⟩ W0 := by
  dsimp only at hQ
  obtain ⟨i28, hi28, hz28, hs28, hb28⟩ := info_parts Tryz.info28
  obtain ⟨i3, hi3, hz3, hs3, hb3⟩ := info_parts Tryz.info3
  obtain ⟨i30, hi30, hz30, hs30, hb30⟩ := info_parts Tryz.info30
  have cS1 : S.length + 1 ≤ maxLen := by unfold maxLen; omega
  have cS2 : (S.length + 1) * 8 ≤ 140737488355328 := by omega
  have cH1 : H.length + 1 ≤ maxLen := by unfold maxLen; omega
  have cH2 : (H.length + 1) * 8 ≤ 140737488355328 := by omega
  have cB1 : Bs.length + 1 ≤ maxLen := by unfold maxLen; omega
  have cB2 : (Bs.length + 1) * 128 ≤ 140737488355328 := by omega
  have h24 : b2 < b4 := Nat.lt_trans h23 h34
  have hw4 : w.heap.size ≤ b4 := Nat.le_trans hw3 (Nat.le_of_lt h34)
  have hz := hX.n8.lt
  simp only [regOps, Tryz.f21, Option.bind_some, findR, Nat.reduceBEq, Bool.false_eq_true, if_true, if_false, Option.getD_some]
  refine wp_region_P (p := 18) (R := fun W => NW W t6 [.int .i64 q.st, .int .u64 q.ow, .int .i64 q.hd] ∧ NW W (t6 + 1) (u8s G)) (B := fun W => NW W b3 [vS, vH, vB]) (by kernel_rfl) ?_
  change wpAnyP _ _ _ _ _ _ 23 (Array.replicate 23 false) _ _
  generalize W0.drew = W0 at *

  refine wpAnyP_takeR (i := 0) (v := ?_) rfl (by kernel_rfl) (by kernel_rfl) (by kernel_rfl) (by decide) (fun _ => by kernel_rfl) (fun _ _ _ => hP _ _ _ _ _) (by rfl) ⟨hX.r, fun _ => hB⟩ (fun W hw => ?_) ?_
  rotate_left
  · obtain ⟨⟨_, _⟩, ⟨_, _⟩⟩ := hw; go_simp; try with_reducible rfl
  simp only [Act.put, List.setIfInBounds_toArray, List.set_cons_zero, List.set_cons_succ]
  refine wpAnyP_takeB (i := 1) (v := ?_) rfl (by kernel_rfl) (by kernel_rfl) (by kernel_rfl) (by decide) (by kernel_rfl) (by kernel_rfl) (fun _ _ _ => hP _ _ _ _ _) (by rfl) ⟨hX.r, fun _ => hB⟩ (fun W hw hv => ?_) ?_
  rotate_left
  · obtain ⟨_, _⟩ := hv; go_simp; try with_reducible rfl
  simp only [Act.put, List.setIfInBounds_toArray, List.set_cons_zero, List.set_cons_succ]
  refine wpAnyP_takeR (i := 2) (v := ?_) rfl (by kernel_rfl) (by kernel_rfl) (by kernel_rfl) (by decide) (fun _ => by kernel_rfl) (fun _ _ _ => hP _ _ _ _ _) (by rfl) ⟨hX.r, fun _ => hB⟩ (fun W hw => ?_) ?_
  rotate_left
  · obtain ⟨⟨_, _⟩, ⟨_, _⟩⟩ := hw; go_simp; try with_reducible rfl
  simp only [Act.put, List.setIfInBounds_toArray, List.set_cons_zero, List.set_cons_succ]
  refine wpAnyP_takeR (i := 3) (v := ?_) rfl (by kernel_rfl) (by kernel_rfl) (by kernel_rfl) (by decide) (fun _ => by kernel_rfl) (fun _ _ _ => hP _ _ _ _ _) (by rfl) ⟨hX.r, fun _ => hB⟩ (fun W hw => ?_) ?_
  rotate_left
  · obtain ⟨⟨_, _⟩, ⟨_, _⟩⟩ := hw; go_simp; try with_reducible rfl
  simp only [Act.put, List.setIfInBounds_toArray, List.set_cons_zero, List.set_cons_succ]
  refine wpAnyP_takeR (i := 6) (v := ?_) rfl (by kernel_rfl) (by kernel_rfl) (by kernel_rfl) (by decide) (fun _ => by kernel_rfl) (fun _ _ _ => hP _ _ _ _ _) (by rfl) ⟨hX.r, fun _ => hB⟩ (fun W hw => ?_) ?_
  rotate_left
  · obtain ⟨⟨_, _⟩, ⟨_, _⟩⟩ := hw; go_simp; try with_reducible rfl
  simp only [Act.put, List.setIfInBounds_toArray, List.set_cons_zero, List.set_cons_succ]
  refine wpAnyP_takeB (i := 7) (v := ?_) rfl (by kernel_rfl) (by kernel_rfl) (by kernel_rfl) (by decide) (by kernel_rfl) (by kernel_rfl) (fun _ _ _ => hP _ _ _ _ _) (by rfl) ⟨hX.r, fun _ => hB⟩ (fun W hw hv => ?_) ?_
  rotate_left
  · obtain ⟨_, _⟩ := hv; go_simp; try with_reducible rfl
  simp only [Act.put, List.setIfInBounds_toArray, List.set_cons_zero, List.set_cons_succ]
  refine wpAnyP_takeR (i := 8) (v := ?_) rfl (by kernel_rfl) (by kernel_rfl) (by kernel_rfl) (by decide) (fun _ => by kernel_rfl) (fun _ _ _ => hP _ _ _ _ _) (by rfl) ⟨hX.r, fun _ => hB⟩ (fun W hw => ?_) ?_
  rotate_left
  · obtain ⟨⟨_, _⟩, ⟨_, _⟩⟩ := hw; go_simp; try with_reducible rfl
  simp only [Act.put, List.setIfInBounds_toArray, List.set_cons_zero, List.set_cons_succ]
  refine wpAnyP_takeR (i := 9) (v := ?_) rfl (by kernel_rfl) (by kernel_rfl) (by kernel_rfl) (by decide) (fun _ => by kernel_rfl) (fun _ _ _ => hP _ _ _ _ _) (by rfl) ⟨hX.r, fun _ => hB⟩ (fun W hw => ?_) ?_
  rotate_left
  · obtain ⟨⟨_, _⟩, ⟨_, _⟩⟩ := hw; go_simp; try with_reducible rfl
  simp only [Act.put, List.setIfInBounds_toArray, List.set_cons_zero, List.set_cons_succ]
  refine wpAnyP_takeR (i := 12) (v := ?_) rfl (by kernel_rfl) (by kernel_rfl) (by kernel_rfl) (by decide) (fun _ => by kernel_rfl) (fun _ _ _ => hP _ _ _ _ _) (by rfl) ⟨hX.r, fun _ => hB⟩ (fun W hw => ?_) ?_
  rotate_left
  · obtain ⟨⟨_, _⟩, ⟨_, _⟩⟩ := hw; go_simp; try with_reducible rfl
  simp only [Act.put, List.setIfInBounds_toArray, List.set_cons_zero, List.set_cons_succ]
  refine wpAnyP_takeB (i := 13) (v := ?_) rfl (by kernel_rfl) (by kernel_rfl) (by kernel_rfl) (by decide) (by kernel_rfl) (by kernel_rfl) (fun _ _ _ => hP _ _ _ _ _) (by rfl) ⟨hX.r, fun _ => hB⟩ (fun W hw hv => ?_) ?_
  rotate_left
  · obtain ⟨_, _⟩ := hv; go_simp; try with_reducible rfl
  simp only [Act.put, List.setIfInBounds_toArray, List.set_cons_zero, List.set_cons_succ]
  refine wpAnyP_takeR (i := 14) (v := ?_) rfl (by kernel_rfl) (by kernel_rfl) (by kernel_rfl) (by decide) (fun _ => by kernel_rfl) (fun _ _ _ => hP _ _ _ _ _) (by rfl) ⟨hX.r, fun _ => hB⟩ (fun W hw => ?_) ?_
  rotate_left
  · obtain ⟨⟨_, _⟩, ⟨_, _⟩⟩ := hw; go_simp; try with_reducible rfl
  simp only [Act.put, List.setIfInBounds_toArray, List.set_cons_zero, List.set_cons_succ]
  refine wpAnyP_ready (rs := [4, 10, 15]) (by kernel_rfl) (by simp) ?_
  refine AllReadyP.cons rfl (fun K hK => ?_) ?_
  · --
    go_simp
    refine hK.out _ _ ⟨(hX.alloc _).r, fun _ => hB.alloc _⟩ ?_
    clear hK K
    try simp only [Act.put, List.setIfInBounds_toArray, List.set_cons_zero, List.set_cons_succ]
    replace hX := hX.alloc (.cells #[Value.int .i64 q.st] 28)
    replace hB := hB.alloc (.cells #[Value.int .i64 q.st] 28)
    have p4 := NW.new W0 #[Value.int .i64 q.st] 28
    have y4 : t6 ≤ W0.heap.size := by omega
    have zz : W0.heap.size < (W0.alloc (.cells #[Value.int .i64 q.st] 28)).heap.size := by simp
    generalize W0.alloc (.cells #[Value.int .i64 q.st] 28) = W1 at hX hB p4 zz ⊢
    replace hz := Nat.lt_trans hz zz
    clear zz
    refine wpAnyP_ready (rs := [5, 10, 15]) (by kernel_rfl) (by simp) ?_
    refine AllReadyP.cons rfl (fun K hK => ?_) ?_
    · --
      refine step_append_lies (w := W1) rfl _ _ 22 rfl (b4 + 1) 28 i28 (.int .i64 0) 1 8 Tryz.underlying22 hi28 hz28 hs28 hb28 rfl Nat.one_pos _ _ _ rfl hX.o.s ⟨W0.heap.size, 0, none⟩ 1 1 [.int .i64 q.st] rfl rfl p4.news (one_int _ _) Nat.one_pos cS1 cS2 (Nat.succ_le_of_lt hX.n4.lt) _ rfl ?_
      intro g5 c5 W2 ho hg hat _
      refine hK.out _ _ ⟨(hX.appS h24 hw4 rS ho hg hat).r, fun _ => hB.grown hg (rS.lo (Nat.le_of_lt h34))⟩ ?_
      clear hK K
      try simp only [Act.put, List.setIfInBounds_toArray, List.set_cons_zero, List.set_cons_succ]
      replace hX := hX.appS h24 hw4 rS ho hg hat
      replace hB := hB.grown hg (rS.lo (Nat.le_of_lt h34))
      replace hz := Nat.lt_of_lt_of_le hz hg.size
      clear ho hg hat p4
      refine wpAnyP_takeR (i := 17) (v := ?_) rfl (by kernel_rfl) (by kernel_rfl) (by kernel_rfl) (by decide) (fun _ => by kernel_rfl) (fun _ _ _ => hP _ _ _ _ _) (by rfl) ⟨hX.r, fun _ => hB⟩ (fun W hw => ?_) ?_
      rotate_left
      · obtain ⟨⟨_, _⟩, ⟨_, _⟩⟩ := hw; go_simp; try with_reducible rfl
      simp only [Act.put, List.setIfInBounds_toArray, List.set_cons_zero, List.set_cons_succ]
      refine wpAnyP_ready (rs := [10, 15]) (by kernel_rfl) (by simp) ?_
      refine AllReadyP.cons rfl (fun K hK => ?_) ?_
      · --
        go_simp
        refine hK.out _ _ ⟨(hX.alloc _).r, fun _ => hB.alloc _⟩ ?_
        clear hK K
        try simp only [Act.put, List.setIfInBounds_toArray, List.set_cons_zero, List.set_cons_succ]
        replace hX := hX.alloc (.cells #[Value.int .i64 q.hd] 3)
        replace hB := hB.alloc (.cells #[Value.int .i64 q.hd] 3)
        have p10 := NW.new W2 #[Value.int .i64 q.hd] 3
        have y10 : t6 ≤ W2.heap.size := by omega
        have zz : W2.heap.size < (W2.alloc (.cells #[Value.int .i64 q.hd] 3)).heap.size := by simp
        generalize W2.alloc (.cells #[Value.int .i64 q.hd] 3) = W3 at hX hB p10 zz ⊢
        replace hz := Nat.lt_trans hz zz
        clear zz
        refine wpAnyP_ready (rs := [11, 15]) (by kernel_rfl) (by simp) ?_
        refine AllReadyP.cons rfl (fun K hK => ?_) ?_
        · --
          refine step_append_lies (w := W3) rfl _ _ 23 rfl (b4 + 1) 3 i3 (.int .i64 0) 1 8 Tryz.underlying23 hi3 hz3 hs3 hb3 rfl Nat.one_pos _ _ _ rfl hX.o.h ⟨W2.heap.size, 0, none⟩ 1 1 [.int .i64 q.hd] rfl rfl p10.news (one_int _ _) Nat.one_pos cH1 cH2 (Nat.succ_le_of_lt hX.n4.lt) _ rfl ?_
          intro g11 c11 W4 ho hg hat _
          refine hK.out _ _ ⟨(hX.appH h24 hw4 rH ho hg hat).r, fun _ => hB.grown hg (rH.lo (Nat.le_of_lt h34))⟩ ?_
          clear hK K
          try simp only [Act.put, List.setIfInBounds_toArray, List.set_cons_zero, List.set_cons_succ]
          replace hX := hX.appH h24 hw4 rH ho hg hat
          replace hB := hB.grown hg (rH.lo (Nat.le_of_lt h34))
          replace hz := Nat.lt_of_lt_of_le hz hg.size
          clear ho hg hat p10
          refine wpAnyP_ready (rs := [15]) (by kernel_rfl) (by simp) ?_
          refine AllReadyP.cons rfl (fun K hK => ?_) ?_
          go_simp
          refine hK.out _ _ ⟨(hX.alloc _).r, fun _ => hB.alloc _⟩ ?_
          clear hK K
          try simp only [Act.put, List.setIfInBounds_toArray, List.set_cons_zero, List.set_cons_succ]
          replace hX := hX.alloc (.cells (u8s G).toArray 30)
          replace hB := hB.alloc (.cells (u8s G).toArray 30)
          have p15 := NW.new W4 (u8s G).toArray 30
          have y15 : t6 ≤ W4.heap.size := by omega
          have zz : W4.heap.size < (W4.alloc (.cells (u8s G).toArray 30)).heap.size := by simp
          generalize W4.alloc (.cells (u8s G).toArray 30) = W5 at hX hB p15 zz ⊢
          replace hz := Nat.lt_trans hz zz
          clear zz
          refine wpAnyP_ready (rs := [16]) (by kernel_rfl) (by simp) ?_
          refine AllReadyP.cons rfl (fun K hK => ?_) ?_
          refine step_append_lies (w := W5) rfl _ _ 24 rfl (b4 + 1) 30 i30 (.agg Tryz.zeroCells30) 128 128 Tryz.underlying24 hi30 hz30 hs30 hb30 Tryz.zeroCells30_size (Nat.succ_pos _) _ _ _ rfl hX.o.b ⟨W4.heap.size, 0, none⟩ 1 1 (u8s G) rfl (by rw [u8s_length, hGl]) p15.news ((oneL_u8s _).2 trivial) Nat.one_pos cB1 cB2 (Nat.succ_le_of_lt hX.n4.lt) _ rfl ?_
          intro g16 c16 W6 ho hg hat _
          refine hK.out _ _ ⟨(hX.appB h24 hw4 rB ho hg hat).r, fun _ => hB.grown hg (rB.lo (Nat.le_of_lt h34))⟩ ?_
          clear hK K
          try simp only [Act.put, List.setIfInBounds_toArray, List.set_cons_zero, List.set_cons_succ]
          replace hX := hX.appB h24 hw4 rB ho hg hat
          replace hB := hB.grown hg (rB.lo (Nat.le_of_lt h34))
          replace hz := Nat.lt_of_lt_of_le hz hg.size
          clear ho hg hat p15
          refine wpAnyP_ready (rs := [18]) (by kernel_rfl) (by simp) ?_
          refine AllReadyP.cons rfl (fun K hK => ?_) ?_
          obtain ⟨_, _⟩ := id hB
          go_simp
          refine hK.out _ _ ⟨(hX.set h23 h34 h46 hw3 0 _).r, fun h => nomatch (show true = false from h)⟩ ?_
          clear hK K
          try simp only [Act.put, List.setIfInBounds_toArray, List.set_cons_zero, List.set_cons_succ]
          replace hX := hX.set h23 h34 h46 hw3 0 (Value.slice (some ⟨g5, 0, none⟩) (S.length + 1) c5)
          replace hB := hB.set 0 (Value.slice (some ⟨g5, 0, none⟩) (S.length + 1) c5)
          simp only [List.set_cons_zero, List.set_cons_succ] at hB
          generalize W6.setCell ⟨b3, 0, none⟩ (Value.slice (some ⟨g5, 0, none⟩) (S.length + 1) c5) = W7 at hX hB ⊢
          rename_i _q1 _q2
          clear _q1 _q2
          refine wpAnyP_ready (rs := [19]) (by kernel_rfl) (by simp) ?_
          refine AllReadyP.cons rfl (fun K hK => ?_) ?_
          go_simp
          refine hK.out _ _ ⟨hX.r, fun h => nomatch (show true = false from h)⟩ ?_
          clear hK K
          try simp only [Act.put, List.setIfInBounds_toArray, List.set_cons_zero, List.set_cons_succ]
          refine wpAnyP_ready (rs := [20]) (by kernel_rfl) (by simp) ?_
          refine AllReadyP.cons rfl (fun K hK => ?_) ?_
          obtain ⟨_, _⟩ := id hB
          go_simp
          refine hK.out _ _ ⟨(hX.set h23 h34 h46 hw3 1 _).r, fun h => nomatch (show true = false from h)⟩ ?_
          clear hK K
          try simp only [Act.put, List.setIfInBounds_toArray, List.set_cons_zero, List.set_cons_succ]
          replace hX := hX.set h23 h34 h46 hw3 1 (Value.slice (some ⟨g11, 0, none⟩) (H.length + 1) c11)
          replace hB := hB.set 1 (Value.slice (some ⟨g11, 0, none⟩) (H.length + 1) c11)
          simp only [List.set_cons_zero, List.set_cons_succ] at hB
          generalize W7.setCell ⟨b3, 1, none⟩ (Value.slice (some ⟨g11, 0, none⟩) (H.length + 1) c11) = W9 at hX hB ⊢
          rename_i _q1 _q2
          clear _q1 _q2
          refine wpAnyP_ready (rs := [21]) (by kernel_rfl) (by simp) ?_
          refine AllReadyP.cons rfl (fun K hK => ?_) ?_
          go_simp
          refine hK.out _ _ ⟨hX.r, fun h => nomatch (show true = false from h)⟩ ?_
          clear hK K
          try simp only [Act.put, List.setIfInBounds_toArray, List.set_cons_zero, List.set_cons_succ]
          refine wpAnyP_ready (rs := [22]) (by kernel_rfl) (by simp) ?_
          refine AllReadyP.cons rfl (fun K hK => ?_) ?_
          obtain ⟨_, _⟩ := id hB
          go_simp
          refine hK.out _ _ ⟨(hX.set h23 h34 h46 hw3 2 _).r, fun h => nomatch (show true = false from h)⟩ ?_
          clear hK K
          try simp only [Act.put, List.setIfInBounds_toArray, List.set_cons_zero, List.set_cons_succ]
          replace hX := hX.set h23 h34 h46 hw3 2 (Value.slice (some ⟨g16, 0, none⟩) (Bs.length + 1) c16)
          replace hB := hB.set 2 (Value.slice (some ⟨g16, 0, none⟩) (Bs.length + 1) c16)
          simp only [List.set_cons_zero, List.set_cons_succ] at hB
          generalize W9.setCell ⟨b3, 2, none⟩ (Value.slice (some ⟨g16, 0, none⟩) (Bs.length + 1) c16) = W11 at hX hB ⊢
          rename_i _q1 _q2
          clear _q1 _q2
          refine wpAnyP_done (by kernel_rfl) ?_ _
          exact hQ _ _ _ _ _ _ _ _ _ _ _ _ _ _ _ _ _ _ _ _ _ _ _ _ _ _ _ hX hB
          exact AllReadyP.nil
          exact AllReadyP.nil
          exact AllReadyP.nil
          exact AllReadyP.nil
          exact AllReadyP.nil
          exact AllReadyP.nil
          exact AllReadyP.nil
        refine AllReadyP.cons rfl (fun K hK => ?_) ?_
        · --
          go_simp
          refine hK.out _ _ ⟨(hX.alloc _).r, fun _ => hB.alloc _⟩ ?_
          clear hK K
          try simp only [Act.put, List.setIfInBounds_toArray, List.set_cons_zero, List.set_cons_succ]
          replace hX := hX.alloc (.cells (u8s G).toArray 30)
          replace hB := hB.alloc (.cells (u8s G).toArray 30)
          have p15 := NW.new W3 (u8s G).toArray 30
          have y15 : t6 ≤ W3.heap.size := by omega
          replace p10 := p10.alloc (.cells (u8s G).toArray 30)
          have zz : W3.heap.size < (W3.alloc (.cells (u8s G).toArray 30)).heap.size := by simp
          generalize W3.alloc (.cells (u8s G).toArray 30) = W12 at hX hB p15 p10 zz ⊢
          replace hz := Nat.lt_trans hz zz
          clear zz
          refine wpAnyP_ready (rs := [11]) (by kernel_rfl) (by simp) ?_
          refine AllReadyP.cons rfl (fun K hK => ?_) ?_
          refine step_append_lies (w := W12) rfl _ _ 23 rfl (b4 + 1) 3 i3 (.int .i64 0) 1 8 Tryz.underlying23 hi3 hz3 hs3 hb3 rfl Nat.one_pos _ _ _ rfl hX.o.h ⟨W2.heap.size, 0, none⟩ 1 1 [.int .i64 q.hd] rfl rfl p10.news (one_int _ _) Nat.one_pos cH1 cH2 (Nat.succ_le_of_lt hX.n4.lt) _ rfl ?_
          intro g11 c11 W13 ho hg hat _
          refine hK.out _ _ ⟨(hX.appH h24 hw4 rH ho hg hat).r, fun _ => hB.grown hg (rH.lo (Nat.le_of_lt h34))⟩ ?_
          clear hK K
          try simp only [Act.put, List.setIfInBounds_toArray, List.set_cons_zero, List.set_cons_succ]
          replace hX := hX.appH h24 hw4 rH ho hg hat
          replace hB := hB.grown hg (rH.lo (Nat.le_of_lt h34))
          replace p15 := p15.grown hg (rH.hi (by omega))
          replace hz := Nat.lt_of_lt_of_le hz hg.size
          clear ho hg hat p10
          refine wpAnyP_ready (rs := [16]) (by kernel_rfl) (by simp) ?_
          refine AllReadyP.cons rfl (fun K hK => ?_) ?_
          refine step_append_lies (w := W13) rfl _ _ 24 rfl (b4 + 1) 30 i30 (.agg Tryz.zeroCells30) 128 128 Tryz.underlying24 hi30 hz30 hs30 hb30 Tryz.zeroCells30_size (Nat.succ_pos _) _ _ _ rfl hX.o.b ⟨W3.heap.size, 0, none⟩ 1 1 (u8s G) rfl (by rw [u8s_length, hGl]) p15.news ((oneL_u8s _).2 trivial) Nat.one_pos cB1 cB2 (Nat.succ_le_of_lt hX.n4.lt) _ rfl ?_
          intro g16 c16 W14 ho hg hat _
          refine hK.out _ _ ⟨(hX.appB h24 hw4 rB ho hg hat).r, fun _ => hB.grown hg (rB.lo (Nat.le_of_lt h34))⟩ ?_
          clear hK K
          try simp only [Act.put, List.setIfInBounds_toArray, List.set_cons_zero, List.set_cons_succ]
          replace hX := hX.appB h24 hw4 rB ho hg hat
          replace hB := hB.grown hg (rB.lo (Nat.le_of_lt h34))
          replace hz := Nat.lt_of_lt_of_le hz hg.size
          clear ho hg hat p15
          refine wpAnyP_ready (rs := [18]) (by kernel_rfl) (by simp) ?_
          refine AllReadyP.cons rfl (fun K hK => ?_) ?_
          obtain ⟨_, _⟩ := id hB
          go_simp
          refine hK.out _ _ ⟨(hX.set h23 h34 h46 hw3 0 _).r, fun h => nomatch (show true = false from h)⟩ ?_
          clear hK K
          try simp only [Act.put, List.setIfInBounds_toArray, List.set_cons_zero, List.set_cons_succ]
          replace hX := hX.set h23 h34 h46 hw3 0 (Value.slice (some ⟨g5, 0, none⟩) (S.length + 1) c5)
          replace hB := hB.set 0 (Value.slice (some ⟨g5, 0, none⟩) (S.length + 1) c5)
          simp only [List.set_cons_zero, List.set_cons_succ] at hB
          generalize W14.setCell ⟨b3, 0, none⟩ (Value.slice (some ⟨g5, 0, none⟩) (S.length + 1) c5) = W15 at hX hB ⊢
          rename_i _q1 _q2
          clear _q1 _q2
          refine wpAnyP_ready (rs := [19]) (by kernel_rfl) (by simp) ?_
          refine AllReadyP.cons rfl (fun K hK => ?_) ?_
          go_simp
          refine hK.out _ _ ⟨hX.r, fun h => nomatch (show true = false from h)⟩ ?_
          clear hK K
          try simp only [Act.put, List.setIfInBounds_toArray, List.set_cons_zero, List.set_cons_succ]
          refine wpAnyP_ready (rs := [20]) (by kernel_rfl) (by simp) ?_
          refine AllReadyP.cons rfl (fun K hK => ?_) ?_
          obtain ⟨_, _⟩ := id hB
          go_simp
          refine hK.out _ _ ⟨(hX.set h23 h34 h46 hw3 1 _).r, fun h => nomatch (show true = false from h)⟩ ?_
          clear hK K
          try simp only [Act.put, List.setIfInBounds_toArray, List.set_cons_zero, List.set_cons_succ]
          replace hX := hX.set h23 h34 h46 hw3 1 (Value.slice (some ⟨g11, 0, none⟩) (H.length + 1) c11)
          replace hB := hB.set 1 (Value.slice (some ⟨g11, 0, none⟩) (H.length + 1) c11)
          simp only [List.set_cons_zero, List.set_cons_succ] at hB
          generalize W15.setCell ⟨b3, 1, none⟩ (Value.slice (some ⟨g11, 0, none⟩) (H.length + 1) c11) = W17 at hX hB ⊢
          rename_i _q1 _q2
          clear _q1 _q2
          refine wpAnyP_ready (rs := [21]) (by kernel_rfl) (by simp) ?_
          refine AllReadyP.cons rfl (fun K hK => ?_) ?_
          go_simp
          refine hK.out _ _ ⟨hX.r, fun h => nomatch (show true = false from h)⟩ ?_
          clear hK K
          try simp only [Act.put, List.setIfInBounds_toArray, List.set_cons_zero, List.set_cons_succ]
          refine wpAnyP_ready (rs := [22]) (by kernel_rfl) (by simp) ?_
          refine AllReadyP.cons rfl (fun K hK => ?_) ?_
          obtain ⟨_, _⟩ := id hB
          go_simp
          refine hK.out _ _ ⟨(hX.set h23 h34 h46 hw3 2 _).r, fun h => nomatch (show true = false from h)⟩ ?_
          clear hK K
          try simp only [Act.put, List.setIfInBounds_toArray, List.set_cons_zero, List.set_cons_succ]
          replace hX := hX.set h23 h34 h46 hw3 2 (Value.slice (some ⟨g16, 0, none⟩) (Bs.length + 1) c16)
          replace hB := hB.set 2 (Value.slice (some ⟨g16, 0, none⟩) (Bs.length + 1) c16)
          simp only [List.set_cons_zero, List.set_cons_succ] at hB
          generalize W17.setCell ⟨b3, 2, none⟩ (Value.slice (some ⟨g16, 0, none⟩) (Bs.length + 1) c16) = W19 at hX hB ⊢
          rename_i _q1 _q2
          clear _q1 _q2
          refine wpAnyP_done (by kernel_rfl) ?_ _
          exact hQ _ _ _ _ _ _ _ _ _ _ _ _ _ _ _ _ _ _ _ _ _ _ _ _ _ _ _ hX hB
          exact AllReadyP.nil
          exact AllReadyP.nil
          exact AllReadyP.nil
          exact AllReadyP.nil
          exact AllReadyP.nil
          exact AllReadyP.nil
          exact AllReadyP.nil
        exact AllReadyP.nil
      refine AllReadyP.cons rfl (fun K hK => ?_) ?_
      · --
        go_simp
        refine hK.out _ _ ⟨(hX.alloc _).r, fun _ => hB.alloc _⟩ ?_
        clear hK K
        try simp only [Act.put, List.setIfInBounds_toArray, List.set_cons_zero, List.set_cons_succ]
        replace hX := hX.alloc (.cells (u8s G).toArray 30)
        replace hB := hB.alloc (.cells (u8s G).toArray 30)
        have p15 := NW.new W2 (u8s G).toArray 30
        have y15 : t6 ≤ W2.heap.size := by omega
        have zz : W2.heap.size < (W2.alloc (.cells (u8s G).toArray 30)).heap.size := by simp
        generalize W2.alloc (.cells (u8s G).toArray 30) = W20 at hX hB p15 zz ⊢
        replace hz := Nat.lt_trans hz zz
        clear zz
        refine wpAnyP_ready (rs := [10]) (by kernel_rfl) (by simp) ?_
        refine AllReadyP.cons rfl (fun K hK => ?_) ?_
        go_simp
        refine hK.out _ _ ⟨(hX.alloc _).r, fun _ => hB.alloc _⟩ ?_
        clear hK K
        try simp only [Act.put, List.setIfInBounds_toArray, List.set_cons_zero, List.set_cons_succ]
        replace hX := hX.alloc (.cells #[Value.int .i64 q.hd] 3)
        replace hB := hB.alloc (.cells #[Value.int .i64 q.hd] 3)
        have p10 := NW.new W20 #[Value.int .i64 q.hd] 3
        have y10 : t6 ≤ W20.heap.size := by omega
        replace p15 := p15.alloc (.cells #[Value.int .i64 q.hd] 3)
        have zz : W20.heap.size < (W20.alloc (.cells #[Value.int .i64 q.hd] 3)).heap.size := by simp
        generalize W20.alloc (.cells #[Value.int .i64 q.hd] 3) = W21 at hX hB p10 p15 zz ⊢
        replace hz := Nat.lt_trans hz zz
        clear zz
        refine wpAnyP_ready (rs := [11]) (by kernel_rfl) (by simp) ?_
        refine AllReadyP.cons rfl (fun K hK => ?_) ?_
        refine step_append_lies (w := W21) rfl _ _ 23 rfl (b4 + 1) 3 i3 (.int .i64 0) 1 8 Tryz.underlying23 hi3 hz3 hs3 hb3 rfl Nat.one_pos _ _ _ rfl hX.o.h ⟨W20.heap.size, 0, none⟩ 1 1 [.int .i64 q.hd] rfl rfl p10.news (one_int _ _) Nat.one_pos cH1 cH2 (Nat.succ_le_of_lt hX.n4.lt) _ rfl ?_
        intro g11 c11 W22 ho hg hat _
        refine hK.out _ _ ⟨(hX.appH h24 hw4 rH ho hg hat).r, fun _ => hB.grown hg (rH.lo (Nat.le_of_lt h34))⟩ ?_
        clear hK K
        try simp only [Act.put, List.setIfInBounds_toArray, List.set_cons_zero, List.set_cons_succ]
        replace hX := hX.appH h24 hw4 rH ho hg hat
        replace hB := hB.grown hg (rH.lo (Nat.le_of_lt h34))
        replace p15 := p15.grown hg (rH.hi (by omega))
        replace hz := Nat.lt_of_lt_of_le hz hg.size
        clear ho hg hat p10
        refine wpAnyP_ready (rs := [16]) (by kernel_rfl) (by simp) ?_
        refine AllReadyP.cons rfl (fun K hK => ?_) ?_
        refine step_append_lies (w := W22) rfl _ _ 24 rfl (b4 + 1) 30 i30 (.agg Tryz.zeroCells30) 128 128 Tryz.underlying24 hi30 hz30 hs30 hb30 Tryz.zeroCells30_size (Nat.succ_pos _) _ _ _ rfl hX.o.b ⟨W2.heap.size, 0, none⟩ 1 1 (u8s G) rfl (by rw [u8s_length, hGl]) p15.news ((oneL_u8s _).2 trivial) Nat.one_pos cB1 cB2 (Nat.succ_le_of_lt hX.n4.lt) _ rfl ?_
        intro g16 c16 W23 ho hg hat _
        refine hK.out _ _ ⟨(hX.appB h24 hw4 rB ho hg hat).r, fun _ => hB.grown hg (rB.lo (Nat.le_of_lt h34))⟩ ?_
        clear hK K
        try simp only [Act.put, List.setIfInBounds_toArray, List.set_cons_zero, List.set_cons_succ]
        replace hX := hX.appB h24 hw4 rB ho hg hat
        replace hB := hB.grown hg (rB.lo (Nat.le_of_lt h34))
        replace hz := Nat.lt_of_lt_of_le hz hg.size
        clear ho hg hat p15
        refine wpAnyP_ready (rs := [18]) (by kernel_rfl) (by simp) ?_
        refine AllReadyP.cons rfl (fun K hK => ?_) ?_
        obtain ⟨_, _⟩ := id hB
        go_simp
        refine hK.out _ _ ⟨(hX.set h23 h34 h46 hw3 0 _).r, fun h => nomatch (show true = false from h)⟩ ?_
        clear hK K
        try simp only [Act.put, List.setIfInBounds_toArray, List.set_cons_zero, List.set_cons_succ]
        replace hX := hX.set h23 h34 h46 hw3 0 (Value.slice (some ⟨g5, 0, none⟩) (S.length + 1) c5)
        replace hB := hB.set 0 (Value.slice (some ⟨g5, 0, none⟩) (S.length + 1) c5)
        simp only [List.set_cons_zero, List.set_cons_succ] at hB
        generalize W23.setCell ⟨b3, 0, none⟩ (Value.slice (some ⟨g5, 0, none⟩) (S.length + 1) c5) = W24 at hX hB ⊢
        rename_i _q1 _q2
        clear _q1 _q2
        refine wpAnyP_ready (rs := [19]) (by kernel_rfl) (by simp) ?_
        refine AllReadyP.cons rfl (fun K hK => ?_) ?_
        go_simp
        refine hK.out _ _ ⟨hX.r, fun h => nomatch (show true = false from h)⟩ ?_
        clear hK K
        try simp only [Act.put, List.setIfInBounds_toArray, List.set_cons_zero, List.set_cons_succ]
        refine wpAnyP_ready (rs := [20]) (by kernel_rfl) (by simp) ?_
        refine AllReadyP.cons rfl (fun K hK => ?_) ?_
        obtain ⟨_, _⟩ := id hB
        go_simp
        refine hK.out _ _ ⟨(hX.set h23 h34 h46 hw3 1 _).r, fun h => nomatch (show true = false from h)⟩ ?_
        clear hK K
        try simp only [Act.put, List.setIfInBounds_toArray, List.set_cons_zero, List.set_cons_succ]
        replace hX := hX.set h23 h34 h46 hw3 1 (Value.slice (some ⟨g11, 0, none⟩) (H.length + 1) c11)
        replace hB := hB.set 1 (Value.slice (some ⟨g11, 0, none⟩) (H.length + 1) c11)
        simp only [List.set_cons_zero, List.set_cons_succ] at hB
        generalize W24.setCell ⟨b3, 1, none⟩ (Value.slice (some ⟨g11, 0, none⟩) (H.length + 1) c11) = W26 at hX hB ⊢
        rename_i _q1 _q2
        clear _q1 _q2
        refine wpAnyP_ready (rs := [21]) (by kernel_rfl) (by simp) ?_
        refine AllReadyP.cons rfl (fun K hK => ?_) ?_
        go_simp
        refine hK.out _ _ ⟨hX.r, fun h => nomatch (show true = false from h)⟩ ?_
        clear hK K
        try simp only [Act.put, List.setIfInBounds_toArray, List.set_cons_zero, List.set_cons_succ]
        refine wpAnyP_ready (rs := [22]) (by kernel_rfl) (by simp) ?_
        refine AllReadyP.cons rfl (fun K hK => ?_) ?_
        obtain ⟨_, _⟩ := id hB
        go_simp
        refine hK.out _ _ ⟨(hX.set h23 h34 h46 hw3 2 _).r, fun h => nomatch (show true = false from h)⟩ ?_
        clear hK K
        try simp only [Act.put, List.setIfInBounds_toArray, List.set_cons_zero, List.set_cons_succ]
        replace hX := hX.set h23 h34 h46 hw3 2 (Value.slice (some ⟨g16, 0, none⟩) (Bs.length + 1) c16)
        replace hB := hB.set 2 (Value.slice (some ⟨g16, 0, none⟩) (Bs.length + 1) c16)
        simp only [List.set_cons_zero, List.set_cons_succ] at hB
        generalize W26.setCell ⟨b3, 2, none⟩ (Value.slice (some ⟨g16, 0, none⟩) (Bs.length + 1) c16) = W28 at hX hB ⊢
        rename_i _q1 _q2
        clear _q1 _q2
        refine wpAnyP_done (by kernel_rfl) ?_ _
        exact hQ _ _ _ _ _ _ _ _ _ _ _ _ _ _ _ _ _ _ _ _ _ _ _ _ _ _ _ hX hB
        exact AllReadyP.nil
        exact AllReadyP.nil
        exact AllReadyP.nil
        exact AllReadyP.nil
        exact AllReadyP.nil
        exact AllReadyP.nil
        exact AllReadyP.nil
        exact AllReadyP.nil
      exact AllReadyP.nil
    refine AllReadyP.cons rfl (fun K hK => ?_) ?_
    · --
      go_simp
      refine hK.out _ _ ⟨(hX.alloc _).r, fun _ => hB.alloc _⟩ ?_
      clear hK K
      try simp only [Act.put, List.setIfInBounds_toArray, List.set_cons_zero, List.set_cons_succ]
      replace hX := hX.alloc (.cells #[Value.int .i64 q.hd] 3)
      replace hB := hB.alloc (.cells #[Value.int .i64 q.hd] 3)
      have p10 := NW.new W1 #[Value.int .i64 q.hd] 3
      have y10 : t6 ≤ W1.heap.size := by omega
      replace p4 := p4.alloc (.cells #[Value.int .i64 q.hd] 3)
      have zz : W1.heap.size < (W1.alloc (.cells #[Value.int .i64 q.hd] 3)).heap.size := by simp
      generalize W1.alloc (.cells #[Value.int .i64 q.hd] 3) = W29 at hX hB p10 p4 zz ⊢
      replace hz := Nat.lt_trans hz zz
      clear zz
      refine wpAnyP_ready (rs := [5, 15]) (by kernel_rfl) (by simp) ?_
      refine AllReadyP.cons rfl (fun K hK => ?_) ?_
      · --
        refine step_append_lies (w := W29) rfl _ _ 22 rfl (b4 + 1) 28 i28 (.int .i64 0) 1 8 Tryz.underlying22 hi28 hz28 hs28 hb28 rfl Nat.one_pos _ _ _ rfl hX.o.s ⟨W0.heap.size, 0, none⟩ 1 1 [.int .i64 q.st] rfl rfl p4.news (one_int _ _) Nat.one_pos cS1 cS2 (Nat.succ_le_of_lt hX.n4.lt) _ rfl ?_
        intro g5 c5 W30 ho hg hat _
        refine hK.out _ _ ⟨(hX.appS h24 hw4 rS ho hg hat).r, fun _ => hB.grown hg (rS.lo (Nat.le_of_lt h34))⟩ ?_
        clear hK K
        try simp only [Act.put, List.setIfInBounds_toArray, List.set_cons_zero, List.set_cons_succ]
        replace hX := hX.appS h24 hw4 rS ho hg hat
        replace hB := hB.grown hg (rS.lo (Nat.le_of_lt h34))
        replace p10 := p10.grown hg (rS.hi (by omega))
        replace hz := Nat.lt_of_lt_of_le hz hg.size
        clear ho hg hat p4
        refine wpAnyP_takeR (i := 17) (v := ?_) rfl (by kernel_rfl) (by kernel_rfl) (by kernel_rfl) (by decide) (fun _ => by kernel_rfl) (fun _ _ _ => hP _ _ _ _ _) (by rfl) ⟨hX.r, fun _ => hB⟩ (fun W hw => ?_) ?_
        rotate_left
        · obtain ⟨⟨_, _⟩, ⟨_, _⟩⟩ := hw; go_simp; try with_reducible rfl
        simp only [Act.put, List.setIfInBounds_toArray, List.set_cons_zero, List.set_cons_succ]
        refine wpAnyP_ready (rs := [11, 15]) (by kernel_rfl) (by simp) ?_
        refine AllReadyP.cons rfl (fun K hK => ?_) ?_
        · --
          refine step_append_lies (w := W30) rfl _ _ 23 rfl (b4 + 1) 3 i3 (.int .i64 0) 1 8 Tryz.underlying23 hi3 hz3 hs3 hb3 rfl Nat.one_pos _ _ _ rfl hX.o.h ⟨W1.heap.size, 0, none⟩ 1 1 [.int .i64 q.hd] rfl rfl p10.news (one_int _ _) Nat.one_pos cH1 cH2 (Nat.succ_le_of_lt hX.n4.lt) _ rfl ?_
          intro g11 c11 W31 ho hg hat _
          refine hK.out _ _ ⟨(hX.appH h24 hw4 rH ho hg hat).r, fun _ => hB.grown hg (rH.lo (Nat.le_of_lt h34))⟩ ?_
          clear hK K
          try simp only [Act.put, List.setIfInBounds_toArray, List.set_cons_zero, List.set_cons_succ]
          replace hX := hX.appH h24 hw4 rH ho hg hat
          replace hB := hB.grown hg (rH.lo (Nat.le_of_lt h34))
          replace hz := Nat.lt_of_lt_of_le hz hg.size
          clear ho hg hat p10
          refine wpAnyP_ready (rs := [15]) (by kernel_rfl) (by simp) ?_
          refine AllReadyP.cons rfl (fun K hK => ?_) ?_
          go_simp
          refine hK.out _ _ ⟨(hX.alloc _).r, fun _ => hB.alloc _⟩ ?_
          clear hK K
          try simp only [Act.put, List.setIfInBounds_toArray, List.set_cons_zero, List.set_cons_succ]
          replace hX := hX.alloc (.cells (u8s G).toArray 30)
          replace hB := hB.alloc (.cells (u8s G).toArray 30)
          have p15 := NW.new W31 (u8s G).toArray 30
          have y15 : t6 ≤ W31.heap.size := by omega
          have zz : W31.heap.size < (W31.alloc (.cells (u8s G).toArray 30)).heap.size := by simp
          generalize W31.alloc (.cells (u8s G).toArray 30) = W32 at hX hB p15 zz ⊢
          replace hz := Nat.lt_trans hz zz
          clear zz
          refine wpAnyP_ready (rs := [16]) (by kernel_rfl) (by simp) ?_
          refine AllReadyP.cons rfl (fun K hK => ?_) ?_
          refine step_append_lies (w := W32) rfl _ _ 24 rfl (b4 + 1) 30 i30 (.agg Tryz.zeroCells30) 128 128 Tryz.underlying24 hi30 hz30 hs30 hb30 Tryz.zeroCells30_size (Nat.succ_pos _) _ _ _ rfl hX.o.b ⟨W31.heap.size, 0, none⟩ 1 1 (u8s G) rfl (by rw [u8s_length, hGl]) p15.news ((oneL_u8s _).2 trivial) Nat.one_pos cB1 cB2 (Nat.succ_le_of_lt hX.n4.lt) _ rfl ?_
          intro g16 c16 W33 ho hg hat _
          refine hK.out _ _ ⟨(hX.appB h24 hw4 rB ho hg hat).r, fun _ => hB.grown hg (rB.lo (Nat.le_of_lt h34))⟩ ?_
          clear hK K
          try simp only [Act.put, List.setIfInBounds_toArray, List.set_cons_zero, List.set_cons_succ]
          replace hX := hX.appB h24 hw4 rB ho hg hat
          replace hB := hB.grown hg (rB.lo (Nat.le_of_lt h34))
          replace hz := Nat.lt_of_lt_of_le hz hg.size
          clear ho hg hat p15
          refine wpAnyP_ready (rs := [18]) (by kernel_rfl) (by simp) ?_
          refine AllReadyP.cons rfl (fun K hK => ?_) ?_
          obtain ⟨_, _⟩ := id hB
          go_simp
          refine hK.out _ _ ⟨(hX.set h23 h34 h46 hw3 0 _).r, fun h => nomatch (show true = false from h)⟩ ?_
          clear hK K
          try simp only [Act.put, List.setIfInBounds_toArray, List.set_cons_zero, List.set_cons_succ]
          replace hX := hX.set h23 h34 h46 hw3 0 (Value.slice (some ⟨g5, 0, none⟩) (S.length + 1) c5)
          replace hB := hB.set 0 (Value.slice (some ⟨g5, 0, none⟩) (S.length + 1) c5)
          simp only [List.set_cons_zero, List.set_cons_succ] at hB
          generalize W33.setCell ⟨b3, 0, none⟩ (Value.slice (some ⟨g5, 0, none⟩) (S.length + 1) c5) = W34 at hX hB ⊢
          rename_i _q1 _q2
          clear _q1 _q2
          refine wpAnyP_ready (rs := [19]) (by kernel_rfl) (by simp) ?_
          refine AllReadyP.cons rfl (fun K hK => ?_) ?_
          go_simp
          refine hK.out _ _ ⟨hX.r, fun h => nomatch (show true = false from h)⟩ ?_
          clear hK K
          try simp only [Act.put, List.setIfInBounds_toArray, List.set_cons_zero, List.set_cons_succ]
          refine wpAnyP_ready (rs := [20]) (by kernel_rfl) (by simp) ?_
          refine AllReadyP.cons rfl (fun K hK => ?_) ?_
          obtain ⟨_, _⟩ := id hB
          go_simp
          refine hK.out _ _ ⟨(hX.set h23 h34 h46 hw3 1 _).r, fun h => nomatch (show true = false from h)⟩ ?_
          clear hK K
          try simp only [Act.put, List.setIfInBounds_toArray, List.set_cons_zero, List.set_cons_succ]
          replace hX := hX.set h23 h34 h46 hw3 1 (Value.slice (some ⟨g11, 0, none⟩) (H.length + 1) c11)
          replace hB := hB.set 1 (Value.slice (some ⟨g11, 0, none⟩) (H.length + 1) c11)
          simp only [List.set_cons_zero, List.set_cons_succ] at hB
          generalize W34.setCell ⟨b3, 1, none⟩ (Value.slice (some ⟨g11, 0, none⟩) (H.length + 1) c11) = W36 at hX hB ⊢
          rename_i _q1 _q2
          clear _q1 _q2
          refine wpAnyP_ready (rs := [21]) (by kernel_rfl) (by simp) ?_
          refine AllReadyP.cons rfl (fun K hK => ?_) ?_
          go_simp
          refine hK.out _ _ ⟨hX.r, fun h => nomatch (show true = false from h)⟩ ?_
          clear hK K
          try simp only [Act.put, List.setIfInBounds_toArray, List.set_cons_zero, List.set_cons_succ]
          refine wpAnyP_ready (rs := [22]) (by kernel_rfl) (by simp) ?_
          refine AllReadyP.cons rfl (fun K hK => ?_) ?_
          obtain ⟨_, _⟩ := id hB
          go_simp
          refine hK.out _ _ ⟨(hX.set h23 h34 h46 hw3 2 _).r, fun h => nomatch (show true = false from h)⟩ ?_
          clear hK K
          try simp only [Act.put, List.setIfInBounds_toArray, List.set_cons_zero, List.set_cons_succ]
          replace hX := hX.set h23 h34 h46 hw3 2 (Value.slice (some ⟨g16, 0, none⟩) (Bs.length + 1) c16)
          replace hB := hB.set 2 (Value.slice (some ⟨g16, 0, none⟩) (Bs.length + 1) c16)
          simp only [List.set_cons_zero, List.set_cons_succ] at hB
          generalize W36.setCell ⟨b3, 2, none⟩ (Value.slice (some ⟨g16, 0, none⟩) (Bs.length + 1) c16) = W38 at hX hB ⊢
          rename_i _q1 _q2
          clear _q1 _q2
          refine wpAnyP_done (by kernel_rfl) ?_ _
          exact hQ _ _ _ _ _ _ _ _ _ _ _ _ _ _ _ _ _ _ _ _ _ _ _ _ _ _ _ hX hB
          exact AllReadyP.nil
          exact AllReadyP.nil
          exact AllReadyP.nil
          exact AllReadyP.nil
          exact AllReadyP.nil
          exact AllReadyP.nil
          exact AllReadyP.nil
        refine AllReadyP.cons rfl (fun K hK => ?_) ?_
        · --
          go_simp
          refine hK.out _ _ ⟨(hX.alloc _).r, fun _ => hB.alloc _⟩ ?_
          clear hK K
          try simp only [Act.put, List.setIfInBounds_toArray, List.set_cons_zero, List.set_cons_succ]
          replace hX := hX.alloc (.cells (u8s G).toArray 30)
          replace hB := hB.alloc (.cells (u8s G).toArray 30)
          have p15 := NW.new W30 (u8s G).toArray 30
          have y15 : t6 ≤ W30.heap.size := by omega
          replace p10 := p10.alloc (.cells (u8s G).toArray 30)
          have zz : W30.heap.size < (W30.alloc (.cells (u8s G).toArray 30)).heap.size := by simp
          generalize W30.alloc (.cells (u8s G).toArray 30) = W39 at hX hB p15 p10 zz ⊢
          replace hz := Nat.lt_trans hz zz
          clear zz
          refine wpAnyP_ready (rs := [11]) (by kernel_rfl) (by simp) ?_
          refine AllReadyP.cons rfl (fun K hK => ?_) ?_
          refine step_append_lies (w := W39) rfl _ _ 23 rfl (b4 + 1) 3 i3 (.int .i64 0) 1 8 Tryz.underlying23 hi3 hz3 hs3 hb3 rfl Nat.one_pos _ _ _ rfl hX.o.h ⟨W1.heap.size, 0, none⟩ 1 1 [.int .i64 q.hd] rfl rfl p10.news (one_int _ _) Nat.one_pos cH1 cH2 (Nat.succ_le_of_lt hX.n4.lt) _ rfl ?_
          intro g11 c11 W40 ho hg hat _
          refine hK.out _ _ ⟨(hX.appH h24 hw4 rH ho hg hat).r, fun _ => hB.grown hg (rH.lo (Nat.le_of_lt h34))⟩ ?_
          clear hK K
          try simp only [Act.put, List.setIfInBounds_toArray, List.set_cons_zero, List.set_cons_succ]
          replace hX := hX.appH h24 hw4 rH ho hg hat
          replace hB := hB.grown hg (rH.lo (Nat.le_of_lt h34))
          replace p15 := p15.grown hg (rH.hi (by omega))
          replace hz := Nat.lt_of_lt_of_le hz hg.size
          clear ho hg hat p10
          refine wpAnyP_ready (rs := [16]) (by kernel_rfl) (by simp) ?_
          refine AllReadyP.cons rfl (fun K hK => ?_) ?_
          refine step_append_lies (w := W40) rfl _ _ 24 rfl (b4 + 1) 30 i30 (.agg Tryz.zeroCells30) 128 128 Tryz.underlying24 hi30 hz30 hs30 hb30 Tryz.zeroCells30_size (Nat.succ_pos _) _ _ _ rfl hX.o.b ⟨W30.heap.size, 0, none⟩ 1 1 (u8s G) rfl (by rw [u8s_length, hGl]) p15.news ((oneL_u8s _).2 trivial) Nat.one_pos cB1 cB2 (Nat.succ_le_of_lt hX.n4.lt) _ rfl ?_
          intro g16 c16 W41 ho hg hat _
          refine hK.out _ _ ⟨(hX.appB h24 hw4 rB ho hg hat).r, fun _ => hB.grown hg (rB.lo (Nat.le_of_lt h34))⟩ ?_
          clear hK K
          try simp only [Act.put, List.setIfInBounds_toArray, List.set_cons_zero, List.set_cons_succ]
          replace hX := hX.appB h24 hw4 rB ho hg hat
          replace hB := hB.grown hg (rB.lo (Nat.le_of_lt h34))
          replace hz := Nat.lt_of_lt_of_le hz hg.size
          clear ho hg hat p15
          refine wpAnyP_ready (rs := [18]) (by kernel_rfl) (by simp) ?_
          refine AllReadyP.cons rfl (fun K hK => ?_) ?_
          obtain ⟨_, _⟩ := id hB
          go_simp
          refine hK.out _ _ ⟨(hX.set h23 h34 h46 hw3 0 _).r, fun h => nomatch (show true = false from h)⟩ ?_
          clear hK K
          try simp only [Act.put, List.setIfInBounds_toArray, List.set_cons_zero, List.set_cons_succ]
          replace hX := hX.set h23 h34 h46 hw3 0 (Value.slice (some ⟨g5, 0, none⟩) (S.length + 1) c5)
          replace hB := hB.set 0 (Value.slice (some ⟨g5, 0, none⟩) (S.length + 1) c5)
          simp only [List.set_cons_zero, List.set_cons_succ] at hB
          generalize W41.setCell ⟨b3, 0, none⟩ (Value.slice (some ⟨g5, 0, none⟩) (S.length + 1) c5) = W42 at hX hB ⊢
          rename_i _q1 _q2
          clear _q1 _q2
          refine wpAnyP_ready (rs := [19]) (by kernel_rfl) (by simp) ?_
          refine AllReadyP.cons rfl (fun K hK => ?_) ?_
          go_simp
          refine hK.out _ _ ⟨hX.r, fun h => nomatch (show true = false from h)⟩ ?_
          clear hK K
          try simp only [Act.put, List.setIfInBounds_toArray, List.set_cons_zero, List.set_cons_succ]
          refine wpAnyP_ready (rs := [20]) (by kernel_rfl) (by simp) ?_
          refine AllReadyP.cons rfl (fun K hK => ?_) ?_
          obtain ⟨_, _⟩ := id hB
          go_simp
          refine hK.out _ _ ⟨(hX.set h23 h34 h46 hw3 1 _).r, fun h => nomatch (show true = false from h)⟩ ?_
          clear hK K
          try simp only [Act.put, List.setIfInBounds_toArray, List.set_cons_zero, List.set_cons_succ]
          replace hX := hX.set h23 h34 h46 hw3 1 (Value.slice (some ⟨g11, 0, none⟩) (H.length + 1) c11)
          replace hB := hB.set 1 (Value.slice (some ⟨g11, 0, none⟩) (H.length + 1) c11)
          simp only [List.set_cons_zero, List.set_cons_succ] at hB
          generalize W42.setCell ⟨b3, 1, none⟩ (Value.slice (some ⟨g11, 0, none⟩) (H.length + 1) c11) = W44 at hX hB ⊢
          rename_i _q1 _q2
          clear _q1 _q2
          refine wpAnyP_ready (rs := [21]) (by kernel_rfl) (by simp) ?_
          refine AllReadyP.cons rfl (fun K hK => ?_) ?_
          go_simp
          refine hK.out _ _ ⟨hX.r, fun h => nomatch (show true = false from h)⟩ ?_
          clear hK K
          try simp only [Act.put, List.setIfInBounds_toArray, List.set_cons_zero, List.set_cons_succ]
          refine wpAnyP_ready (rs := [22]) (by kernel_rfl) (by simp) ?_
          refine AllReadyP.cons rfl (fun K hK => ?_) ?_
          obtain ⟨_, _⟩ := id hB
          go_simp
          refine hK.out _ _ ⟨(hX.set h23 h34 h46 hw3 2 _).r, fun h => nomatch (show true = false from h)⟩ ?_
          clear hK K
          try simp only [Act.put, List.setIfInBounds_toArray, List.set_cons_zero, List.set_cons_succ]
          replace hX := hX.set h23 h34 h46 hw3 2 (Value.slice (some ⟨g16, 0, none⟩) (Bs.length + 1) c16)
          replace hB := hB.set 2 (Value.slice (some ⟨g16, 0, none⟩) (Bs.length + 1) c16)
          simp only [List.set_cons_zero, List.set_cons_succ] at hB
          generalize W44.setCell ⟨b3, 2, none⟩ (Value.slice (some ⟨g16, 0, none⟩) (Bs.length + 1) c16) = W46 at hX hB ⊢
          rename_i _q1 _q2
          clear _q1 _q2
          refine wpAnyP_done (by kernel_rfl) ?_ _
          exact hQ _ _ _ _ _ _ _ _ _ _ _ _ _ _ _ _ _ _ _ _ _ _ _ _ _ _ _ hX hB
          exact AllReadyP.nil
          exact AllReadyP.nil
          exact AllReadyP.nil
          exact AllReadyP.nil
          exact AllReadyP.nil
          exact AllReadyP.nil
          exact AllReadyP.nil
        exact AllReadyP.nil
      refine AllReadyP.cons rfl (fun K hK => ?_) ?_
      · --
        go_simp
        refine hK.out _ _ ⟨(hX.alloc _).r, fun _ => hB.alloc _⟩ ?_
        clear hK K
        try simp only [Act.put, List.setIfInBounds_toArray, List.set_cons_zero, List.set_cons_succ]
        replace hX := hX.alloc (.cells (u8s G).toArray 30)
        replace hB := hB.alloc (.cells (u8s G).toArray 30)
        have p15 := NW.new W29 (u8s G).toArray 30
        have y15 : t6 ≤ W29.heap.size := by omega
        replace p4 := p4.alloc (.cells (u8s G).toArray 30)
        replace p10 := p10.alloc (.cells (u8s G).toArray 30)
        have zz : W29.heap.size < (W29.alloc (.cells (u8s G).toArray 30)).heap.size := by simp
        generalize W29.alloc (.cells (u8s G).toArray 30) = W47 at hX hB p15 p4 p10 zz ⊢
        replace hz := Nat.lt_trans hz zz
        clear zz
        refine wpAnyP_ready (rs := [5]) (by kernel_rfl) (by simp) ?_
        refine AllReadyP.cons rfl (fun K hK => ?_) ?_
        refine step_append_lies (w := W47) rfl _ _ 22 rfl (b4 + 1) 28 i28 (.int .i64 0) 1 8 Tryz.underlying22 hi28 hz28 hs28 hb28 rfl Nat.one_pos _ _ _ rfl hX.o.s ⟨W0.heap.size, 0, none⟩ 1 1 [.int .i64 q.st] rfl rfl p4.news (one_int _ _) Nat.one_pos cS1 cS2 (Nat.succ_le_of_lt hX.n4.lt) _ rfl ?_
        intro g5 c5 W48 ho hg hat _
        refine hK.out _ _ ⟨(hX.appS h24 hw4 rS ho hg hat).r, fun _ => hB.grown hg (rS.lo (Nat.le_of_lt h34))⟩ ?_
        clear hK K
        try simp only [Act.put, List.setIfInBounds_toArray, List.set_cons_zero, List.set_cons_succ]
        replace hX := hX.appS h24 hw4 rS ho hg hat
        replace hB := hB.grown hg (rS.lo (Nat.le_of_lt h34))
        replace p10 := p10.grown hg (rS.hi (by omega))
        replace p15 := p15.grown hg (rS.hi (by omega))
        replace hz := Nat.lt_of_lt_of_le hz hg.size
        clear ho hg hat p4
        refine wpAnyP_takeR (i := 17) (v := ?_) rfl (by kernel_rfl) (by kernel_rfl) (by kernel_rfl) (by decide) (fun _ => by kernel_rfl) (fun _ _ _ => hP _ _ _ _ _) (by rfl) ⟨hX.r, fun _ => hB⟩ (fun W hw => ?_) ?_
        rotate_left
        · obtain ⟨⟨_, _⟩, ⟨_, _⟩⟩ := hw; go_simp; try with_reducible rfl
        simp only [Act.put, List.setIfInBounds_toArray, List.set_cons_zero, List.set_cons_succ]
        refine wpAnyP_ready (rs := [11]) (by kernel_rfl) (by simp) ?_
        refine AllReadyP.cons rfl (fun K hK => ?_) ?_
        refine step_append_lies (w := W48) rfl _ _ 23 rfl (b4 + 1) 3 i3 (.int .i64 0) 1 8 Tryz.underlying23 hi3 hz3 hs3 hb3 rfl Nat.one_pos _ _ _ rfl hX.o.h ⟨W1.heap.size, 0, none⟩ 1 1 [.int .i64 q.hd] rfl rfl p10.news (one_int _ _) Nat.one_pos cH1 cH2 (Nat.succ_le_of_lt hX.n4.lt) _ rfl ?_
        intro g11 c11 W49 ho hg hat _
        refine hK.out _ _ ⟨(hX.appH h24 hw4 rH ho hg hat).r, fun _ => hB.grown hg (rH.lo (Nat.le_of_lt h34))⟩ ?_
        clear hK K
        try simp only [Act.put, List.setIfInBounds_toArray, List.set_cons_zero, List.set_cons_succ]
        replace hX := hX.appH h24 hw4 rH ho hg hat
        replace hB := hB.grown hg (rH.lo (Nat.le_of_lt h34))
        replace p15 := p15.grown hg (rH.hi (by omega))
        replace hz := Nat.lt_of_lt_of_le hz hg.size
        clear ho hg hat p10
        refine wpAnyP_ready (rs := [16]) (by kernel_rfl) (by simp) ?_
        refine AllReadyP.cons rfl (fun K hK => ?_) ?_
        refine step_append_lies (w := W49) rfl _ _ 24 rfl (b4 + 1) 30 i30 (.agg Tryz.zeroCells30) 128 128 Tryz.underlying24 hi30 hz30 hs30 hb30 Tryz.zeroCells30_size (Nat.succ_pos _) _ _ _ rfl hX.o.b ⟨W29.heap.size, 0, none⟩ 1 1 (u8s G) rfl (by rw [u8s_length, hGl]) p15.news ((oneL_u8s _).2 trivial) Nat.one_pos cB1 cB2 (Nat.succ_le_of_lt hX.n4.lt) _ rfl ?_
        intro g16 c16 W50 ho hg hat _
        refine hK.out _ _ ⟨(hX.appB h24 hw4 rB ho hg hat).r, fun _ => hB.grown hg (rB.lo (Nat.le_of_lt h34))⟩ ?_
        clear hK K
        try simp only [Act.put, List.setIfInBounds_toArray, List.set_cons_zero, List.set_cons_succ]
        replace hX := hX.appB h24 hw4 rB ho hg hat
        replace hB := hB.grown hg (rB.lo (Nat.le_of_lt h34))
        replace hz := Nat.lt_of_lt_of_le hz hg.size
        clear ho hg hat p15
        refine wpAnyP_ready (rs := [18]) (by kernel_rfl) (by simp) ?_
        refine AllReadyP.cons rfl (fun K hK => ?_) ?_
        obtain ⟨_, _⟩ := id hB
        go_simp
        refine hK.out _ _ ⟨(hX.set h23 h34 h46 hw3 0 _).r, fun h => nomatch (show true = false from h)⟩ ?_
        clear hK K
        try simp only [Act.put, List.setIfInBounds_toArray, List.set_cons_zero, List.set_cons_succ]
        replace hX := hX.set h23 h34 h46 hw3 0 (Value.slice (some ⟨g5, 0, none⟩) (S.length + 1) c5)
        replace hB := hB.set 0 (Value.slice (some ⟨g5, 0, none⟩) (S.length + 1) c5)
        simp only [List.set_cons_zero, List.set_cons_succ] at hB
        generalize W50.setCell ⟨b3, 0, none⟩ (Value.slice (some ⟨g5, 0, none⟩) (S.length + 1) c5) = W51 at hX hB ⊢
        rename_i _q1 _q2
        clear _q1 _q2
        refine wpAnyP_ready (rs := [19]) (by kernel_rfl) (by simp) ?_
        refine AllReadyP.cons rfl (fun K hK => ?_) ?_
        go_simp
        refine hK.out _ _ ⟨hX.r, fun h => nomatch (show true = false from h)⟩ ?_
        clear hK K
        try simp only [Act.put, List.setIfInBounds_toArray, List.set_cons_zero, List.set_cons_succ]
        refine wpAnyP_ready (rs := [20]) (by kernel_rfl) (by simp) ?_
        refine AllReadyP.cons rfl (fun K hK => ?_) ?_
        obtain ⟨_, _⟩ := id hB
        go_simp
        refine hK.out _ _ ⟨(hX.set h23 h34 h46 hw3 1 _).r, fun h => nomatch (show true = false from h)⟩ ?_
        clear hK K
        try simp only [Act.put, List.setIfInBounds_toArray, List.set_cons_zero, List.set_cons_succ]
        replace hX := hX.set h23 h34 h46 hw3 1 (Value.slice (some ⟨g11, 0, none⟩) (H.length + 1) c11)
        replace hB := hB.set 1 (Value.slice (some ⟨g11, 0, none⟩) (H.length + 1) c11)
        simp only [List.set_cons_zero, List.set_cons_succ] at hB
        generalize W51.setCell ⟨b3, 1, none⟩ (Value.slice (some ⟨g11, 0, none⟩) (H.length + 1) c11) = W53 at hX hB ⊢
        rename_i _q1 _q2
        clear _q1 _q2
        refine wpAnyP_ready (rs := [21]) (by kernel_rfl) (by simp) ?_
        refine AllReadyP.cons rfl (fun K hK => ?_) ?_
        go_simp
        refine hK.out _ _ ⟨hX.r, fun h => nomatch (show true = false from h)⟩ ?_
        clear hK K
        try simp only [Act.put, List.setIfInBounds_toArray, List.set_cons_zero, List.set_cons_succ]
        refine wpAnyP_ready (rs := [22]) (by kernel_rfl) (by simp) ?_
        refine AllReadyP.cons rfl (fun K hK => ?_) ?_
        obtain ⟨_, _⟩ := id hB
        go_simp
        refine hK.out _ _ ⟨(hX.set h23 h34 h46 hw3 2 _).r, fun h => nomatch (show true = false from h)⟩ ?_
        clear hK K
        try simp only [Act.put, List.setIfInBounds_toArray, List.set_cons_zero, List.set_cons_succ]
        replace hX := hX.set h23 h34 h46 hw3 2 (Value.slice (some ⟨g16, 0, none⟩) (Bs.length + 1) c16)
        replace hB := hB.set 2 (Value.slice (some ⟨g16, 0, none⟩) (Bs.length + 1) c16)
        simp only [List.set_cons_zero, List.set_cons_succ] at hB
        generalize W53.setCell ⟨b3, 2, none⟩ (Value.slice (some ⟨g16, 0, none⟩) (Bs.length + 1) c16) = W55 at hX hB ⊢
        rename_i _q1 _q2
        clear _q1 _q2
        refine wpAnyP_done (by kernel_rfl) ?_ _
        exact hQ _ _ _ _ _ _ _ _ _ _ _ _ _ _ _ _ _ _ _ _ _ _ _ _ _ _ _ hX hB
        exact AllReadyP.nil
        exact AllReadyP.nil
        exact AllReadyP.nil
        exact AllReadyP.nil
        exact AllReadyP.nil
        exact AllReadyP.nil
        exact AllReadyP.nil
        exact AllReadyP.nil
      exact AllReadyP.nil
    refine AllReadyP.cons rfl (fun K hK => ?_) ?_
    · --
      go_simp
      refine hK.out _ _ ⟨(hX.alloc _).r, fun _ => hB.alloc _⟩ ?_
      clear hK K
      try simp only [Act.put, List.setIfInBounds_toArray, List.set_cons_zero, List.set_cons_succ]
      replace hX := hX.alloc (.cells (u8s G).toArray 30)
      replace hB := hB.alloc (.cells (u8s G).toArray 30)
      have p15 := NW.new W1 (u8s G).toArray 30
      have y15 : t6 ≤ W1.heap.size := by omega
      replace p4 := p4.alloc (.cells (u8s G).toArray 30)
      have zz : W1.heap.size < (W1.alloc (.cells (u8s G).toArray 30)).heap.size := by simp
      generalize W1.alloc (.cells (u8s G).toArray 30) = W56 at hX hB p15 p4 zz ⊢
      replace hz := Nat.lt_trans hz zz
      clear zz
      refine wpAnyP_ready (rs := [5, 10]) (by kernel_rfl) (by simp) ?_
      refine AllReadyP.cons rfl (fun K hK => ?_) ?_
      · --
        refine step_append_lies (w := W56) rfl _ _ 22 rfl (b4 + 1) 28 i28 (.int .i64 0) 1 8 Tryz.underlying22 hi28 hz28 hs28 hb28 rfl Nat.one_pos _ _ _ rfl hX.o.s ⟨W0.heap.size, 0, none⟩ 1 1 [.int .i64 q.st] rfl rfl p4.news (one_int _ _) Nat.one_pos cS1 cS2 (Nat.succ_le_of_lt hX.n4.lt) _ rfl ?_
        intro g5 c5 W57 ho hg hat _
        refine hK.out _ _ ⟨(hX.appS h24 hw4 rS ho hg hat).r, fun _ => hB.grown hg (rS.lo (Nat.le_of_lt h34))⟩ ?_
        clear hK K
        try simp only [Act.put, List.setIfInBounds_toArray, List.set_cons_zero, List.set_cons_succ]
        replace hX := hX.appS h24 hw4 rS ho hg hat
        replace hB := hB.grown hg (rS.lo (Nat.le_of_lt h34))
        replace p15 := p15.grown hg (rS.hi (by omega))
        replace hz := Nat.lt_of_lt_of_le hz hg.size
        clear ho hg hat p4
        refine wpAnyP_takeR (i := 17) (v := ?_) rfl (by kernel_rfl) (by kernel_rfl) (by kernel_rfl) (by decide) (fun _ => by kernel_rfl) (fun _ _ _ => hP _ _ _ _ _) (by rfl) ⟨hX.r, fun _ => hB⟩ (fun W hw => ?_) ?_
        rotate_left
        · obtain ⟨⟨_, _⟩, ⟨_, _⟩⟩ := hw; go_simp; try with_reducible rfl
        simp only [Act.put, List.setIfInBounds_toArray, List.set_cons_zero, List.set_cons_succ]
        refine wpAnyP_ready (rs := [10]) (by kernel_rfl) (by simp) ?_
        refine AllReadyP.cons rfl (fun K hK => ?_) ?_
        go_simp
        refine hK.out _ _ ⟨(hX.alloc _).r, fun _ => hB.alloc _⟩ ?_
        clear hK K
        try simp only [Act.put, List.setIfInBounds_toArray, List.set_cons_zero, List.set_cons_succ]
        replace hX := hX.alloc (.cells #[Value.int .i64 q.hd] 3)
        replace hB := hB.alloc (.cells #[Value.int .i64 q.hd] 3)
        have p10 := NW.new W57 #[Value.int .i64 q.hd] 3
        have y10 : t6 ≤ W57.heap.size := by omega
        replace p15 := p15.alloc (.cells #[Value.int .i64 q.hd] 3)
        have zz : W57.heap.size < (W57.alloc (.cells #[Value.int .i64 q.hd] 3)).heap.size := by simp
        generalize W57.alloc (.cells #[Value.int .i64 q.hd] 3) = W58 at hX hB p10 p15 zz ⊢
        replace hz := Nat.lt_trans hz zz
        clear zz
        refine wpAnyP_ready (rs := [11]) (by kernel_rfl) (by simp) ?_
        refine AllReadyP.cons rfl (fun K hK => ?_) ?_
        refine step_append_lies (w := W58) rfl _ _ 23 rfl (b4 + 1) 3 i3 (.int .i64 0) 1 8 Tryz.underlying23 hi3 hz3 hs3 hb3 rfl Nat.one_pos _ _ _ rfl hX.o.h ⟨W57.heap.size, 0, none⟩ 1 1 [.int .i64 q.hd] rfl rfl p10.news (one_int _ _) Nat.one_pos cH1 cH2 (Nat.succ_le_of_lt hX.n4.lt) _ rfl ?_
        intro g11 c11 W59 ho hg hat _
        refine hK.out _ _ ⟨(hX.appH h24 hw4 rH ho hg hat).r, fun _ => hB.grown hg (rH.lo (Nat.le_of_lt h34))⟩ ?_
        clear hK K
        try simp only [Act.put, List.setIfInBounds_toArray, List.set_cons_zero, List.set_cons_succ]
        replace hX := hX.appH h24 hw4 rH ho hg hat
        replace hB := hB.grown hg (rH.lo (Nat.le_of_lt h34))
        replace p15 := p15.grown hg (rH.hi (by omega))
        replace hz := Nat.lt_of_lt_of_le hz hg.size
        clear ho hg hat p10
        refine wpAnyP_ready (rs := [16]) (by kernel_rfl) (by simp) ?_
        refine AllReadyP.cons rfl (fun K hK => ?_) ?_
        refine step_append_lies (w := W59) rfl _ _ 24 rfl (b4 + 1) 30 i30 (.agg Tryz.zeroCells30) 128 128 Tryz.underlying24 hi30 hz30 hs30 hb30 Tryz.zeroCells30_size (Nat.succ_pos _) _ _ _ rfl hX.o.b ⟨W1.heap.size, 0, none⟩ 1 1 (u8s G) rfl (by rw [u8s_length, hGl]) p15.news ((oneL_u8s _).2 trivial) Nat.one_pos cB1 cB2 (Nat.succ_le_of_lt hX.n4.lt) _ rfl ?_
        intro g16 c16 W60 ho hg hat _
        refine hK.out _ _ ⟨(hX.appB h24 hw4 rB ho hg hat).r, fun _ => hB.grown hg (rB.lo (Nat.le_of_lt h34))⟩ ?_
        clear hK K
        try simp only [Act.put, List.setIfInBounds_toArray, List.set_cons_zero, List.set_cons_succ]
        replace hX := hX.appB h24 hw4 rB ho hg hat
        replace hB := hB.grown hg (rB.lo (Nat.le_of_lt h34))
        replace hz := Nat.lt_of_lt_of_le hz hg.size
        clear ho hg hat p15
        refine wpAnyP_ready (rs := [18]) (by kernel_rfl) (by simp) ?_
        refine AllReadyP.cons rfl (fun K hK => ?_) ?_
        obtain ⟨_, _⟩ := id hB
        go_simp
        refine hK.out _ _ ⟨(hX.set h23 h34 h46 hw3 0 _).r, fun h => nomatch (show true = false from h)⟩ ?_
        clear hK K
        try simp only [Act.put, List.setIfInBounds_toArray, List.set_cons_zero, List.set_cons_succ]
        replace hX := hX.set h23 h34 h46 hw3 0 (Value.slice (some ⟨g5, 0, none⟩) (S.length + 1) c5)
        replace hB := hB.set 0 (Value.slice (some ⟨g5, 0, none⟩) (S.length + 1) c5)
        simp only [List.set_cons_zero, List.set_cons_succ] at hB
        generalize W60.setCell ⟨b3, 0, none⟩ (Value.slice (some ⟨g5, 0, none⟩) (S.length + 1) c5) = W61 at hX hB ⊢
        rename_i _q1 _q2
        clear _q1 _q2
        refine wpAnyP_ready (rs := [19]) (by kernel_rfl) (by simp) ?_
        refine AllReadyP.cons rfl (fun K hK => ?_) ?_
        go_simp
        refine hK.out _ _ ⟨hX.r, fun h => nomatch (show true = false from h)⟩ ?_
        clear hK K
        try simp only [Act.put, List.setIfInBounds_toArray, List.set_cons_zero, List.set_cons_succ]
        refine wpAnyP_ready (rs := [20]) (by kernel_rfl) (by simp) ?_
        refine AllReadyP.cons rfl (fun K hK => ?_) ?_
        obtain ⟨_, _⟩ := id hB
        go_simp
        refine hK.out _ _ ⟨(hX.set h23 h34 h46 hw3 1 _).r, fun h => nomatch (show true = false from h)⟩ ?_
        clear hK K
        try simp only [Act.put, List.setIfInBounds_toArray, List.set_cons_zero, List.set_cons_succ]
        replace hX := hX.set h23 h34 h46 hw3 1 (Value.slice (some ⟨g11, 0, none⟩) (H.length + 1) c11)
        replace hB := hB.set 1 (Value.slice (some ⟨g11, 0, none⟩) (H.length + 1) c11)
        simp only [List.set_cons_zero, List.set_cons_succ] at hB
        generalize W61.setCell ⟨b3, 1, none⟩ (Value.slice (some ⟨g11, 0, none⟩) (H.length + 1) c11) = W63 at hX hB ⊢
        rename_i _q1 _q2
        clear _q1 _q2
        refine wpAnyP_ready (rs := [21]) (by kernel_rfl) (by simp) ?_
        refine AllReadyP.cons rfl (fun K hK => ?_) ?_
        go_simp
        refine hK.out _ _ ⟨hX.r, fun h => nomatch (show true = false from h)⟩ ?_
        clear hK K
        try simp only [Act.put, List.setIfInBounds_toArray, List.set_cons_zero, List.set_cons_succ]
        refine wpAnyP_ready (rs := [22]) (by kernel_rfl) (by simp) ?_
        refine AllReadyP.cons rfl (fun K hK => ?_) ?_
        obtain ⟨_, _⟩ := id hB
        go_simp
        refine hK.out _ _ ⟨(hX.set h23 h34 h46 hw3 2 _).r, fun h => nomatch (show true = false from h)⟩ ?_
        clear hK K
        try simp only [Act.put, List.setIfInBounds_toArray, List.set_cons_zero, List.set_cons_succ]
        replace hX := hX.set h23 h34 h46 hw3 2 (Value.slice (some ⟨g16, 0, none⟩) (Bs.length + 1) c16)
        replace hB := hB.set 2 (Value.slice (some ⟨g16, 0, none⟩) (Bs.length + 1) c16)
        simp only [List.set_cons_zero, List.set_cons_succ] at hB
        generalize W63.setCell ⟨b3, 2, none⟩ (Value.slice (some ⟨g16, 0, none⟩) (Bs.length + 1) c16) = W65 at hX hB ⊢
        rename_i _q1 _q2
        clear _q1 _q2
        refine wpAnyP_done (by kernel_rfl) ?_ _
        exact hQ _ _ _ _ _ _ _ _ _ _ _ _ _ _ _ _ _ _ _ _ _ _ _ _ _ _ _ hX hB
        exact AllReadyP.nil
        exact AllReadyP.nil
        exact AllReadyP.nil
        exact AllReadyP.nil
        exact AllReadyP.nil
        exact AllReadyP.nil
        exact AllReadyP.nil
        exact AllReadyP.nil
      refine AllReadyP.cons rfl (fun K hK => ?_) ?_
      · --
        go_simp
        refine hK.out _ _ ⟨(hX.alloc _).r, fun _ => hB.alloc _⟩ ?_
        clear hK K
        try simp only [Act.put, List.setIfInBounds_toArray, List.set_cons_zero, List.set_cons_succ]
        replace hX := hX.alloc (.cells #[Value.int .i64 q.hd] 3)
        replace hB := hB.alloc (.cells #[Value.int .i64 q.hd] 3)
        have p10 := NW.new W56 #[Value.int .i64 q.hd] 3
        have y10 : t6 ≤ W56.heap.size := by omega
        replace p4 := p4.alloc (.cells #[Value.int .i64 q.hd] 3)
        replace p15 := p15.alloc (.cells #[Value.int .i64 q.hd] 3)
        have zz : W56.heap.size < (W56.alloc (.cells #[Value.int .i64 q.hd] 3)).heap.size := by simp
        generalize W56.alloc (.cells #[Value.int .i64 q.hd] 3) = W66 at hX hB p10 p4 p15 zz ⊢
        replace hz := Nat.lt_trans hz zz
        clear zz
        refine wpAnyP_ready (rs := [5]) (by kernel_rfl) (by simp) ?_
        refine AllReadyP.cons rfl (fun K hK => ?_) ?_
        refine step_append_lies (w := W66) rfl _ _ 22 rfl (b4 + 1) 28 i28 (.int .i64 0) 1 8 Tryz.underlying22 hi28 hz28 hs28 hb28 rfl Nat.one_pos _ _ _ rfl hX.o.s ⟨W0.heap.size, 0, none⟩ 1 1 [.int .i64 q.st] rfl rfl p4.news (one_int _ _) Nat.one_pos cS1 cS2 (Nat.succ_le_of_lt hX.n4.lt) _ rfl ?_
        intro g5 c5 W67 ho hg hat _
        refine hK.out _ _ ⟨(hX.appS h24 hw4 rS ho hg hat).r, fun _ => hB.grown hg (rS.lo (Nat.le_of_lt h34))⟩ ?_
        clear hK K
        try simp only [Act.put, List.setIfInBounds_toArray, List.set_cons_zero, List.set_cons_succ]
        replace hX := hX.appS h24 hw4 rS ho hg hat
        replace hB := hB.grown hg (rS.lo (Nat.le_of_lt h34))
        replace p15 := p15.grown hg (rS.hi (by omega))
        replace p10 := p10.grown hg (rS.hi (by omega))
        replace hz := Nat.lt_of_lt_of_le hz hg.size
        clear ho hg hat p4
        refine wpAnyP_takeR (i := 17) (v := ?_) rfl (by kernel_rfl) (by kernel_rfl) (by kernel_rfl) (by decide) (fun _ => by kernel_rfl) (fun _ _ _ => hP _ _ _ _ _) (by rfl) ⟨hX.r, fun _ => hB⟩ (fun W hw => ?_) ?_
        rotate_left
        · obtain ⟨⟨_, _⟩, ⟨_, _⟩⟩ := hw; go_simp; try with_reducible rfl
        simp only [Act.put, List.setIfInBounds_toArray, List.set_cons_zero, List.set_cons_succ]
        refine wpAnyP_ready (rs := [11]) (by kernel_rfl) (by simp) ?_
        refine AllReadyP.cons rfl (fun K hK => ?_) ?_
        refine step_append_lies (w := W67) rfl _ _ 23 rfl (b4 + 1) 3 i3 (.int .i64 0) 1 8 Tryz.underlying23 hi3 hz3 hs3 hb3 rfl Nat.one_pos _ _ _ rfl hX.o.h ⟨W56.heap.size, 0, none⟩ 1 1 [.int .i64 q.hd] rfl rfl p10.news (one_int _ _) Nat.one_pos cH1 cH2 (Nat.succ_le_of_lt hX.n4.lt) _ rfl ?_
        intro g11 c11 W68 ho hg hat _
        refine hK.out _ _ ⟨(hX.appH h24 hw4 rH ho hg hat).r, fun _ => hB.grown hg (rH.lo (Nat.le_of_lt h34))⟩ ?_
        clear hK K
        try simp only [Act.put, List.setIfInBounds_toArray, List.set_cons_zero, List.set_cons_succ]
        replace hX := hX.appH h24 hw4 rH ho hg hat
        replace hB := hB.grown hg (rH.lo (Nat.le_of_lt h34))
        replace p15 := p15.grown hg (rH.hi (by omega))
        replace hz := Nat.lt_of_lt_of_le hz hg.size
        clear ho hg hat p10
        refine wpAnyP_ready (rs := [16]) (by kernel_rfl) (by simp) ?_
        refine AllReadyP.cons rfl (fun K hK => ?_) ?_
        refine step_append_lies (w := W68) rfl _ _ 24 rfl (b4 + 1) 30 i30 (.agg Tryz.zeroCells30) 128 128 Tryz.underlying24 hi30 hz30 hs30 hb30 Tryz.zeroCells30_size (Nat.succ_pos _) _ _ _ rfl hX.o.b ⟨W1.heap.size, 0, none⟩ 1 1 (u8s G) rfl (by rw [u8s_length, hGl]) p15.news ((oneL_u8s _).2 trivial) Nat.one_pos cB1 cB2 (Nat.succ_le_of_lt hX.n4.lt) _ rfl ?_
        intro g16 c16 W69 ho hg hat _
        refine hK.out _ _ ⟨(hX.appB h24 hw4 rB ho hg hat).r, fun _ => hB.grown hg (rB.lo (Nat.le_of_lt h34))⟩ ?_
        clear hK K
        try simp only [Act.put, List.setIfInBounds_toArray, List.set_cons_zero, List.set_cons_succ]
        replace hX := hX.appB h24 hw4 rB ho hg hat
        replace hB := hB.grown hg (rB.lo (Nat.le_of_lt h34))
        replace hz := Nat.lt_of_lt_of_le hz hg.size
        clear ho hg hat p15
        refine wpAnyP_ready (rs := [18]) (by kernel_rfl) (by simp) ?_
        refine AllReadyP.cons rfl (fun K hK => ?_) ?_
        obtain ⟨_, _⟩ := id hB
        go_simp
        refine hK.out _ _ ⟨(hX.set h23 h34 h46 hw3 0 _).r, fun h => nomatch (show true = false from h)⟩ ?_
        clear hK K
        try simp only [Act.put, List.setIfInBounds_toArray, List.set_cons_zero, List.set_cons_succ]
        replace hX := hX.set h23 h34 h46 hw3 0 (Value.slice (some ⟨g5, 0, none⟩) (S.length + 1) c5)
        replace hB := hB.set 0 (Value.slice (some ⟨g5, 0, none⟩) (S.length + 1) c5)
        simp only [List.set_cons_zero, List.set_cons_succ] at hB
        generalize W69.setCell ⟨b3, 0, none⟩ (Value.slice (some ⟨g5, 0, none⟩) (S.length + 1) c5) = W70 at hX hB ⊢
        rename_i _q1 _q2
        clear _q1 _q2
        refine wpAnyP_ready (rs := [19]) (by kernel_rfl) (by simp) ?_
        refine AllReadyP.cons rfl (fun K hK => ?_) ?_
        go_simp
        refine hK.out _ _ ⟨hX.r, fun h => nomatch (show true = false from h)⟩ ?_
        clear hK K
        try simp only [Act.put, List.setIfInBounds_toArray, List.set_cons_zero, List.set_cons_succ]
        refine wpAnyP_ready (rs := [20]) (by kernel_rfl) (by simp) ?_
        refine AllReadyP.cons rfl (fun K hK => ?_) ?_
        obtain ⟨_, _⟩ := id hB
        go_simp
        refine hK.out _ _ ⟨(hX.set h23 h34 h46 hw3 1 _).r, fun h => nomatch (show true = false from h)⟩ ?_
        clear hK K
        try simp only [Act.put, List.setIfInBounds_toArray, List.set_cons_zero, List.set_cons_succ]
        replace hX := hX.set h23 h34 h46 hw3 1 (Value.slice (some ⟨g11, 0, none⟩) (H.length + 1) c11)
        replace hB := hB.set 1 (Value.slice (some ⟨g11, 0, none⟩) (H.length + 1) c11)
        simp only [List.set_cons_zero, List.set_cons_succ] at hB
        generalize W70.setCell ⟨b3, 1, none⟩ (Value.slice (some ⟨g11, 0, none⟩) (H.length + 1) c11) = W72 at hX hB ⊢
        rename_i _q1 _q2
        clear _q1 _q2
        refine wpAnyP_ready (rs := [21]) (by kernel_rfl) (by simp) ?_
        refine AllReadyP.cons rfl (fun K hK => ?_) ?_
        go_simp
        refine hK.out _ _ ⟨hX.r, fun h => nomatch (show true = false from h)⟩ ?_
        clear hK K
        try simp only [Act.put, List.setIfInBounds_toArray, List.set_cons_zero, List.set_cons_succ]
        refine wpAnyP_ready (rs := [22]) (by kernel_rfl) (by simp) ?_
        refine AllReadyP.cons rfl (fun K hK => ?_) ?_
        obtain ⟨_, _⟩ := id hB
        go_simp
        refine hK.out _ _ ⟨(hX.set h23 h34 h46 hw3 2 _).r, fun h => nomatch (show true = false from h)⟩ ?_
        clear hK K
        try simp only [Act.put, List.setIfInBounds_toArray, List.set_cons_zero, List.set_cons_succ]
        replace hX := hX.set h23 h34 h46 hw3 2 (Value.slice (some ⟨g16, 0, none⟩) (Bs.length + 1) c16)
        replace hB := hB.set 2 (Value.slice (some ⟨g16, 0, none⟩) (Bs.length + 1) c16)
        simp only [List.set_cons_zero, List.set_cons_succ] at hB
        generalize W72.setCell ⟨b3, 2, none⟩ (Value.slice (some ⟨g16, 0, none⟩) (Bs.length + 1) c16) = W74 at hX hB ⊢
        rename_i _q1 _q2
        clear _q1 _q2
        refine wpAnyP_done (by kernel_rfl) ?_ _
        exact hQ _ _ _ _ _ _ _ _ _ _ _ _ _ _ _ _ _ _ _ _ _ _ _ _ _ _ _ hX hB
        exact AllReadyP.nil
        exact AllReadyP.nil
        exact AllReadyP.nil
        exact AllReadyP.nil
        exact AllReadyP.nil
        exact AllReadyP.nil
        exact AllReadyP.nil
        exact AllReadyP.nil
      exact AllReadyP.nil
    exact AllReadyP.nil
  refine AllReadyP.cons rfl (fun K hK => ?_) ?_
  · --
    go_simp
    refine hK.out _ _ ⟨(hX.alloc _).r, fun _ => hB.alloc _⟩ ?_
    clear hK K
    try simp only [Act.put, List.setIfInBounds_toArray, List.set_cons_zero, List.set_cons_succ]
    replace hX := hX.alloc (.cells #[Value.int .i64 q.hd] 3)
    replace hB := hB.alloc (.cells #[Value.int .i64 q.hd] 3)
    have p10 := NW.new W0 #[Value.int .i64 q.hd] 3
    have y10 : t6 ≤ W0.heap.size := by omega
    have zz : W0.heap.size < (W0.alloc (.cells #[Value.int .i64 q.hd] 3)).heap.size := by simp
    generalize W0.alloc (.cells #[Value.int .i64 q.hd] 3) = W75 at hX hB p10 zz ⊢
    replace hz := Nat.lt_trans hz zz
    clear zz
    refine wpAnyP_ready (rs := [4, 15]) (by kernel_rfl) (by simp) ?_
    refine AllReadyP.cons rfl (fun K hK => ?_) ?_
    · --
      go_simp
      refine hK.out _ _ ⟨(hX.alloc _).r, fun _ => hB.alloc _⟩ ?_
      clear hK K
      try simp only [Act.put, List.setIfInBounds_toArray, List.set_cons_zero, List.set_cons_succ]
      replace hX := hX.alloc (.cells #[Value.int .i64 q.st] 28)
      replace hB := hB.alloc (.cells #[Value.int .i64 q.st] 28)
      have p4 := NW.new W75 #[Value.int .i64 q.st] 28
      have y4 : t6 ≤ W75.heap.size := by omega
      replace p10 := p10.alloc (.cells #[Value.int .i64 q.st] 28)
      have zz : W75.heap.size < (W75.alloc (.cells #[Value.int .i64 q.st] 28)).heap.size := by simp
      generalize W75.alloc (.cells #[Value.int .i64 q.st] 28) = W76 at hX hB p4 p10 zz ⊢
      replace hz := Nat.lt_trans hz zz
      clear zz
      refine wpAnyP_ready (rs := [5, 15]) (by kernel_rfl) (by simp) ?_
      refine AllReadyP.cons rfl (fun K hK => ?_) ?_
      · --
        refine step_append_lies (w := W76) rfl _ _ 22 rfl (b4 + 1) 28 i28 (.int .i64 0) 1 8 Tryz.underlying22 hi28 hz28 hs28 hb28 rfl Nat.one_pos _ _ _ rfl hX.o.s ⟨W75.heap.size, 0, none⟩ 1 1 [.int .i64 q.st] rfl rfl p4.news (one_int _ _) Nat.one_pos cS1 cS2 (Nat.succ_le_of_lt hX.n4.lt) _ rfl ?_
        intro g5 c5 W77 ho hg hat _
        refine hK.out _ _ ⟨(hX.appS h24 hw4 rS ho hg hat).r, fun _ => hB.grown hg (rS.lo (Nat.le_of_lt h34))⟩ ?_
        clear hK K
        try simp only [Act.put, List.setIfInBounds_toArray, List.set_cons_zero, List.set_cons_succ]
        replace hX := hX.appS h24 hw4 rS ho hg hat
        replace hB := hB.grown hg (rS.lo (Nat.le_of_lt h34))
        replace p10 := p10.grown hg (rS.hi (by omega))
        replace hz := Nat.lt_of_lt_of_le hz hg.size
        clear ho hg hat p4
        refine wpAnyP_takeR (i := 17) (v := ?_) rfl (by kernel_rfl) (by kernel_rfl) (by kernel_rfl) (by decide) (fun _ => by kernel_rfl) (fun _ _ _ => hP _ _ _ _ _) (by rfl) ⟨hX.r, fun _ => hB⟩ (fun W hw => ?_) ?_
        rotate_left
        · obtain ⟨⟨_, _⟩, ⟨_, _⟩⟩ := hw; go_simp; try with_reducible rfl
        simp only [Act.put, List.setIfInBounds_toArray, List.set_cons_zero, List.set_cons_succ]
        refine wpAnyP_ready (rs := [11, 15]) (by kernel_rfl) (by simp) ?_
        refine AllReadyP.cons rfl (fun K hK => ?_) ?_
        · --
          refine step_append_lies (w := W77) rfl _ _ 23 rfl (b4 + 1) 3 i3 (.int .i64 0) 1 8 Tryz.underlying23 hi3 hz3 hs3 hb3 rfl Nat.one_pos _ _ _ rfl hX.o.h ⟨W0.heap.size, 0, none⟩ 1 1 [.int .i64 q.hd] rfl rfl p10.news (one_int _ _) Nat.one_pos cH1 cH2 (Nat.succ_le_of_lt hX.n4.lt) _ rfl ?_
          intro g11 c11 W78 ho hg hat _
          refine hK.out _ _ ⟨(hX.appH h24 hw4 rH ho hg hat).r, fun _ => hB.grown hg (rH.lo (Nat.le_of_lt h34))⟩ ?_
          clear hK K
          try simp only [Act.put, List.setIfInBounds_toArray, List.set_cons_zero, List.set_cons_succ]
          replace hX := hX.appH h24 hw4 rH ho hg hat
          replace hB := hB.grown hg (rH.lo (Nat.le_of_lt h34))
          replace hz := Nat.lt_of_lt_of_le hz hg.size
          clear ho hg hat p10
          refine wpAnyP_ready (rs := [15]) (by kernel_rfl) (by simp) ?_
          refine AllReadyP.cons rfl (fun K hK => ?_) ?_
          go_simp
          refine hK.out _ _ ⟨(hX.alloc _).r, fun _ => hB.alloc _⟩ ?_
          clear hK K
          try simp only [Act.put, List.setIfInBounds_toArray, List.set_cons_zero, List.set_cons_succ]
          replace hX := hX.alloc (.cells (u8s G).toArray 30)
          replace hB := hB.alloc (.cells (u8s G).toArray 30)
          have p15 := NW.new W78 (u8s G).toArray 30
          have y15 : t6 ≤ W78.heap.size := by omega
          have zz : W78.heap.size < (W78.alloc (.cells (u8s G).toArray 30)).heap.size := by simp
          generalize W78.alloc (.cells (u8s G).toArray 30) = W79 at hX hB p15 zz ⊢
          replace hz := Nat.lt_trans hz zz
          clear zz
          refine wpAnyP_ready (rs := [16]) (by kernel_rfl) (by simp) ?_
          refine AllReadyP.cons rfl (fun K hK => ?_) ?_
          refine step_append_lies (w := W79) rfl _ _ 24 rfl (b4 + 1) 30 i30 (.agg Tryz.zeroCells30) 128 128 Tryz.underlying24 hi30 hz30 hs30 hb30 Tryz.zeroCells30_size (Nat.succ_pos _) _ _ _ rfl hX.o.b ⟨W78.heap.size, 0, none⟩ 1 1 (u8s G) rfl (by rw [u8s_length, hGl]) p15.news ((oneL_u8s _).2 trivial) Nat.one_pos cB1 cB2 (Nat.succ_le_of_lt hX.n4.lt) _ rfl ?_
          intro g16 c16 W80 ho hg hat _
          refine hK.out _ _ ⟨(hX.appB h24 hw4 rB ho hg hat).r, fun _ => hB.grown hg (rB.lo (Nat.le_of_lt h34))⟩ ?_
          clear hK K
          try simp only [Act.put, List.setIfInBounds_toArray, List.set_cons_zero, List.set_cons_succ]
          replace hX := hX.appB h24 hw4 rB ho hg hat
          replace hB := hB.grown hg (rB.lo (Nat.le_of_lt h34))
          replace hz := Nat.lt_of_lt_of_le hz hg.size
          clear ho hg hat p15
          refine wpAnyP_ready (rs := [18]) (by kernel_rfl) (by simp) ?_
          refine AllReadyP.cons rfl (fun K hK => ?_) ?_
          obtain ⟨_, _⟩ := id hB
          go_simp
          refine hK.out _ _ ⟨(hX.set h23 h34 h46 hw3 0 _).r, fun h => nomatch (show true = false from h)⟩ ?_
          clear hK K
          try simp only [Act.put, List.setIfInBounds_toArray, List.set_cons_zero, List.set_cons_succ]
          replace hX := hX.set h23 h34 h46 hw3 0 (Value.slice (some ⟨g5, 0, none⟩) (S.length + 1) c5)
          replace hB := hB.set 0 (Value.slice (some ⟨g5, 0, none⟩) (S.length + 1) c5)
          simp only [List.set_cons_zero, List.set_cons_succ] at hB
          generalize W80.setCell ⟨b3, 0, none⟩ (Value.slice (some ⟨g5, 0, none⟩) (S.length + 1) c5) = W81 at hX hB ⊢
          rename_i _q1 _q2
          clear _q1 _q2
          refine wpAnyP_ready (rs := [19]) (by kernel_rfl) (by simp) ?_
          refine AllReadyP.cons rfl (fun K hK => ?_) ?_
          go_simp
          refine hK.out _ _ ⟨hX.r, fun h => nomatch (show true = false from h)⟩ ?_
          clear hK K
          try simp only [Act.put, List.setIfInBounds_toArray, List.set_cons_zero, List.set_cons_succ]
          refine wpAnyP_ready (rs := [20]) (by kernel_rfl) (by simp) ?_
          refine AllReadyP.cons rfl (fun K hK => ?_) ?_
          obtain ⟨_, _⟩ := id hB
          go_simp
          refine hK.out _ _ ⟨(hX.set h23 h34 h46 hw3 1 _).r, fun h => nomatch (show true = false from h)⟩ ?_
          clear hK K
          try simp only [Act.put, List.setIfInBounds_toArray, List.set_cons_zero, List.set_cons_succ]
          replace hX := hX.set h23 h34 h46 hw3 1 (Value.slice (some ⟨g11, 0, none⟩) (H.length + 1) c11)
          replace hB := hB.set 1 (Value.slice (some ⟨g11, 0, none⟩) (H.length + 1) c11)
          simp only [List.set_cons_zero, List.set_cons_succ] at hB
          generalize W81.setCell ⟨b3, 1, none⟩ (Value.slice (some ⟨g11, 0, none⟩) (H.length + 1) c11) = W83 at hX hB ⊢
          rename_i _q1 _q2
          clear _q1 _q2
          refine wpAnyP_ready (rs := [21]) (by kernel_rfl) (by simp) ?_
          refine AllReadyP.cons rfl (fun K hK => ?_) ?_
          go_simp
          refine hK.out _ _ ⟨hX.r, fun h => nomatch (show true = false from h)⟩ ?_
          clear hK K
          try simp only [Act.put, List.setIfInBounds_toArray, List.set_cons_zero, List.set_cons_succ]
          refine wpAnyP_ready (rs := [22]) (by kernel_rfl) (by simp) ?_
          refine AllReadyP.cons rfl (fun K hK => ?_) ?_
          obtain ⟨_, _⟩ := id hB
          go_simp
          refine hK.out _ _ ⟨(hX.set h23 h34 h46 hw3 2 _).r, fun h => nomatch (show true = false from h)⟩ ?_
          clear hK K
          try simp only [Act.put, List.setIfInBounds_toArray, List.set_cons_zero, List.set_cons_succ]
          replace hX := hX.set h23 h34 h46 hw3 2 (Value.slice (some ⟨g16, 0, none⟩) (Bs.length + 1) c16)
          replace hB := hB.set 2 (Value.slice (some ⟨g16, 0, none⟩) (Bs.length + 1) c16)
          simp only [List.set_cons_zero, List.set_cons_succ] at hB
          generalize W83.setCell ⟨b3, 2, none⟩ (Value.slice (some ⟨g16, 0, none⟩) (Bs.length + 1) c16) = W85 at hX hB ⊢
          rename_i _q1 _q2
          clear _q1 _q2
          refine wpAnyP_done (by kernel_rfl) ?_ _
          exact hQ _ _ _ _ _ _ _ _ _ _ _ _ _ _ _ _ _ _ _ _ _ _ _ _ _ _ _ hX hB
          exact AllReadyP.nil
          exact AllReadyP.nil
          exact AllReadyP.nil
          exact AllReadyP.nil
          exact AllReadyP.nil
          exact AllReadyP.nil
          exact AllReadyP.nil
        refine AllReadyP.cons rfl (fun K hK => ?_) ?_
        · --
          go_simp
          refine hK.out _ _ ⟨(hX.alloc _).r, fun _ => hB.alloc _⟩ ?_
          clear hK K
          try simp only [Act.put, List.setIfInBounds_toArray, List.set_cons_zero, List.set_cons_succ]
          replace hX := hX.alloc (.cells (u8s G).toArray 30)
          replace hB := hB.alloc (.cells (u8s G).toArray 30)
          have p15 := NW.new W77 (u8s G).toArray 30
          have y15 : t6 ≤ W77.heap.size := by omega
          replace p10 := p10.alloc (.cells (u8s G).toArray 30)
          have zz : W77.heap.size < (W77.alloc (.cells (u8s G).toArray 30)).heap.size := by simp
          generalize W77.alloc (.cells (u8s G).toArray 30) = W86 at hX hB p15 p10 zz ⊢
          replace hz := Nat.lt_trans hz zz
          clear zz
          refine wpAnyP_ready (rs := [11]) (by kernel_rfl) (by simp) ?_
          refine AllReadyP.cons rfl (fun K hK => ?_) ?_
          refine step_append_lies (w := W86) rfl _ _ 23 rfl (b4 + 1) 3 i3 (.int .i64 0) 1 8 Tryz.underlying23 hi3 hz3 hs3 hb3 rfl Nat.one_pos _ _ _ rfl hX.o.h ⟨W0.heap.size, 0, none⟩ 1 1 [.int .i64 q.hd] rfl rfl p10.news (one_int _ _) Nat.one_pos cH1 cH2 (Nat.succ_le_of_lt hX.n4.lt) _ rfl ?_
          intro g11 c11 W87 ho hg hat _
          refine hK.out _ _ ⟨(hX.appH h24 hw4 rH ho hg hat).r, fun _ => hB.grown hg (rH.lo (Nat.le_of_lt h34))⟩ ?_
          clear hK K
          try simp only [Act.put, List.setIfInBounds_toArray, List.set_cons_zero, List.set_cons_succ]
          replace hX := hX.appH h24 hw4 rH ho hg hat
          replace hB := hB.grown hg (rH.lo (Nat.le_of_lt h34))
          replace p15 := p15.grown hg (rH.hi (by omega))
          replace hz := Nat.lt_of_lt_of_le hz hg.size
          clear ho hg hat p10
          refine wpAnyP_ready (rs := [16]) (by kernel_rfl) (by simp) ?_
          refine AllReadyP.cons rfl (fun K hK => ?_) ?_
          refine step_append_lies (w := W87) rfl _ _ 24 rfl (b4 + 1) 30 i30 (.agg Tryz.zeroCells30) 128 128 Tryz.underlying24 hi30 hz30 hs30 hb30 Tryz.zeroCells30_size (Nat.succ_pos _) _ _ _ rfl hX.o.b ⟨W77.heap.size, 0, none⟩ 1 1 (u8s G) rfl (by rw [u8s_length, hGl]) p15.news ((oneL_u8s _).2 trivial) Nat.one_pos cB1 cB2 (Nat.succ_le_of_lt hX.n4.lt) _ rfl ?_
          intro g16 c16 W88 ho hg hat _
          refine hK.out _ _ ⟨(hX.appB h24 hw4 rB ho hg hat).r, fun _ => hB.grown hg (rB.lo (Nat.le_of_lt h34))⟩ ?_
          clear hK K
          try simp only [Act.put, List.setIfInBounds_toArray, List.set_cons_zero, List.set_cons_succ]
          replace hX := hX.appB h24 hw4 rB ho hg hat
          replace hB := hB.grown hg (rB.lo (Nat.le_of_lt h34))
          replace hz := Nat.lt_of_lt_of_le hz hg.size
          clear ho hg hat p15
          refine wpAnyP_ready (rs := [18]) (by kernel_rfl) (by simp) ?_
          refine AllReadyP.cons rfl (fun K hK => ?_) ?_
          obtain ⟨_, _⟩ := id hB
          go_simp
          refine hK.out _ _ ⟨(hX.set h23 h34 h46 hw3 0 _).r, fun h => nomatch (show true = false from h)⟩ ?_
          clear hK K
          try simp only [Act.put, List.setIfInBounds_toArray, List.set_cons_zero, List.set_cons_succ]
          replace hX := hX.set h23 h34 h46 hw3 0 (Value.slice (some ⟨g5, 0, none⟩) (S.length + 1) c5)
          replace hB := hB.set 0 (Value.slice (some ⟨g5, 0, none⟩) (S.length + 1) c5)
          simp only [List.set_cons_zero, List.set_cons_succ] at hB
          generalize W88.setCell ⟨b3, 0, none⟩ (Value.slice (some ⟨g5, 0, none⟩) (S.length + 1) c5) = W89 at hX hB ⊢
          rename_i _q1 _q2
          clear _q1 _q2
          refine wpAnyP_ready (rs := [19]) (by kernel_rfl) (by simp) ?_
          refine AllReadyP.cons rfl (fun K hK => ?_) ?_
          go_simp
          refine hK.out _ _ ⟨hX.r, fun h => nomatch (show true = false from h)⟩ ?_
          clear hK K
          try simp only [Act.put, List.setIfInBounds_toArray, List.set_cons_zero, List.set_cons_succ]
          refine wpAnyP_ready (rs := [20]) (by kernel_rfl) (by simp) ?_
          refine AllReadyP.cons rfl (fun K hK => ?_) ?_
          obtain ⟨_, _⟩ := id hB
          go_simp
          refine hK.out _ _ ⟨(hX.set h23 h34 h46 hw3 1 _).r, fun h => nomatch (show true = false from h)⟩ ?_
          clear hK K
          try simp only [Act.put, List.setIfInBounds_toArray, List.set_cons_zero, List.set_cons_succ]
          replace hX := hX.set h23 h34 h46 hw3 1 (Value.slice (some ⟨g11, 0, none⟩) (H.length + 1) c11)
          replace hB := hB.set 1 (Value.slice (some ⟨g11, 0, none⟩) (H.length + 1) c11)
          simp only [List.set_cons_zero, List.set_cons_succ] at hB
          generalize W89.setCell ⟨b3, 1, none⟩ (Value.slice (some ⟨g11, 0, none⟩) (H.length + 1) c11) = W91 at hX hB ⊢
          rename_i _q1 _q2
          clear _q1 _q2
          refine wpAnyP_ready (rs := [21]) (by kernel_rfl) (by simp) ?_
          refine AllReadyP.cons rfl (fun K hK => ?_) ?_
          go_simp
          refine hK.out _ _ ⟨hX.r, fun h => nomatch (show true = false from h)⟩ ?_
          clear hK K
          try simp only [Act.put, List.setIfInBounds_toArray, List.set_cons_zero, List.set_cons_succ]
          refine wpAnyP_ready (rs := [22]) (by kernel_rfl) (by simp) ?_
          refine AllReadyP.cons rfl (fun K hK => ?_) ?_
          obtain ⟨_, _⟩ := id hB
          go_simp
          refine hK.out _ _ ⟨(hX.set h23 h34 h46 hw3 2 _).r, fun h => nomatch (show true = false from h)⟩ ?_
          clear hK K
          try simp only [Act.put, List.setIfInBounds_toArray, List.set_cons_zero, List.set_cons_succ]
          replace hX := hX.set h23 h34 h46 hw3 2 (Value.slice (some ⟨g16, 0, none⟩) (Bs.length + 1) c16)
          replace hB := hB.set 2 (Value.slice (some ⟨g16, 0, none⟩) (Bs.length + 1) c16)
          simp only [List.set_cons_zero, List.set_cons_succ] at hB
          generalize W91.setCell ⟨b3, 2, none⟩ (Value.slice (some ⟨g16, 0, none⟩) (Bs.length + 1) c16) = W93 at hX hB ⊢
          rename_i _q1 _q2
          clear _q1 _q2
          refine wpAnyP_done (by kernel_rfl) ?_ _
          exact hQ _ _ _ _ _ _ _ _ _ _ _ _ _ _ _ _ _ _ _ _ _ _ _ _ _ _ _ hX hB
          exact AllReadyP.nil
          exact AllReadyP.nil
          exact AllReadyP.nil
          exact AllReadyP.nil
          exact AllReadyP.nil
          exact AllReadyP.nil
          exact AllReadyP.nil
        exact AllReadyP.nil
      refine AllReadyP.cons rfl (fun K hK => ?_) ?_
      · --
        go_simp
        refine hK.out _ _ ⟨(hX.alloc _).r, fun _ => hB.alloc _⟩ ?_
        clear hK K
        try simp only [Act.put, List.setIfInBounds_toArray, List.set_cons_zero, List.set_cons_succ]
        replace hX := hX.alloc (.cells (u8s G).toArray 30)
        replace hB := hB.alloc (.cells (u8s G).toArray 30)
        have p15 := NW.new W76 (u8s G).toArray 30
        have y15 : t6 ≤ W76.heap.size := by omega
        replace p10 := p10.alloc (.cells (u8s G).toArray 30)
        replace p4 := p4.alloc (.cells (u8s G).toArray 30)
        have zz : W76.heap.size < (W76.alloc (.cells (u8s G).toArray 30)).heap.size := by simp
        generalize W76.alloc (.cells (u8s G).toArray 30) = W94 at hX hB p15 p10 p4 zz ⊢
        replace hz := Nat.lt_trans hz zz
        clear zz
        refine wpAnyP_ready (rs := [5]) (by kernel_rfl) (by simp) ?_
        refine AllReadyP.cons rfl (fun K hK => ?_) ?_
        refine step_append_lies (w := W94) rfl _ _ 22 rfl (b4 + 1) 28 i28 (.int .i64 0) 1 8 Tryz.underlying22 hi28 hz28 hs28 hb28 rfl Nat.one_pos _ _ _ rfl hX.o.s ⟨W75.heap.size, 0, none⟩ 1 1 [.int .i64 q.st] rfl rfl p4.news (one_int _ _) Nat.one_pos cS1 cS2 (Nat.succ_le_of_lt hX.n4.lt) _ rfl ?_
        intro g5 c5 W95 ho hg hat _
        refine hK.out _ _ ⟨(hX.appS h24 hw4 rS ho hg hat).r, fun _ => hB.grown hg (rS.lo (Nat.le_of_lt h34))⟩ ?_
        clear hK K
        try simp only [Act.put, List.setIfInBounds_toArray, List.set_cons_zero, List.set_cons_succ]
        replace hX := hX.appS h24 hw4 rS ho hg hat
        replace hB := hB.grown hg (rS.lo (Nat.le_of_lt h34))
        replace p10 := p10.grown hg (rS.hi (by omega))
        replace p15 := p15.grown hg (rS.hi (by omega))
        replace hz := Nat.lt_of_lt_of_le hz hg.size
        clear ho hg hat p4
        refine wpAnyP_takeR (i := 17) (v := ?_) rfl (by kernel_rfl) (by kernel_rfl) (by kernel_rfl) (by decide) (fun _ => by kernel_rfl) (fun _ _ _ => hP _ _ _ _ _) (by rfl) ⟨hX.r, fun _ => hB⟩ (fun W hw => ?_) ?_
        rotate_left
        · obtain ⟨⟨_, _⟩, ⟨_, _⟩⟩ := hw; go_simp; try with_reducible rfl
        simp only [Act.put, List.setIfInBounds_toArray, List.set_cons_zero, List.set_cons_succ]
        refine wpAnyP_ready (rs := [11]) (by kernel_rfl) (by simp) ?_
        refine AllReadyP.cons rfl (fun K hK => ?_) ?_
        refine step_append_lies (w := W95) rfl _ _ 23 rfl (b4 + 1) 3 i3 (.int .i64 0) 1 8 Tryz.underlying23 hi3 hz3 hs3 hb3 rfl Nat.one_pos _ _ _ rfl hX.o.h ⟨W0.heap.size, 0, none⟩ 1 1 [.int .i64 q.hd] rfl rfl p10.news (one_int _ _) Nat.one_pos cH1 cH2 (Nat.succ_le_of_lt hX.n4.lt) _ rfl ?_
        intro g11 c11 W96 ho hg hat _
        refine hK.out _ _ ⟨(hX.appH h24 hw4 rH ho hg hat).r, fun _ => hB.grown hg (rH.lo (Nat.le_of_lt h34))⟩ ?_
        clear hK K
        try simp only [Act.put, List.setIfInBounds_toArray, List.set_cons_zero, List.set_cons_succ]
        replace hX := hX.appH h24 hw4 rH ho hg hat
        replace hB := hB.grown hg (rH.lo (Nat.le_of_lt h34))
        replace p15 := p15.grown hg (rH.hi (by omega))
        replace hz := Nat.lt_of_lt_of_le hz hg.size
        clear ho hg hat p10
        refine wpAnyP_ready (rs := [16]) (by kernel_rfl) (by simp) ?_
        refine AllReadyP.cons rfl (fun K hK => ?_) ?_
        refine step_append_lies (w := W96) rfl _ _ 24 rfl (b4 + 1) 30 i30 (.agg Tryz.zeroCells30) 128 128 Tryz.underlying24 hi30 hz30 hs30 hb30 Tryz.zeroCells30_size (Nat.succ_pos _) _ _ _ rfl hX.o.b ⟨W76.heap.size, 0, none⟩ 1 1 (u8s G) rfl (by rw [u8s_length, hGl]) p15.news ((oneL_u8s _).2 trivial) Nat.one_pos cB1 cB2 (Nat.succ_le_of_lt hX.n4.lt) _ rfl ?_
        intro g16 c16 W97 ho hg hat _
        refine hK.out _ _ ⟨(hX.appB h24 hw4 rB ho hg hat).r, fun _ => hB.grown hg (rB.lo (Nat.le_of_lt h34))⟩ ?_
        clear hK K
        try simp only [Act.put, List.setIfInBounds_toArray, List.set_cons_zero, List.set_cons_succ]
        replace hX := hX.appB h24 hw4 rB ho hg hat
        replace hB := hB.grown hg (rB.lo (Nat.le_of_lt h34))
        replace hz := Nat.lt_of_lt_of_le hz hg.size
        clear ho hg hat p15
        refine wpAnyP_ready (rs := [18]) (by kernel_rfl) (by simp) ?_
        refine AllReadyP.cons rfl (fun K hK => ?_) ?_
        obtain ⟨_, _⟩ := id hB
        go_simp
        refine hK.out _ _ ⟨(hX.set h23 h34 h46 hw3 0 _).r, fun h => nomatch (show true = false from h)⟩ ?_
        clear hK K
        try simp only [Act.put, List.setIfInBounds_toArray, List.set_cons_zero, List.set_cons_succ]
        replace hX := hX.set h23 h34 h46 hw3 0 (Value.slice (some ⟨g5, 0, none⟩) (S.length + 1) c5)
        replace hB := hB.set 0 (Value.slice (some ⟨g5, 0, none⟩) (S.length + 1) c5)
        simp only [List.set_cons_zero, List.set_cons_succ] at hB
        generalize W97.setCell ⟨b3, 0, none⟩ (Value.slice (some ⟨g5, 0, none⟩) (S.length + 1) c5) = W98 at hX hB ⊢
        rename_i _q1 _q2
        clear _q1 _q2
        refine wpAnyP_ready (rs := [19]) (by kernel_rfl) (by simp) ?_
        refine AllReadyP.cons rfl (fun K hK => ?_) ?_
        go_simp
        refine hK.out _ _ ⟨hX.r, fun h => nomatch (show true = false from h)⟩ ?_
        clear hK K
        try simp only [Act.put, List.setIfInBounds_toArray, List.set_cons_zero, List.set_cons_succ]
        refine wpAnyP_ready (rs := [20]) (by kernel_rfl) (by simp) ?_
        refine AllReadyP.cons rfl (fun K hK => ?_) ?_
        obtain ⟨_, _⟩ := id hB
        go_simp
        refine hK.out _ _ ⟨(hX.set h23 h34 h46 hw3 1 _).r, fun h => nomatch (show true = false from h)⟩ ?_
        clear hK K
        try simp only [Act.put, List.setIfInBounds_toArray, List.set_cons_zero, List.set_cons_succ]
        replace hX := hX.set h23 h34 h46 hw3 1 (Value.slice (some ⟨g11, 0, none⟩) (H.length + 1) c11)
        replace hB := hB.set 1 (Value.slice (some ⟨g11, 0, none⟩) (H.length + 1) c11)
        simp only [List.set_cons_zero, List.set_cons_succ] at hB
        generalize W98.setCell ⟨b3, 1, none⟩ (Value.slice (some ⟨g11, 0, none⟩) (H.length + 1) c11) = W100 at hX hB ⊢
        rename_i _q1 _q2
        clear _q1 _q2
        refine wpAnyP_ready (rs := [21]) (by kernel_rfl) (by simp) ?_
        refine AllReadyP.cons rfl (fun K hK => ?_) ?_
        go_simp
        refine hK.out _ _ ⟨hX.r, fun h => nomatch (show true = false from h)⟩ ?_
        clear hK K
        try simp only [Act.put, List.setIfInBounds_toArray, List.set_cons_zero, List.set_cons_succ]
        refine wpAnyP_ready (rs := [22]) (by kernel_rfl) (by simp) ?_
        refine AllReadyP.cons rfl (fun K hK => ?_) ?_
        obtain ⟨_, _⟩ := id hB
        go_simp
        refine hK.out _ _ ⟨(hX.set h23 h34 h46 hw3 2 _).r, fun h => nomatch (show true = false from h)⟩ ?_
        clear hK K
        try simp only [Act.put, List.setIfInBounds_toArray, List.set_cons_zero, List.set_cons_succ]
        replace hX := hX.set h23 h34 h46 hw3 2 (Value.slice (some ⟨g16, 0, none⟩) (Bs.length + 1) c16)
        replace hB := hB.set 2 (Value.slice (some ⟨g16, 0, none⟩) (Bs.length + 1) c16)
        simp only [List.set_cons_zero, List.set_cons_succ] at hB
        generalize W100.setCell ⟨b3, 2, none⟩ (Value.slice (some ⟨g16, 0, none⟩) (Bs.length + 1) c16) = W102 at hX hB ⊢
        rename_i _q1 _q2
        clear _q1 _q2
        refine wpAnyP_done (by kernel_rfl) ?_ _
        exact hQ _ _ _ _ _ _ _ _ _ _ _ _ _ _ _ _ _ _ _ _ _ _ _ _ _ _ _ hX hB
        exact AllReadyP.nil
        exact AllReadyP.nil
        exact AllReadyP.nil
        exact AllReadyP.nil
        exact AllReadyP.nil
        exact AllReadyP.nil
        exact AllReadyP.nil
        exact AllReadyP.nil
      exact AllReadyP.nil
    refine AllReadyP.cons rfl (fun K hK => ?_) ?_
    · --
      go_simp
      refine hK.out _ _ ⟨(hX.alloc _).r, fun _ => hB.alloc _⟩ ?_
      clear hK K
      try simp only [Act.put, List.setIfInBounds_toArray, List.set_cons_zero, List.set_cons_succ]
      replace hX := hX.alloc (.cells (u8s G).toArray 30)
      replace hB := hB.alloc (.cells (u8s G).toArray 30)
      have p15 := NW.new W75 (u8s G).toArray 30
      have y15 : t6 ≤ W75.heap.size := by omega
      replace p10 := p10.alloc (.cells (u8s G).toArray 30)
      have zz : W75.heap.size < (W75.alloc (.cells (u8s G).toArray 30)).heap.size := by simp
      generalize W75.alloc (.cells (u8s G).toArray 30) = W103 at hX hB p15 p10 zz ⊢
      replace hz := Nat.lt_trans hz zz
      clear zz
      refine wpAnyP_ready (rs := [4]) (by kernel_rfl) (by simp) ?_
      refine AllReadyP.cons rfl (fun K hK => ?_) ?_
      go_simp
      refine hK.out _ _ ⟨(hX.alloc _).r, fun _ => hB.alloc _⟩ ?_
      clear hK K
      try simp only [Act.put, List.setIfInBounds_toArray, List.set_cons_zero, List.set_cons_succ]
      replace hX := hX.alloc (.cells #[Value.int .i64 q.st] 28)
      replace hB := hB.alloc (.cells #[Value.int .i64 q.st] 28)
      have p4 := NW.new W103 #[Value.int .i64 q.st] 28
      have y4 : t6 ≤ W103.heap.size := by omega
      replace p10 := p10.alloc (.cells #[Value.int .i64 q.st] 28)
      replace p15 := p15.alloc (.cells #[Value.int .i64 q.st] 28)
      have zz : W103.heap.size < (W103.alloc (.cells #[Value.int .i64 q.st] 28)).heap.size := by simp
      generalize W103.alloc (.cells #[Value.int .i64 q.st] 28) = W104 at hX hB p4 p10 p15 zz ⊢
      replace hz := Nat.lt_trans hz zz
      clear zz
      refine wpAnyP_ready (rs := [5]) (by kernel_rfl) (by simp) ?_
      refine AllReadyP.cons rfl (fun K hK => ?_) ?_
      refine step_append_lies (w := W104) rfl _ _ 22 rfl (b4 + 1) 28 i28 (.int .i64 0) 1 8 Tryz.underlying22 hi28 hz28 hs28 hb28 rfl Nat.one_pos _ _ _ rfl hX.o.s ⟨W103.heap.size, 0, none⟩ 1 1 [.int .i64 q.st] rfl rfl p4.news (one_int _ _) Nat.one_pos cS1 cS2 (Nat.succ_le_of_lt hX.n4.lt) _ rfl ?_
      intro g5 c5 W105 ho hg hat _
      refine hK.out _ _ ⟨(hX.appS h24 hw4 rS ho hg hat).r, fun _ => hB.grown hg (rS.lo (Nat.le_of_lt h34))⟩ ?_
      clear hK K
      try simp only [Act.put, List.setIfInBounds_toArray, List.set_cons_zero, List.set_cons_succ]
      replace hX := hX.appS h24 hw4 rS ho hg hat
      replace hB := hB.grown hg (rS.lo (Nat.le_of_lt h34))
      replace p10 := p10.grown hg (rS.hi (by omega))
      replace p15 := p15.grown hg (rS.hi (by omega))
      replace hz := Nat.lt_of_lt_of_le hz hg.size
      clear ho hg hat p4
      refine wpAnyP_takeR (i := 17) (v := ?_) rfl (by kernel_rfl) (by kernel_rfl) (by kernel_rfl) (by decide) (fun _ => by kernel_rfl) (fun _ _ _ => hP _ _ _ _ _) (by rfl) ⟨hX.r, fun _ => hB⟩ (fun W hw => ?_) ?_
      rotate_left
      · obtain ⟨⟨_, _⟩, ⟨_, _⟩⟩ := hw; go_simp; try with_reducible rfl
      simp only [Act.put, List.setIfInBounds_toArray, List.set_cons_zero, List.set_cons_succ]
      refine wpAnyP_ready (rs := [11]) (by kernel_rfl) (by simp) ?_
      refine AllReadyP.cons rfl (fun K hK => ?_) ?_
      refine step_append_lies (w := W105) rfl _ _ 23 rfl (b4 + 1) 3 i3 (.int .i64 0) 1 8 Tryz.underlying23 hi3 hz3 hs3 hb3 rfl Nat.one_pos _ _ _ rfl hX.o.h ⟨W0.heap.size, 0, none⟩ 1 1 [.int .i64 q.hd] rfl rfl p10.news (one_int _ _) Nat.one_pos cH1 cH2 (Nat.succ_le_of_lt hX.n4.lt) _ rfl ?_
      intro g11 c11 W106 ho hg hat _
      refine hK.out _ _ ⟨(hX.appH h24 hw4 rH ho hg hat).r, fun _ => hB.grown hg (rH.lo (Nat.le_of_lt h34))⟩ ?_
      clear hK K
      try simp only [Act.put, List.setIfInBounds_toArray, List.set_cons_zero, List.set_cons_succ]
      replace hX := hX.appH h24 hw4 rH ho hg hat
      replace hB := hB.grown hg (rH.lo (Nat.le_of_lt h34))
      replace p15 := p15.grown hg (rH.hi (by omega))
      replace hz := Nat.lt_of_lt_of_le hz hg.size
      clear ho hg hat p10
      refine wpAnyP_ready (rs := [16]) (by kernel_rfl) (by simp) ?_
      refine AllReadyP.cons rfl (fun K hK => ?_) ?_
      refine step_append_lies (w := W106) rfl _ _ 24 rfl (b4 + 1) 30 i30 (.agg Tryz.zeroCells30) 128 128 Tryz.underlying24 hi30 hz30 hs30 hb30 Tryz.zeroCells30_size (Nat.succ_pos _) _ _ _ rfl hX.o.b ⟨W75.heap.size, 0, none⟩ 1 1 (u8s G) rfl (by rw [u8s_length, hGl]) p15.news ((oneL_u8s _).2 trivial) Nat.one_pos cB1 cB2 (Nat.succ_le_of_lt hX.n4.lt) _ rfl ?_
      intro g16 c16 W107 ho hg hat _
      refine hK.out _ _ ⟨(hX.appB h24 hw4 rB ho hg hat).r, fun _ => hB.grown hg (rB.lo (Nat.le_of_lt h34))⟩ ?_
      clear hK K
      try simp only [Act.put, List.setIfInBounds_toArray, List.set_cons_zero, List.set_cons_succ]
      replace hX := hX.appB h24 hw4 rB ho hg hat
      replace hB := hB.grown hg (rB.lo (Nat.le_of_lt h34))
      replace hz := Nat.lt_of_lt_of_le hz hg.size
      clear ho hg hat p15
      refine wpAnyP_ready (rs := [18]) (by kernel_rfl) (by simp) ?_
      refine AllReadyP.cons rfl (fun K hK => ?_) ?_
      obtain ⟨_, _⟩ := id hB
      go_simp
      refine hK.out _ _ ⟨(hX.set h23 h34 h46 hw3 0 _).r, fun h => nomatch (show true = false from h)⟩ ?_
      clear hK K
      try simp only [Act.put, List.setIfInBounds_toArray, List.set_cons_zero, List.set_cons_succ]
      replace hX := hX.set h23 h34 h46 hw3 0 (Value.slice (some ⟨g5, 0, none⟩) (S.length + 1) c5)
      replace hB := hB.set 0 (Value.slice (some ⟨g5, 0, none⟩) (S.length + 1) c5)
      simp only [List.set_cons_zero, List.set_cons_succ] at hB
      generalize W107.setCell ⟨b3, 0, none⟩ (Value.slice (some ⟨g5, 0, none⟩) (S.length + 1) c5) = W108 at hX hB ⊢
      rename_i _q1 _q2
      clear _q1 _q2
      refine wpAnyP_ready (rs := [19]) (by kernel_rfl) (by simp) ?_
      refine AllReadyP.cons rfl (fun K hK => ?_) ?_
      go_simp
      refine hK.out _ _ ⟨hX.r, fun h => nomatch (show true = false from h)⟩ ?_
      clear hK K
      try simp only [Act.put, List.setIfInBounds_toArray, List.set_cons_zero, List.set_cons_succ]
      refine wpAnyP_ready (rs := [20]) (by kernel_rfl) (by simp) ?_
      refine AllReadyP.cons rfl (fun K hK => ?_) ?_
      obtain ⟨_, _⟩ := id hB
      go_simp
      refine hK.out _ _ ⟨(hX.set h23 h34 h46 hw3 1 _).r, fun h => nomatch (show true = false from h)⟩ ?_
      clear hK K
      try simp only [Act.put, List.setIfInBounds_toArray, List.set_cons_zero, List.set_cons_succ]
      replace hX := hX.set h23 h34 h46 hw3 1 (Value.slice (some ⟨g11, 0, none⟩) (H.length + 1) c11)
      replace hB := hB.set 1 (Value.slice (some ⟨g11, 0, none⟩) (H.length + 1) c11)
      simp only [List.set_cons_zero, List.set_cons_succ] at hB
      generalize W108.setCell ⟨b3, 1, none⟩ (Value.slice (some ⟨g11, 0, none⟩) (H.length + 1) c11) = W110 at hX hB ⊢
      rename_i _q1 _q2
      clear _q1 _q2
      refine wpAnyP_ready (rs := [21]) (by kernel_rfl) (by simp) ?_
      refine AllReadyP.cons rfl (fun K hK => ?_) ?_
      go_simp
      refine hK.out _ _ ⟨hX.r, fun h => nomatch (show true = false from h)⟩ ?_
      clear hK K
      try simp only [Act.put, List.setIfInBounds_toArray, List.set_cons_zero, List.set_cons_succ]
      refine wpAnyP_ready (rs := [22]) (by kernel_rfl) (by simp) ?_
      refine AllReadyP.cons rfl (fun K hK => ?_) ?_
      obtain ⟨_, _⟩ := id hB
      go_simp
      refine hK.out _ _ ⟨(hX.set h23 h34 h46 hw3 2 _).r, fun h => nomatch (show true = false from h)⟩ ?_
      clear hK K
      try simp only [Act.put, List.setIfInBounds_toArray, List.set_cons_zero, List.set_cons_succ]
      replace hX := hX.set h23 h34 h46 hw3 2 (Value.slice (some ⟨g16, 0, none⟩) (Bs.length + 1) c16)
      replace hB := hB.set 2 (Value.slice (some ⟨g16, 0, none⟩) (Bs.length + 1) c16)
      simp only [List.set_cons_zero, List.set_cons_succ] at hB
      generalize W110.setCell ⟨b3, 2, none⟩ (Value.slice (some ⟨g16, 0, none⟩) (Bs.length + 1) c16) = W112 at hX hB ⊢
      rename_i _q1 _q2
      clear _q1 _q2
      refine wpAnyP_done (by kernel_rfl) ?_ _
      exact hQ _ _ _ _ _ _ _ _ _ _ _ _ _ _ _ _ _ _ _ _ _ _ _ _ _ _ _ hX hB
      exact AllReadyP.nil
      exact AllReadyP.nil
      exact AllReadyP.nil
      exact AllReadyP.nil
      exact AllReadyP.nil
      exact AllReadyP.nil
      exact AllReadyP.nil
      exact AllReadyP.nil
      exact AllReadyP.nil
    exact AllReadyP.nil
  refine AllReadyP.cons rfl (fun K hK => ?_) ?_
  · --
    go_simp
    refine hK.out _ _ ⟨(hX.alloc _).r, fun _ => hB.alloc _⟩ ?_
    clear hK K
    try simp only [Act.put, List.setIfInBounds_toArray, List.set_cons_zero, List.set_cons_succ]
    replace hX := hX.alloc (.cells (u8s G).toArray 30)
    replace hB := hB.alloc (.cells (u8s G).toArray 30)
    have p15 := NW.new W0 (u8s G).toArray 30
    have y15 : t6 ≤ W0.heap.size := by omega
    have zz : W0.heap.size < (W0.alloc (.cells (u8s G).toArray 30)).heap.size := by simp
    generalize W0.alloc (.cells (u8s G).toArray 30) = W113 at hX hB p15 zz ⊢
    replace hz := Nat.lt_trans hz zz
    clear zz
    refine wpAnyP_ready (rs := [4, 10]) (by kernel_rfl) (by simp) ?_
    refine AllReadyP.cons rfl (fun K hK => ?_) ?_
    · --
      go_simp
      refine hK.out _ _ ⟨(hX.alloc _).r, fun _ => hB.alloc _⟩ ?_
      clear hK K
      try simp only [Act.put, List.setIfInBounds_toArray, List.set_cons_zero, List.set_cons_succ]
      replace hX := hX.alloc (.cells #[Value.int .i64 q.st] 28)
      replace hB := hB.alloc (.cells #[Value.int .i64 q.st] 28)
      have p4 := NW.new W113 #[Value.int .i64 q.st] 28
      have y4 : t6 ≤ W113.heap.size := by omega
      replace p15 := p15.alloc (.cells #[Value.int .i64 q.st] 28)
      have zz : W113.heap.size < (W113.alloc (.cells #[Value.int .i64 q.st] 28)).heap.size := by simp
      generalize W113.alloc (.cells #[Value.int .i64 q.st] 28) = W114 at hX hB p4 p15 zz ⊢
      replace hz := Nat.lt_trans hz zz
      clear zz
      refine wpAnyP_ready (rs := [5, 10]) (by kernel_rfl) (by simp) ?_
      refine AllReadyP.cons rfl (fun K hK => ?_) ?_
      · --
        refine step_append_lies (w := W114) rfl _ _ 22 rfl (b4 + 1) 28 i28 (.int .i64 0) 1 8 Tryz.underlying22 hi28 hz28 hs28 hb28 rfl Nat.one_pos _ _ _ rfl hX.o.s ⟨W113.heap.size, 0, none⟩ 1 1 [.int .i64 q.st] rfl rfl p4.news (one_int _ _) Nat.one_pos cS1 cS2 (Nat.succ_le_of_lt hX.n4.lt) _ rfl ?_
        intro g5 c5 W115 ho hg hat _
        refine hK.out _ _ ⟨(hX.appS h24 hw4 rS ho hg hat).r, fun _ => hB.grown hg (rS.lo (Nat.le_of_lt h34))⟩ ?_
        clear hK K
        try simp only [Act.put, List.setIfInBounds_toArray, List.set_cons_zero, List.set_cons_succ]
        replace hX := hX.appS h24 hw4 rS ho hg hat
        replace hB := hB.grown hg (rS.lo (Nat.le_of_lt h34))
        replace p15 := p15.grown hg (rS.hi (by omega))
        replace hz := Nat.lt_of_lt_of_le hz hg.size
        clear ho hg hat p4
        refine wpAnyP_takeR (i := 17) (v := ?_) rfl (by kernel_rfl) (by kernel_rfl) (by kernel_rfl) (by decide) (fun _ => by kernel_rfl) (fun _ _ _ => hP _ _ _ _ _) (by rfl) ⟨hX.r, fun _ => hB⟩ (fun W hw => ?_) ?_
        rotate_left
        · obtain ⟨⟨_, _⟩, ⟨_, _⟩⟩ := hw; go_simp; try with_reducible rfl
        simp only [Act.put, List.setIfInBounds_toArray, List.set_cons_zero, List.set_cons_succ]
        refine wpAnyP_ready (rs := [10]) (by kernel_rfl) (by simp) ?_
        refine AllReadyP.cons rfl (fun K hK => ?_) ?_
        go_simp
        refine hK.out _ _ ⟨(hX.alloc _).r, fun _ => hB.alloc _⟩ ?_
        clear hK K
        try simp only [Act.put, List.setIfInBounds_toArray, List.set_cons_zero, List.set_cons_succ]
        replace hX := hX.alloc (.cells #[Value.int .i64 q.hd] 3)
        replace hB := hB.alloc (.cells #[Value.int .i64 q.hd] 3)
        have p10 := NW.new W115 #[Value.int .i64 q.hd] 3
        have y10 : t6 ≤ W115.heap.size := by omega
        replace p15 := p15.alloc (.cells #[Value.int .i64 q.hd] 3)
        have zz : W115.heap.size < (W115.alloc (.cells #[Value.int .i64 q.hd] 3)).heap.size := by simp
        generalize W115.alloc (.cells #[Value.int .i64 q.hd] 3) = W116 at hX hB p10 p15 zz ⊢
        replace hz := Nat.lt_trans hz zz
        clear zz
        refine wpAnyP_ready (rs := [11]) (by kernel_rfl) (by simp) ?_
        refine AllReadyP.cons rfl (fun K hK => ?_) ?_
        refine step_append_lies (w := W116) rfl _ _ 23 rfl (b4 + 1) 3 i3 (.int .i64 0) 1 8 Tryz.underlying23 hi3 hz3 hs3 hb3 rfl Nat.one_pos _ _ _ rfl hX.o.h ⟨W115.heap.size, 0, none⟩ 1 1 [.int .i64 q.hd] rfl rfl p10.news (one_int _ _) Nat.one_pos cH1 cH2 (Nat.succ_le_of_lt hX.n4.lt) _ rfl ?_
        intro g11 c11 W117 ho hg hat _
        refine hK.out _ _ ⟨(hX.appH h24 hw4 rH ho hg hat).r, fun _ => hB.grown hg (rH.lo (Nat.le_of_lt h34))⟩ ?_
        clear hK K
        try simp only [Act.put, List.setIfInBounds_toArray, List.set_cons_zero, List.set_cons_succ]
        replace hX := hX.appH h24 hw4 rH ho hg hat
        replace hB := hB.grown hg (rH.lo (Nat.le_of_lt h34))
        replace p15 := p15.grown hg (rH.hi (by omega))
        replace hz := Nat.lt_of_lt_of_le hz hg.size
        clear ho hg hat p10
        refine wpAnyP_ready (rs := [16]) (by kernel_rfl) (by simp) ?_
        refine AllReadyP.cons rfl (fun K hK => ?_) ?_
        refine step_append_lies (w := W117) rfl _ _ 24 rfl (b4 + 1) 30 i30 (.agg Tryz.zeroCells30) 128 128 Tryz.underlying24 hi30 hz30 hs30 hb30 Tryz.zeroCells30_size (Nat.succ_pos _) _ _ _ rfl hX.o.b ⟨W0.heap.size, 0, none⟩ 1 1 (u8s G) rfl (by rw [u8s_length, hGl]) p15.news ((oneL_u8s _).2 trivial) Nat.one_pos cB1 cB2 (Nat.succ_le_of_lt hX.n4.lt) _ rfl ?_
        intro g16 c16 W118 ho hg hat _
        refine hK.out _ _ ⟨(hX.appB h24 hw4 rB ho hg hat).r, fun _ => hB.grown hg (rB.lo (Nat.le_of_lt h34))⟩ ?_
        clear hK K
        try simp only [Act.put, List.setIfInBounds_toArray, List.set_cons_zero, List.set_cons_succ]
        replace hX := hX.appB h24 hw4 rB ho hg hat
        replace hB := hB.grown hg (rB.lo (Nat.le_of_lt h34))
        replace hz := Nat.lt_of_lt_of_le hz hg.size
        clear ho hg hat p15
        refine wpAnyP_ready (rs := [18]) (by kernel_rfl) (by simp) ?_
        refine AllReadyP.cons rfl (fun K hK => ?_) ?_
        obtain ⟨_, _⟩ := id hB
        go_simp
        refine hK.out _ _ ⟨(hX.set h23 h34 h46 hw3 0 _).r, fun h => nomatch (show true = false from h)⟩ ?_
        clear hK K
        try simp only [Act.put, List.setIfInBounds_toArray, List.set_cons_zero, List.set_cons_succ]
        replace hX := hX.set h23 h34 h46 hw3 0 (Value.slice (some ⟨g5, 0, none⟩) (S.length + 1) c5)
        replace hB := hB.set 0 (Value.slice (some ⟨g5, 0, none⟩) (S.length + 1) c5)
        simp only [List.set_cons_zero, List.set_cons_succ] at hB
        generalize W118.setCell ⟨b3, 0, none⟩ (Value.slice (some ⟨g5, 0, none⟩) (S.length + 1) c5) = W119 at hX hB ⊢
        rename_i _q1 _q2
        clear _q1 _q2
        refine wpAnyP_ready (rs := [19]) (by kernel_rfl) (by simp) ?_
        refine AllReadyP.cons rfl (fun K hK => ?_) ?_
        go_simp
        refine hK.out _ _ ⟨hX.r, fun h => nomatch (show true = false from h)⟩ ?_
        clear hK K
        try simp only [Act.put, List.setIfInBounds_toArray, List.set_cons_zero, List.set_cons_succ]
        refine wpAnyP_ready (rs := [20]) (by kernel_rfl) (by simp) ?_
        refine AllReadyP.cons rfl (fun K hK => ?_) ?_
        obtain ⟨_, _⟩ := id hB
        go_simp
        refine hK.out _ _ ⟨(hX.set h23 h34 h46 hw3 1 _).r, fun h => nomatch (show true = false from h)⟩ ?_
        clear hK K
        try simp only [Act.put, List.setIfInBounds_toArray, List.set_cons_zero, List.set_cons_succ]
        replace hX := hX.set h23 h34 h46 hw3 1 (Value.slice (some ⟨g11, 0, none⟩) (H.length + 1) c11)
        replace hB := hB.set 1 (Value.slice (some ⟨g11, 0, none⟩) (H.length + 1) c11)
        simp only [List.set_cons_zero, List.set_cons_succ] at hB
        generalize W119.setCell ⟨b3, 1, none⟩ (Value.slice (some ⟨g11, 0, none⟩) (H.length + 1) c11) = W121 at hX hB ⊢
        rename_i _q1 _q2
        clear _q1 _q2
        refine wpAnyP_ready (rs := [21]) (by kernel_rfl) (by simp) ?_
        refine AllReadyP.cons rfl (fun K hK => ?_) ?_
        go_simp
        refine hK.out _ _ ⟨hX.r, fun h => nomatch (show true = false from h)⟩ ?_
        clear hK K
        try simp only [Act.put, List.setIfInBounds_toArray, List.set_cons_zero, List.set_cons_succ]
        refine wpAnyP_ready (rs := [22]) (by kernel_rfl) (by simp) ?_
        refine AllReadyP.cons rfl (fun K hK => ?_) ?_
        obtain ⟨_, _⟩ := id hB
        go_simp
        refine hK.out _ _ ⟨(hX.set h23 h34 h46 hw3 2 _).r, fun h => nomatch (show true = false from h)⟩ ?_
        clear hK K
        try simp only [Act.put, List.setIfInBounds_toArray, List.set_cons_zero, List.set_cons_succ]
        replace hX := hX.set h23 h34 h46 hw3 2 (Value.slice (some ⟨g16, 0, none⟩) (Bs.length + 1) c16)
        replace hB := hB.set 2 (Value.slice (some ⟨g16, 0, none⟩) (Bs.length + 1) c16)
        simp only [List.set_cons_zero, List.set_cons_succ] at hB
        generalize W121.setCell ⟨b3, 2, none⟩ (Value.slice (some ⟨g16, 0, none⟩) (Bs.length + 1) c16) = W123 at hX hB ⊢
        rename_i _q1 _q2
        clear _q1 _q2
        refine wpAnyP_done (by kernel_rfl) ?_ _
        exact hQ _ _ _ _ _ _ _ _ _ _ _ _ _ _ _ _ _ _ _ _ _ _ _ _ _ _ _ hX hB
        exact AllReadyP.nil
        exact AllReadyP.nil
        exact AllReadyP.nil
        exact AllReadyP.nil
        exact AllReadyP.nil
        exact AllReadyP.nil
        exact AllReadyP.nil
        exact AllReadyP.nil
      refine AllReadyP.cons rfl (fun K hK => ?_) ?_
      · --
        go_simp
        refine hK.out _ _ ⟨(hX.alloc _).r, fun _ => hB.alloc _⟩ ?_
        clear hK K
        try simp only [Act.put, List.setIfInBounds_toArray, List.set_cons_zero, List.set_cons_succ]
        replace hX := hX.alloc (.cells #[Value.int .i64 q.hd] 3)
        replace hB := hB.alloc (.cells #[Value.int .i64 q.hd] 3)
        have p10 := NW.new W114 #[Value.int .i64 q.hd] 3
        have y10 : t6 ≤ W114.heap.size := by omega
        replace p15 := p15.alloc (.cells #[Value.int .i64 q.hd] 3)
        replace p4 := p4.alloc (.cells #[Value.int .i64 q.hd] 3)
        have zz : W114.heap.size < (W114.alloc (.cells #[Value.int .i64 q.hd] 3)).heap.size := by simp
        generalize W114.alloc (.cells #[Value.int .i64 q.hd] 3) = W124 at hX hB p10 p15 p4 zz ⊢
        replace hz := Nat.lt_trans hz zz
        clear zz
        refine wpAnyP_ready (rs := [5]) (by kernel_rfl) (by simp) ?_
        refine AllReadyP.cons rfl (fun K hK => ?_) ?_
        refine step_append_lies (w := W124) rfl _ _ 22 rfl (b4 + 1) 28 i28 (.int .i64 0) 1 8 Tryz.underlying22 hi28 hz28 hs28 hb28 rfl Nat.one_pos _ _ _ rfl hX.o.s ⟨W113.heap.size, 0, none⟩ 1 1 [.int .i64 q.st] rfl rfl p4.news (one_int _ _) Nat.one_pos cS1 cS2 (Nat.succ_le_of_lt hX.n4.lt) _ rfl ?_
        intro g5 c5 W125 ho hg hat _
        refine hK.out _ _ ⟨(hX.appS h24 hw4 rS ho hg hat).r, fun _ => hB.grown hg (rS.lo (Nat.le_of_lt h34))⟩ ?_
        clear hK K
        try simp only [Act.put, List.setIfInBounds_toArray, List.set_cons_zero, List.set_cons_succ]
        replace hX := hX.appS h24 hw4 rS ho hg hat
        replace hB := hB.grown hg (rS.lo (Nat.le_of_lt h34))
        replace p15 := p15.grown hg (rS.hi (by omega))
        replace p10 := p10.grown hg (rS.hi (by omega))
        replace hz := Nat.lt_of_lt_of_le hz hg.size
        clear ho hg hat p4
        refine wpAnyP_takeR (i := 17) (v := ?_) rfl (by kernel_rfl) (by kernel_rfl) (by kernel_rfl) (by decide) (fun _ => by kernel_rfl) (fun _ _ _ => hP _ _ _ _ _) (by rfl) ⟨hX.r, fun _ => hB⟩ (fun W hw => ?_) ?_
        rotate_left
        · obtain ⟨⟨_, _⟩, ⟨_, _⟩⟩ := hw; go_simp; try with_reducible rfl
        simp only [Act.put, List.setIfInBounds_toArray, List.set_cons_zero, List.set_cons_succ]
        refine wpAnyP_ready (rs := [11]) (by kernel_rfl) (by simp) ?_
        refine AllReadyP.cons rfl (fun K hK => ?_) ?_
        refine step_append_lies (w := W125) rfl _ _ 23 rfl (b4 + 1) 3 i3 (.int .i64 0) 1 8 Tryz.underlying23 hi3 hz3 hs3 hb3 rfl Nat.one_pos _ _ _ rfl hX.o.h ⟨W114.heap.size, 0, none⟩ 1 1 [.int .i64 q.hd] rfl rfl p10.news (one_int _ _) Nat.one_pos cH1 cH2 (Nat.succ_le_of_lt hX.n4.lt) _ rfl ?_
        intro g11 c11 W126 ho hg hat _
        refine hK.out _ _ ⟨(hX.appH h24 hw4 rH ho hg hat).r, fun _ => hB.grown hg (rH.lo (Nat.le_of_lt h34))⟩ ?_
        clear hK K
        try simp only [Act.put, List.setIfInBounds_toArray, List.set_cons_zero, List.set_cons_succ]
        replace hX := hX.appH h24 hw4 rH ho hg hat
        replace hB := hB.grown hg (rH.lo (Nat.le_of_lt h34))
        replace p15 := p15.grown hg (rH.hi (by omega))
        replace hz := Nat.lt_of_lt_of_le hz hg.size
        clear ho hg hat p10
        refine wpAnyP_ready (rs := [16]) (by kernel_rfl) (by simp) ?_
        refine AllReadyP.cons rfl (fun K hK => ?_) ?_
        refine step_append_lies (w := W126) rfl _ _ 24 rfl (b4 + 1) 30 i30 (.agg Tryz.zeroCells30) 128 128 Tryz.underlying24 hi30 hz30 hs30 hb30 Tryz.zeroCells30_size (Nat.succ_pos _) _ _ _ rfl hX.o.b ⟨W0.heap.size, 0, none⟩ 1 1 (u8s G) rfl (by rw [u8s_length, hGl]) p15.news ((oneL_u8s _).2 trivial) Nat.one_pos cB1 cB2 (Nat.succ_le_of_lt hX.n4.lt) _ rfl ?_
        intro g16 c16 W127 ho hg hat _
        refine hK.out _ _ ⟨(hX.appB h24 hw4 rB ho hg hat).r, fun _ => hB.grown hg (rB.lo (Nat.le_of_lt h34))⟩ ?_
        clear hK K
        try simp only [Act.put, List.setIfInBounds_toArray, List.set_cons_zero, List.set_cons_succ]
        replace hX := hX.appB h24 hw4 rB ho hg hat
        replace hB := hB.grown hg (rB.lo (Nat.le_of_lt h34))
        replace hz := Nat.lt_of_lt_of_le hz hg.size
        clear ho hg hat p15
        refine wpAnyP_ready (rs := [18]) (by kernel_rfl) (by simp) ?_
        refine AllReadyP.cons rfl (fun K hK => ?_) ?_
        obtain ⟨_, _⟩ := id hB
        go_simp
        refine hK.out _ _ ⟨(hX.set h23 h34 h46 hw3 0 _).r, fun h => nomatch (show true = false from h)⟩ ?_
        clear hK K
        try simp only [Act.put, List.setIfInBounds_toArray, List.set_cons_zero, List.set_cons_succ]
        replace hX := hX.set h23 h34 h46 hw3 0 (Value.slice (some ⟨g5, 0, none⟩) (S.length + 1) c5)
        replace hB := hB.set 0 (Value.slice (some ⟨g5, 0, none⟩) (S.length + 1) c5)
        simp only [List.set_cons_zero, List.set_cons_succ] at hB
        generalize W127.setCell ⟨b3, 0, none⟩ (Value.slice (some ⟨g5, 0, none⟩) (S.length + 1) c5) = W128 at hX hB ⊢
        rename_i _q1 _q2
        clear _q1 _q2
        refine wpAnyP_ready (rs := [19]) (by kernel_rfl) (by simp) ?_
        refine AllReadyP.cons rfl (fun K hK => ?_) ?_
        go_simp
        refine hK.out _ _ ⟨hX.r, fun h => nomatch (show true = false from h)⟩ ?_
        clear hK K
        try simp only [Act.put, List.setIfInBounds_toArray, List.set_cons_zero, List.set_cons_succ]
        refine wpAnyP_ready (rs := [20]) (by kernel_rfl) (by simp) ?_
        refine AllReadyP.cons rfl (fun K hK => ?_) ?_
        obtain ⟨_, _⟩ := id hB
        go_simp
        refine hK.out _ _ ⟨(hX.set h23 h34 h46 hw3 1 _).r, fun h => nomatch (show true = false from h)⟩ ?_
        clear hK K
        try simp only [Act.put, List.setIfInBounds_toArray, List.set_cons_zero, List.set_cons_succ]
        replace hX := hX.set h23 h34 h46 hw3 1 (Value.slice (some ⟨g11, 0, none⟩) (H.length + 1) c11)
        replace hB := hB.set 1 (Value.slice (some ⟨g11, 0, none⟩) (H.length + 1) c11)
        simp only [List.set_cons_zero, List.set_cons_succ] at hB
        generalize W128.setCell ⟨b3, 1, none⟩ (Value.slice (some ⟨g11, 0, none⟩) (H.length + 1) c11) = W130 at hX hB ⊢
        rename_i _q1 _q2
        clear _q1 _q2
        refine wpAnyP_ready (rs := [21]) (by kernel_rfl) (by simp) ?_
        refine AllReadyP.cons rfl (fun K hK => ?_) ?_
        go_simp
        refine hK.out _ _ ⟨hX.r, fun h => nomatch (show true = false from h)⟩ ?_
        clear hK K
        try simp only [Act.put, List.setIfInBounds_toArray, List.set_cons_zero, List.set_cons_succ]
        refine wpAnyP_ready (rs := [22]) (by kernel_rfl) (by simp) ?_
        refine AllReadyP.cons rfl (fun K hK => ?_) ?_
        obtain ⟨_, _⟩ := id hB
        go_simp
        refine hK.out _ _ ⟨(hX.set h23 h34 h46 hw3 2 _).r, fun h => nomatch (show true = false from h)⟩ ?_
        clear hK K
        try simp only [Act.put, List.setIfInBounds_toArray, List.set_cons_zero, List.set_cons_succ]
        replace hX := hX.set h23 h34 h46 hw3 2 (Value.slice (some ⟨g16, 0, none⟩) (Bs.length + 1) c16)
        replace hB := hB.set 2 (Value.slice (some ⟨g16, 0, none⟩) (Bs.length + 1) c16)
        simp only [List.set_cons_zero, List.set_cons_succ] at hB
        generalize W130.setCell ⟨b3, 2, none⟩ (Value.slice (some ⟨g16, 0, none⟩) (Bs.length + 1) c16) = W132 at hX hB ⊢
        rename_i _q1 _q2
        clear _q1 _q2
        refine wpAnyP_done (by kernel_rfl) ?_ _
        exact hQ _ _ _ _ _ _ _ _ _ _ _ _ _ _ _ _ _ _ _ _ _ _ _ _ _ _ _ hX hB
        exact AllReadyP.nil
        exact AllReadyP.nil
        exact AllReadyP.nil
        exact AllReadyP.nil
        exact AllReadyP.nil
        exact AllReadyP.nil
        exact AllReadyP.nil
        exact AllReadyP.nil
      exact AllReadyP.nil
    refine AllReadyP.cons rfl (fun K hK => ?_) ?_
    · --
      go_simp
      refine hK.out _ _ ⟨(hX.alloc _).r, fun _ => hB.alloc _⟩ ?_
      clear hK K
      try simp only [Act.put, List.setIfInBounds_toArray, List.set_cons_zero, List.set_cons_succ]
      replace hX := hX.alloc (.cells #[Value.int .i64 q.hd] 3)
      replace hB := hB.alloc (.cells #[Value.int .i64 q.hd] 3)
      have p10 := NW.new W113 #[Value.int .i64 q.hd] 3
      have y10 : t6 ≤ W113.heap.size := by omega
      replace p15 := p15.alloc (.cells #[Value.int .i64 q.hd] 3)
      have zz : W113.heap.size < (W113.alloc (.cells #[Value.int .i64 q.hd] 3)).heap.size := by simp
      generalize W113.alloc (.cells #[Value.int .i64 q.hd] 3) = W133 at hX hB p10 p15 zz ⊢
      replace hz := Nat.lt_trans hz zz
      clear zz
      refine wpAnyP_ready (rs := [4]) (by kernel_rfl) (by simp) ?_
      refine AllReadyP.cons rfl (fun K hK => ?_) ?_
      go_simp
      refine hK.out _ _ ⟨(hX.alloc _).r, fun _ => hB.alloc _⟩ ?_
      clear hK K
      try simp only [Act.put, List.setIfInBounds_toArray, List.set_cons_zero, List.set_cons_succ]
      replace hX := hX.alloc (.cells #[Value.int .i64 q.st] 28)
      replace hB := hB.alloc (.cells #[Value.int .i64 q.st] 28)
      have p4 := NW.new W133 #[Value.int .i64 q.st] 28
      have y4 : t6 ≤ W133.heap.size := by omega
      replace p15 := p15.alloc (.cells #[Value.int .i64 q.st] 28)
      replace p10 := p10.alloc (.cells #[Value.int .i64 q.st] 28)
      have zz : W133.heap.size < (W133.alloc (.cells #[Value.int .i64 q.st] 28)).heap.size := by simp
      generalize W133.alloc (.cells #[Value.int .i64 q.st] 28) = W134 at hX hB p4 p15 p10 zz ⊢
      replace hz := Nat.lt_trans hz zz
      clear zz
      refine wpAnyP_ready (rs := [5]) (by kernel_rfl) (by simp) ?_
      refine AllReadyP.cons rfl (fun K hK => ?_) ?_
      refine step_append_lies (w := W134) rfl _ _ 22 rfl (b4 + 1) 28 i28 (.int .i64 0) 1 8 Tryz.underlying22 hi28 hz28 hs28 hb28 rfl Nat.one_pos _ _ _ rfl hX.o.s ⟨W133.heap.size, 0, none⟩ 1 1 [.int .i64 q.st] rfl rfl p4.news (one_int _ _) Nat.one_pos cS1 cS2 (Nat.succ_le_of_lt hX.n4.lt) _ rfl ?_
      intro g5 c5 W135 ho hg hat _
      refine hK.out _ _ ⟨(hX.appS h24 hw4 rS ho hg hat).r, fun _ => hB.grown hg (rS.lo (Nat.le_of_lt h34))⟩ ?_
      clear hK K
      try simp only [Act.put, List.setIfInBounds_toArray, List.set_cons_zero, List.set_cons_succ]
      replace hX := hX.appS h24 hw4 rS ho hg hat
      replace hB := hB.grown hg (rS.lo (Nat.le_of_lt h34))
      replace p15 := p15.grown hg (rS.hi (by omega))
      replace p10 := p10.grown hg (rS.hi (by omega))
      replace hz := Nat.lt_of_lt_of_le hz hg.size
      clear ho hg hat p4
      refine wpAnyP_takeR (i := 17) (v := ?_) rfl (by kernel_rfl) (by kernel_rfl) (by kernel_rfl) (by decide) (fun _ => by kernel_rfl) (fun _ _ _ => hP _ _ _ _ _) (by rfl) ⟨hX.r, fun _ => hB⟩ (fun W hw => ?_) ?_
      rotate_left
      · obtain ⟨⟨_, _⟩, ⟨_, _⟩⟩ := hw; go_simp; try with_reducible rfl
      simp only [Act.put, List.setIfInBounds_toArray, List.set_cons_zero, List.set_cons_succ]
      refine wpAnyP_ready (rs := [11]) (by kernel_rfl) (by simp) ?_
      refine AllReadyP.cons rfl (fun K hK => ?_) ?_
      refine step_append_lies (w := W135) rfl _ _ 23 rfl (b4 + 1) 3 i3 (.int .i64 0) 1 8 Tryz.underlying23 hi3 hz3 hs3 hb3 rfl Nat.one_pos _ _ _ rfl hX.o.h ⟨W113.heap.size, 0, none⟩ 1 1 [.int .i64 q.hd] rfl rfl p10.news (one_int _ _) Nat.one_pos cH1 cH2 (Nat.succ_le_of_lt hX.n4.lt) _ rfl ?_
      intro g11 c11 W136 ho hg hat _
      refine hK.out _ _ ⟨(hX.appH h24 hw4 rH ho hg hat).r, fun _ => hB.grown hg (rH.lo (Nat.le_of_lt h34))⟩ ?_
      clear hK K
      try simp only [Act.put, List.setIfInBounds_toArray, List.set_cons_zero, List.set_cons_succ]
      replace hX := hX.appH h24 hw4 rH ho hg hat
      replace hB := hB.grown hg (rH.lo (Nat.le_of_lt h34))
      replace p15 := p15.grown hg (rH.hi (by omega))
      replace hz := Nat.lt_of_lt_of_le hz hg.size
      clear ho hg hat p10
      refine wpAnyP_ready (rs := [16]) (by kernel_rfl) (by simp) ?_
      refine AllReadyP.cons rfl (fun K hK => ?_) ?_
      refine step_append_lies (w := W136) rfl _ _ 24 rfl (b4 + 1) 30 i30 (.agg Tryz.zeroCells30) 128 128 Tryz.underlying24 hi30 hz30 hs30 hb30 Tryz.zeroCells30_size (Nat.succ_pos _) _ _ _ rfl hX.o.b ⟨W0.heap.size, 0, none⟩ 1 1 (u8s G) rfl (by rw [u8s_length, hGl]) p15.news ((oneL_u8s _).2 trivial) Nat.one_pos cB1 cB2 (Nat.succ_le_of_lt hX.n4.lt) _ rfl ?_
      intro g16 c16 W137 ho hg hat _
      refine hK.out _ _ ⟨(hX.appB h24 hw4 rB ho hg hat).r, fun _ => hB.grown hg (rB.lo (Nat.le_of_lt h34))⟩ ?_
      clear hK K
      try simp only [Act.put, List.setIfInBounds_toArray, List.set_cons_zero, List.set_cons_succ]
      replace hX := hX.appB h24 hw4 rB ho hg hat
      replace hB := hB.grown hg (rB.lo (Nat.le_of_lt h34))
      replace hz := Nat.lt_of_lt_of_le hz hg.size
      clear ho hg hat p15
      refine wpAnyP_ready (rs := [18]) (by kernel_rfl) (by simp) ?_
      refine AllReadyP.cons rfl (fun K hK => ?_) ?_
      obtain ⟨_, _⟩ := id hB
      go_simp
      refine hK.out _ _ ⟨(hX.set h23 h34 h46 hw3 0 _).r, fun h => nomatch (show true = false from h)⟩ ?_
      clear hK K
      try simp only [Act.put, List.setIfInBounds_toArray, List.set_cons_zero, List.set_cons_succ]
      replace hX := hX.set h23 h34 h46 hw3 0 (Value.slice (some ⟨g5, 0, none⟩) (S.length + 1) c5)
      replace hB := hB.set 0 (Value.slice (some ⟨g5, 0, none⟩) (S.length + 1) c5)
      simp only [List.set_cons_zero, List.set_cons_succ] at hB
      generalize W137.setCell ⟨b3, 0, none⟩ (Value.slice (some ⟨g5, 0, none⟩) (S.length + 1) c5) = W138 at hX hB ⊢
      rename_i _q1 _q2
      clear _q1 _q2
      refine wpAnyP_ready (rs := [19]) (by kernel_rfl) (by simp) ?_
      refine AllReadyP.cons rfl (fun K hK => ?_) ?_
      go_simp
      refine hK.out _ _ ⟨hX.r, fun h => nomatch (show true = false from h)⟩ ?_
      clear hK K
      try simp only [Act.put, List.setIfInBounds_toArray, List.set_cons_zero, List.set_cons_succ]
      refine wpAnyP_ready (rs := [20]) (by kernel_rfl) (by simp) ?_
      refine AllReadyP.cons rfl (fun K hK => ?_) ?_
      obtain ⟨_, _⟩ := id hB
      go_simp
      refine hK.out _ _ ⟨(hX.set h23 h34 h46 hw3 1 _).r, fun h => nomatch (show true = false from h)⟩ ?_
      clear hK K
      try simp only [Act.put, List.setIfInBounds_toArray, List.set_cons_zero, List.set_cons_succ]
      replace hX := hX.set h23 h34 h46 hw3 1 (Value.slice (some ⟨g11, 0, none⟩) (H.length + 1) c11)
      replace hB := hB.set 1 (Value.slice (some ⟨g11, 0, none⟩) (H.length + 1) c11)
      simp only [List.set_cons_zero, List.set_cons_succ] at hB
      generalize W138.setCell ⟨b3, 1, none⟩ (Value.slice (some ⟨g11, 0, none⟩) (H.length + 1) c11) = W140 at hX hB ⊢
      rename_i _q1 _q2
      clear _q1 _q2
      refine wpAnyP_ready (rs := [21]) (by kernel_rfl) (by simp) ?_
      refine AllReadyP.cons rfl (fun K hK => ?_) ?_
      go_simp
      refine hK.out _ _ ⟨hX.r, fun h => nomatch (show true = false from h)⟩ ?_
      clear hK K
      try simp only [Act.put, List.setIfInBounds_toArray, List.set_cons_zero, List.set_cons_succ]
      refine wpAnyP_ready (rs := [22]) (by kernel_rfl) (by simp) ?_
      refine AllReadyP.cons rfl (fun K hK => ?_) ?_
      obtain ⟨_, _⟩ := id hB
      go_simp
      refine hK.out _ _ ⟨(hX.set h23 h34 h46 hw3 2 _).r, fun h => nomatch (show true = false from h)⟩ ?_
      clear hK K
      try simp only [Act.put, List.setIfInBounds_toArray, List.set_cons_zero, List.set_cons_succ]
      replace hX := hX.set h23 h34 h46 hw3 2 (Value.slice (some ⟨g16, 0, none⟩) (Bs.length + 1) c16)
      replace hB := hB.set 2 (Value.slice (some ⟨g16, 0, none⟩) (Bs.length + 1) c16)
      simp only [List.set_cons_zero, List.set_cons_succ] at hB
      generalize W140.setCell ⟨b3, 2, none⟩ (Value.slice (some ⟨g16, 0, none⟩) (Bs.length + 1) c16) = W142 at hX hB ⊢
      rename_i _q1 _q2
      clear _q1 _q2
      refine wpAnyP_done (by kernel_rfl) ?_ _
      exact hQ _ _ _ _ _ _ _ _ _ _ _ _ _ _ _ _ _ _ _ _ _ _ _ _ _ _ _ hX hB
      exact AllReadyP.nil
      exact AllReadyP.nil
      exact AllReadyP.nil
      exact AllReadyP.nil
      exact AllReadyP.nil
      exact AllReadyP.nil
      exact AllReadyP.nil
      exact AllReadyP.nil
      exact AllReadyP.nil
    exact AllReadyP.nil
  exact AllReadyP.nil
end Go.Proofs
