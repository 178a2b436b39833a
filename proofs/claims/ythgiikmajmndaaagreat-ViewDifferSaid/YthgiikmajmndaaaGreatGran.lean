/- Contracts of the program's rows (package granule). Conditions: the rows lie as 'RowP' says. -/
import Derived.Test.YthgiikmajmndaaaGreatMap
import Derived.Deep.RegionHeld3
import Derived.Lib.Hide
namespace Anc
open Go Go.RowKit Go.Instr
def keyLt (a b : Int) : Value := .agg #[.int .i64 a, .int .i64 b]
/-- the steps: is there one, and must there be an owner? -/
def stepK (k : Nat) (a b : Int) : Option Bool :=
  if a = 0 ∧ b = 1 then some false else if a = 1 ∧ b = 0 then some false else
  if a = 1 ∧ 2 ≤ b ∧ b < 2 + k then some true else if b = 1 ∧ 2 ≤ a ∧ a < 2 + k then some false else none
theorem stepK_succ (k : Nat) (a b : Int) : stepK (k + 1) a b = if a = 2 + k ∧ b = 1 then some false else if a = 1 ∧ b = 2 + k then some true else stepK k a b := by
  unfold stepK
  (repeat' split) <;> first | rfl | (exfalso; omega)
theorem good2 (a b : Int) : goodArr .i64 2 (.agg #[.int .i64 a, .int .i64 b]) ↔ (Lit.int .i64 a).wf = true ∧ (Lit.int .i64 b).wf = true := by
  constructor
  · rintro ⟨l, hl, hn, hw⟩
    match l, hn with
    | [x, y], _ =>
      simp at hl
      obtain ⟨rfl, rfl⟩ := hl
      exact ⟨hw _ (by simp), hw _ (by simp)⟩
  · rintro ⟨ha, hb⟩
    exact ⟨[a, b], rfl, rfl, by simp [ha, hb]⟩
/-- the map of the steps, the first k states laid -/
structure StepsM (w : World) (r : Nat) (k : Nat) : Prop where
  is : isM w r = true
  good : GoodE (goodArr .i64 2) (ents w r)
  look : ∀ a b, lookV eqInts (keyLt a b) (ents w r) = (stepK k a b).map fun t => .agg #[.bool t]
theorem eqInts2 (a b c d : Int) : eqInts (keyLt a b) (keyLt c d) = decide (a = c ∧ b = d) := by
  simp [eqInts, eqBy, keyLt, intsOf]
end Anc
namespace Go.Proofs
open Go Go.RowKit Anc
theorem Tryz.arr328 : ArrT Tryz.prog 328 2 .i64 := ⟨⟨_, Tryz.underlying328, Tryz.underlying28, by kernel_rfl⟩, by kernel_rfl, by kernel_rfl⟩
theorem Tryz.mu326 (w : World) (r : Nat) (k v : Value) (hM : isM w r = true) (hg : goodArr .i64 2 k) (hes : GoodE (goodArr .i64 2) (ents w r)) :
    (Instr.mapUpdate 326 (.map (some r)) k v).run Tryz.prog w = .ok () (putO w r (updE eqInts k v (ents w r) (clk w r))) :=
  mapUpdate_run Tryz.underlying326 (keyT_arr Tryz.arr328) w r k v hM hg hes
theorem Tryz.lk326 (w : World) (r : Nat) (k : Value) (hM : isM w r = true) (hg : goodArr .i64 2 k) (hes : GoodE (goodArr .i64 2) (ents w r)) :
    (Instr.lookup 326 (.map (some r)) k true).run Tryz.prog w = .ok (.tuple #[(lookV eqInts k (ents w r)).getD (.agg #[.bool false]), .bool (lookV eqInts k (ents w r)).isSome]) w := by
  rw [lookup_run Tryz.underlying326 (keyT_arr Tryz.arr328) (.agg #[.bool false]) (fun w => Tryz.zeroValue324 w) w r k true hM hg hes]
  rw [← lookV_find eqInts k (ents w r) 0]
  cases findL eqInts k (ents w r) 0 with
  | none => rfl
  | some p => rfl
attribute [go_sem] Tryz.mu326 Tryz.lk326 good2
set_option maxRecDepth 100000 in
theorem Tryz.stepsP (w : World) : Calls Tryz.prog 201 #[] w fun e w' => ∃ r, e = .returned (.map (some r)) ∧ w.heap.size ≤ r ∧ StepsM w' r 4 ∧ Fr [] w w' := by
  have hmm := @run_makeMap Tryz.prog
  have w0 : (Lit.int .i64 0).wf = true := rfl
  have w1 : (Lit.int .i64 1).wf = true := rfl
  go_enter Tryz.func201, Tryz.ntmps201
  go_wp2
  go_region_held3 (fun W => True) (trivial) (fail)
  all_goals go_wp2
  all_goals
    go_loopw [3, 12] (fun _ i wr => ∃ k : Nat, k ≤ 4 ∧ i = .int .i64 k ∧ StepsM wr w.heap.size k ∧ isB wr (w.heap.size + 1) = true ∧ blk wr (w.heap.size + 1) = [.int .i64 2, .int .i64 3, .int .i64 4, .int .i64 5] ∧ Fr [] w wr ∧ w.heap.size + 1 < wr.heap.size) (fun _ i _ => 4 - (intOf i).toNat)
    case atStart =>
      refine ⟨0, by omega, rfl, ⟨?_, ?_, ?_⟩, ?_, ?_, ?_, ?_⟩
      · go_simp
      · go_simp
      · intro a b
        go_simp
        unfold eqInts
        rw [lookV_upd]
        simp only [lookV]
        have e1 := eqInts2 a b 0 1
        have e2 := eqInts2 a b 1 0
        unfold eqInts keyLt at e1 e2
        unfold keyLt
        rw [e1, e2]
        unfold stepK
        by_cases h1 : a = 0 ∧ b = 1
        · obtain ⟨rfl, rfl⟩ := h1; simp
        · by_cases h2 : a = 1 ∧ b = 0
          · obtain ⟨rfl, rfl⟩ := h2; simp
          · have h3 : ¬ (a = 1 ∧ 2 ≤ b ∧ b < 2 + ((0 : Nat) : Int)) := by omega
            have h4 : ¬ (b = 1 ∧ 2 ≤ a ∧ a < 2 + ((0 : Nat) : Int)) := by omega
            rw [if_neg h1, if_neg h2, if_neg h3, if_neg h4]
            simp [h1, h2]
      · go_simp
      · go_simp
      · exact ((((((Fr.refl [] w).alloc _).drew).putO (by simp) _).putO (by simp) _).alloc _)
      · go_simp
    case round =>
      obtain ⟨k, hk, rfl, hS, hB, hbl, f, hlt⟩ := hrel
      have c0 := hS.is
      have c1 := hS.good
      by_cases hk4 : k < 4
      · have r0 : (2 + (k : Int)) = 2 + k := rfl
        have hc : (blk wr (w.heap.size + 1))[k]? = some (.int .i64 (2 + k)) := by
          rw [hbl]
          match k, hk4 with
          | 0, _ => rfl
          | 1, _ => rfl
          | 2, _ => rfl
          | 3, _ => rfl
        have wk : (Lit.int .i64 (2 + k)).wf = true := WalkArith.wf_i64 (by omega)
        have hlt0 : w.heap.size < wr.heap.size := by omega
        have hbl' := Lib.hid hbl
        clear hbl r0
        go_wp2
        go_roundw
        case rel =>
          refine ⟨k + 1, by omega, by go_num, ⟨?_, ?_, ?_⟩, ?_, ?_, ?_, ?_⟩
          · go_simp
          · go_simp
          · intro a b
            go_simp
            have e1 := eqInts2 a b 1 (2 + k)
            have e2 := eqInts2 a b (2 + k) 1
            have e3 := hS.look a b
            unfold eqInts keyLt at e1 e2 e3 ⊢
            rw [lookV_upd, lookV_upd, e1, e2, e3]
            rw [stepK_succ]
            by_cases h1 : a = 2 + k ∧ b = 1
            · simp [h1]
            · by_cases h2 : a = 1 ∧ b = 2 + k
              · have h3 : ¬ ((1 : Int) = 2 + k ∧ (2 + (k : Int)) = 1) := by omega
                obtain ⟨rfl, rfl⟩ := h2
                simp only [h3, decide_false, if_false, and_self, decide_true, if_true]
                rfl
              · simp [h1, h2]
          · go_simp
          · go_simp
            exact hbl'.out
          · exact (f.putO (by simp) _).putO (by simp) _
          · go_simp
        case measure => simp [intOf]; omega
      · obtain rfl : k = 4 := by omega
        clear hbl
        go_wp2
        go_ret
        exact ⟨_, rfl, Nat.le_refl _, hS, f⟩
end Go.Proofs
