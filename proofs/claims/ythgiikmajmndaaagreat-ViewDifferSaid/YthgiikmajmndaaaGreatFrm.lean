/- What is kept behind a call, block by block. -/
import Derived.Test.YthgiikmajmndaaaGreatMap
namespace Anc
open Go Go.RowKit Go.Instr
theorem keep4 {S : List Nat} {w w1 : World} (f : Fr S w w1) {b : Nat} (hb : isB w b = true) (hn : b ∉ S) {l : List Value} (hl : blk w b = l) : isB w1 b = true ∧ blk w1 b = l ∧ b < w1.heap.size ∧ b ≠ w1.heap.size :=
  ⟨(f.isB b (isB_lt hb) hn).trans hb, (f.blk b (isB_lt hb) hn).trans hl, f.lt (isB_lt hb), Nat.ne_of_lt (f.lt (isB_lt hb))⟩
theorem blk_setCell_length (w : World) (c o : Nat) (v : Value) (b : Nat) : (blk (w.setCell ⟨c, o, none⟩ v) b).length = (blk w b).length := by
  by_cases h : b = c
  · subst h; rw [blk_setCell_same]; simp
  · rw [blk_setCell_other _ (by simpa using h)]
theorem blk_setCells_length (c b : Nat) : ∀ (l : List Value) (o : Nat) (w : World), (blk (w.setCells c o l) b).length = (blk w b).length
  | [], _, _ => rfl
  | v :: l, o, w => by rw [World.setCells, blk_setCells_length c b l, blk_setCell_length]
theorem add_1_1 (a : Nat) : a + 1 + 1 = a + 2 := by omega
theorem add_1_2 (a : Nat) : a + 2 + 1 = a + 3 := by omega
theorem add_1_3 (a : Nat) : a + 3 + 1 = a + 4 := by omega
theorem add_1_4 (a : Nat) : a + 4 + 1 = a + 5 := by omega
theorem add_1_5 (a : Nat) : a + 5 + 1 = a + 6 := by omega
theorem add_1_6 (a : Nat) : a + 6 + 1 = a + 7 := by omega
theorem add_1_7 (a : Nat) : a + 7 + 1 = a + 8 := by omega
theorem add_1_8 (a : Nat) : a + 8 + 1 = a + 9 := by omega
theorem add_1_9 (a : Nat) : a + 9 + 1 = a + 10 := by omega
theorem add_1_10 (a : Nat) : a + 10 + 1 = a + 11 := by omega
theorem add_1_11 (a : Nat) : a + 11 + 1 = a + 12 := by omega
theorem add_1_12 (a : Nat) : a + 12 + 1 = a + 13 := by omega
theorem add_1_13 (a : Nat) : a + 13 + 1 = a + 14 := by omega
theorem add_1_14 (a : Nat) : a + 14 + 1 = a + 15 := by omega
theorem add_1_15 (a : Nat) : a + 15 + 1 = a + 16 := by omega
theorem add_1_16 (a : Nat) : a + 16 + 1 = a + 17 := by omega
theorem add_1_17 (a : Nat) : a + 17 + 1 = a + 18 := by omega
theorem add_1_18 (a : Nat) : a + 18 + 1 = a + 19 := by omega
theorem add_1_19 (a : Nat) : a + 19 + 1 = a + 20 := by omega
theorem add_1_20 (a : Nat) : a + 20 + 1 = a + 21 := by omega
theorem add_1_21 (a : Nat) : a + 21 + 1 = a + 22 := by omega
theorem add_1_22 (a : Nat) : a + 22 + 1 = a + 23 := by omega
theorem add_1_23 (a : Nat) : a + 23 + 1 = a + 24 := by omega
attribute [go_sem] add_1_1 add_1_2 add_1_3 add_1_4 add_1_5 add_1_6 add_1_7 add_1_8 add_1_9 add_1_10 add_1_11 add_1_12 add_1_13 add_1_14 add_1_15 add_1_16 add_1_17 add_1_18 add_1_19 add_1_20 add_1_21 add_1_22 add_1_23
theorem blk_drew_length (w : World) (b : Nat) : (blk w.drew b).length = (blk w b).length := by rw [blk_drew]
theorem blk_setCells_lt {w : World} {b k : Nat} (h : k < b) (o : Nat) (l : List Value) : blk (w.setCells b o l) k = blk w k := blk_setCells_other (Nat.ne_of_lt h) l o w
theorem blk_setCell_lt {w : World} {b k : Nat} (h : k < b) (o : Nat) (v : Value) : blk (w.setCell ⟨b, o, none⟩ v) k = blk w k := blk_setCell_other v (Nat.ne_of_lt h)
attribute [go_sem] blk_setCells_lt blk_setCell_lt
attribute [go_sem] blk_alloc_new isB_alloc_new
attribute [go_sem ↓] blk_drew_length
attribute [go_sem ↓] blk_setCell_length blk_setCells_length
end Anc
