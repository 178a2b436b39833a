/- Blocks of a world as lists of cells, and loads and stores of whole arrays and structs as laws on these lists. Conditions: none. -/
import Derived.Test.YthgiikmajmndaaaGreatBase
namespace Anc
open Go Go.RowKit

/-- the cells of a block that may be written; else none -/
def blk (w : World) (b : Nat) : List Value := match w.heap[b]? with | some (.cells c _ f) => if f = (0, 0) then c.toList else [] | _ => []
/-- is it a block of cells, all of which may be written? -/
def isB (w : World) (b : Nat) : Bool := match w.heap[b]? with | some (.cells _ _ f) => decide (f = (0, 0)) | _ => false
/-- a piece laid over a list -/
def splice {α : Type} (m : List α) (o : Nat) (l : List α) : List α := m.take o ++ l ++ m.drop (o + l.length)
/-- a piece of a list -/
def sub {α : Type} (l : List α) (o n : Nat) : List α := (l.drop o).take n

theorem splice_length {α : Type} {m : List α} {o : Nat} {l : List α} (h : o + l.length ≤ m.length) : (splice m o l).length = m.length := by
  simp [splice]; omega
theorem sub_length {α : Type} {l : List α} {o n : Nat} (h : o + n ≤ l.length) : (sub l o n).length = n := by
  simp [sub]; omega
theorem sub_all {α : Type} {l : List α} {n : Nat} (h : l.length = n) : sub l 0 n = l := by
  simp [sub, ← h]
theorem sub_nil {α : Type} (o n : Nat) : sub ([] : List α) o n = [] := by simp [sub]
theorem sub_cons {α : Type} (a : α) (l : List α) (o n : Nat) : sub (a :: l) o n = ((a :: l).drop o).take n := rfl
theorem sub_u8s (m : Bytes) (o n : Nat) : sub (u8s m) o n = u8s (sub m o n) := by simp [sub, u8s, List.map_take, List.map_drop]
theorem splice_u8s (m : Bytes) (o : Nat) (l : Bytes) : splice (u8s m) o (u8s l) = u8s (splice m o l) := by simp [splice, u8s, List.map_take, List.map_drop]
theorem sub_splice_same {α : Type} {m l : List α} {o : Nat} (h : o + l.length ≤ m.length) : sub (splice m o l) o l.length = l := by
  have : (List.take o m).length = o := by simp; omega
  simp [sub, splice, this]
theorem sub_splice_other {α : Type} {m l : List α} {o a n : Nat} (h : o + l.length ≤ m.length) (hd : a + n ≤ o ∨ o + l.length ≤ a) : sub (splice m o l) a n = sub m a n := by
  apply List.ext_getElem?
  intro i
  simp only [sub, splice, List.getElem?_take, List.getElem?_drop]
  by_cases hi : i < n
  · simp only [hi, if_true, List.getElem?_append, List.length_append, List.length_take, List.getElem?_take, List.getElem?_drop]
    have e : min o m.length = o := by omega
    rw [e]
    rcases hd with hd | hd
    · simp [show a + i < o + l.length by omega, show a + i < o by omega]
    · have e2 : o + l.length + (a + i - (o + l.length)) = a + i := by omega
      simp [show ¬ a + i < o + l.length by omega, e2]
  · simp [hi]
theorem splice_all {α : Type} {m l : List α} (h : l.length = m.length) : splice m 0 l = l := by simp [splice, h]

theorem isB_spec {w : World} {b : Nat} (h : isB w b = true) : ∃ c T, w.heap[b]? = some (.cells c T (0, 0)) ∧ blk w b = c.toList := by
  unfold isB at h
  split at h
  · rename_i c T f hb
    have hf : f = (0, 0) := by simpa using h
    subst hf
    exact ⟨c, T, hb, by simp [blk, hb]⟩
  · cases h

theorem isB_mk {w : World} {b : Nat} {c : Array Value} {T : TypeId} (h : w.heap[b]? = some (.cells c T (0, 0))) : isB w b = true := by simp [isB, h]
theorem blk_mk {w : World} {b : Nat} {c : Array Value} {T : TypeId} (h : w.heap[b]? = some (.cells c T (0, 0))) : blk w b = c.toList := by simp [blk, h]

theorem isB_lt {w : World} {b : Nat} (h : isB w b = true) : b < w.heap.size := by
  obtain ⟨c, T, hb, _⟩ := isB_spec h
  exact lt_of_block hb

theorem cell_blk {w : World} {b : Nat} (h : isB w b = true) (o : Nat) : w.cell? ⟨b, o, none⟩ = (blk w b)[o]? := by
  obtain ⟨c, T, hb, hl⟩ := isB_spec h
  rw [cell_of_row w b o c T _ hb, hl]; simp

theorem frozen_blk {w : World} {b : Nat} (h : isB w b = true) (o : Nat) : w.frozen? ⟨b, o, none⟩ = false := by
  obtain ⟨c, T, hb, _⟩ := isB_spec h
  exact frozen_of_row w b o c T hb

/-! ### what steps do to blocks -/
theorem blk_of_heap {w w' : World} {b : Nat} (h : w'.heap[b]? = w.heap[b]?) : blk w' b = blk w b := by simp [blk, h]
theorem isB_of_heap {w w' : World} {b : Nat} (h : w'.heap[b]? = w.heap[b]?) : isB w' b = isB w b := by simp [isB, h]

theorem blk_alloc {w : World} {b : Nat} (o : Obj) (h : b < w.heap.size) : blk (w.alloc o) b = blk w b := blk_of_heap (Below.heap_alloc _ _ _ h)
theorem isB_alloc {w : World} {b : Nat} (o : Obj) (h : b < w.heap.size) : isB (w.alloc o) b = isB w b := isB_of_heap (Below.heap_alloc _ _ _ h)
theorem blk_alloc_new (w : World) (c : Array Value) (T : TypeId) : blk (w.alloc (.cells c T (0, 0))) w.heap.size = c.toList := blk_mk (heap_alloc_new w _)
theorem isB_alloc_new (w : World) (c : Array Value) (T : TypeId) : isB (w.alloc (.cells c T (0, 0))) w.heap.size = true := isB_mk (heap_alloc_new w _)
theorem blk_alloc_at {w : World} {k : Nat} {c : Array Value} {T : TypeId} (h : w.heap.size = k) : blk (w.alloc (.cells c T (0, 0))) k = c.toList := by subst h; exact blk_alloc_new w c T
theorem isB_alloc_at {w : World} {k : Nat} {c : Array Value} {T : TypeId} (h : w.heap.size = k) : isB (w.alloc (.cells c T (0, 0))) k = true := by subst h; exact isB_alloc_new w c T
theorem blk_drew (w : World) (b : Nat) : blk w.drew b = blk w b := blk_of_heap rfl
theorem isB_drew (w : World) (b : Nat) : isB w.drew b = isB w b := isB_of_heap rfl
theorem blk_setCell_other {w : World} {b : Nat} {a : Addr} (v : Value) (h : b ≠ a.block) : blk (w.setCell a v) b = blk w b := blk_of_heap (Below.heap_setCell _ _ _ _ h)
theorem isB_setCell {w : World} {b : Nat} (a : Addr) (v : Value) : isB (w.setCell a v) b = isB w b := by
  unfold isB
  simp only [World.setCell, Array.getElem?_modify]
  by_cases h : a.block = b
  · subst h
    simp only [if_true]
    cases hb : w.heap[a.block]? with
    | none => simp
    | some o => cases o <;> simp
  · rw [if_neg h]
theorem blk_setCell_same {w : World} {b o : Nat} (v : Value) : blk (w.setCell ⟨b, o, none⟩ v) b = (blk w b).set o v := by
  unfold blk
  simp only [World.setCell, Array.getElem?_modify, if_true]
  cases hb : w.heap[b]? with
  | none => simp
  | some ob =>
    cases ob with
    | cells c T f => by_cases hf : f = (0, 0) <;> simp [hf]
    | _ => simp
theorem size_setCells (w : World) (b : Nat) : ∀ (l : List Value) (o : Nat), (w.setCells b o l).heap.size = w.heap.size := by
  intro l
  induction l generalizing w with
  | nil => intro o; rfl
  | cons v l ih => intro o; rw [World.setCells, ih]; simp [World.setCell]
theorem isB_setCells {b k : Nat} : ∀ (l : List Value) (o : Nat) (w : World), isB (w.setCells b o l) k = isB w k
  | [], _, _ => rfl
  | v :: l, o, w => by rw [World.setCells, isB_setCells l, isB_setCell]
theorem blk_setCells_other {b k : Nat} (h : k ≠ b) : ∀ (l : List Value) (o : Nat) (w : World), blk (w.setCells b o l) k = blk w k
  | [], _, _ => rfl
  | v :: l, o, w => by rw [World.setCells, blk_setCells_other h l, blk_setCell_other _ (by simpa using h)]
theorem blk_setCells_same {b : Nat} : ∀ (l : List Value) (o : Nat) (w : World), o + l.length ≤ (blk w b).length → blk (w.setCells b o l) b = splice (blk w b) o l
  | [], o, w, _ => by simp [splice, World.setCells]
  | v :: l, o, w, h => by
    simp only [List.length_cons] at h
    rw [World.setCells, blk_setCells_same l (o + 1) _ (by rw [blk_setCell_same]; simp; omega), blk_setCell_same]
    apply List.ext_getElem?
    intro i
    simp only [splice, List.getElem?_append, List.length_append, List.length_take, List.length_cons, List.length_set, List.getElem?_take, List.getElem?_drop, List.getElem?_set]
    have e1 : min (o + 1) (blk w b).length = o + 1 := by omega
    have e2 : min o (blk w b).length = o := by omega
    rw [e1, e2]
    by_cases h1 : i < o
    · simp [h1, show i < o + 1 + l.length by omega, show i < o + 1 by omega, show ¬ o = i by omega, show i < o + (l.length + 1) by omega]
    · by_cases h2 : i = o
      · subst h2
        simp [show i < i + 1 + l.length by omega, show i < (blk w b).length by omega]
      · by_cases h3 : i < o + 1 + l.length
        · have e3 : i - o = (i - (o + 1)) + 1 := by omega
          simp [h1, h3, show ¬ i < o + 1 by omega, show i < o + (l.length + 1) by omega, e3]
        · have e4 : o + 1 + l.length + (i - (o + 1 + l.length)) = i := by omega
          have e5 : o + (l.length + 1) + (i - (o + (l.length + 1))) = i := by omega
          simp [h3, show ¬ i < o + (l.length + 1) by omega, e4, e5, show ¬ o = i by omega]

theorem Fr.setCells {S : List Nat} {a w : World} (h : Fr S a w) {b : Nat} (hp : b < a.heap.size → b ∈ S) : ∀ (l : List Value) (o : Nat), Fr S a (w.setCells b o l) := by
  intro l
  induction l generalizing w with
  | nil => intro o; exact h
  | cons v l ih => intro o; exact ih (h.setCell (p := ⟨b, o, none⟩) hp v) (o + 1)

theorem Fr.blk {S : List Nat} {w w' : World} (h : Fr S w w') : ∀ b, b < w.heap.size → b ∉ S → blk w' b = blk w b := fun b hb hn => blk_of_heap (h.block b hb hn)
theorem Fr.isB {S : List Nat} {w w' : World} (h : Fr S w w') : ∀ b, b < w.heap.size → b ∉ S → isB w' b = isB w b := fun b hb hn => isB_of_heap (h.block b hb hn)
theorem Fr.ltAll {S : List Nat} {w w' : World} (h : Fr S w w') : ∀ b, b < w.heap.size → b < w'.heap.size := fun _ hb => Nat.lt_of_lt_of_le hb h.size

/-- each is a value of one cell -/
def OneL (l : List Value) : Prop := ∀ v ∈ l, v.oneCell' = true
theorem oneL_u8s (l : Bytes) : OneL (u8s l) ↔ True := ⟨fun _ => trivial, fun _ v hv => by
  simp [u8s] at hv
  obtain ⟨a, _, rfl⟩ := hv
  rfl⟩
theorem oneL_append (a b : List Value) : OneL (a ++ b) ↔ OneL a ∧ OneL b :=
  ⟨fun h => ⟨fun v hv => h v (List.mem_append_left _ hv), fun v hv => h v (List.mem_append_right _ hv)⟩, fun ⟨ha, hb⟩ v hv => by
    rcases List.mem_append.1 hv with h | h
    · exact ha v h
    · exact hb v h⟩
theorem oneL_nil : OneL [] ↔ True := ⟨fun _ => trivial, fun _ v hv => by cases hv⟩
theorem oneL_cons (v : Value) (l : List Value) : OneL (v :: l) ↔ v.oneCell' = true ∧ OneL l :=
  ⟨fun h => ⟨h v (List.mem_cons_self ..), fun u hu => h u (List.mem_cons_of_mem _ hu)⟩, fun ⟨hv, hl⟩ u hu => by
    cases hu with
    | head => exact hv
    | tail _ h => exact hl u h⟩
theorem oneL_take {l : List Value} (h : OneL l) (n : Nat) : OneL (l.take n) := fun v hv => h v (List.mem_of_mem_take hv)
theorem oneL_drop {l : List Value} (h : OneL l) (n : Nat) : OneL (l.drop n) := fun v hv => h v (List.mem_of_mem_drop hv)

/-! ### whole arrays and structs, out of and into a block -/
/-- the load of a variable that is an array or a struct -/
def loadBlk (T : TypeId) (p : Value) : Sem Value := Instr.loadAt T p
/-- the same, of a result that lies in memory -/
def loadBlkA (T : TypeId) (a : Addr) : Sem Value := loadVar T a
/-- the store of one -/
def storeBlk (T : TypeId) (p v : Value) : Sem Unit := Instr.storeAt T p v

section
variable {P : Program}
theorem loadBlk_run {T n : Nat} {d : TypeDesc} (hu : P.underlying T = some d) (hd : d.isRow = true) (hi : (P.info? T).map (·.size) = some n)
    (w : World) (b o : Nat) (hB : isB w b = true) (hn : o + n ≤ (blk w b).length) : (loadBlk T (.pointer (some ⟨b, o, none⟩))).run P w = .ok (.agg (sub (blk w b) o n).toArray) w := by
  unfold sub
  refine run_loadAt_mid w b o T _ d (fun j v hv => ?_) hu hd (by rw [hi, List.length_take, List.length_drop]; congr 1; omega)
  have hj : j < n := by
    have := (List.getElem?_eq_some_iff.1 hv).1
    simp at this; omega
  rw [cell_blk hB]
  rw [List.getElem?_take_of_lt hj, List.getElem?_drop] at hv
  exact hv

theorem loadBlkA_run {T n : Nat} {d : TypeDesc} (hu : P.underlying T = some d) (hd : d.isRow = true) (hi : (P.info? T).map (·.size) = some n)
    (w : World) (b o : Nat) (hB : isB w b = true) (hn : o + n ≤ (blk w b).length) : (loadBlkA T ⟨b, o, none⟩).run P w = .ok (.agg (sub (blk w b) o n).toArray) w := by
  unfold sub
  refine run_loadVar_mid w b o T _ d (fun j v hv => ?_) hu hd (by rw [hi, List.length_take, List.length_drop]; congr 1; omega)
  have hj : j < n := by
    have := (List.getElem?_eq_some_iff.1 hv).1
    simp at this; omega
  rw [cell_blk hB]
  rw [List.getElem?_take_of_lt hj, List.getElem?_drop] at hv
  exact hv

theorem storeBlk_run {T n : Nat} (hi : (P.info? T).map (·.size) = some n)
    (w : World) (b o : Nat) (l : List Value) (hB : isB w b = true) (hn : o + n ≤ (blk w b).length) (hs : l.length = n) (h1 : OneL l) :
    (storeBlk T (.pointer (some ⟨b, o, none⟩)) (.agg l.toArray)).run P w = .ok () (w.setCells b o l) := by
  have ht : w.there b o l.toArray.size := fun j hj => by
    simp only [List.size_toArray] at hj
    rw [cell_blk hB, frozen_blk hB]
    refine ⟨?_, rfl⟩
    rw [List.getElem?_eq_getElem (by omega)]; rfl
  exact run_storeAt_mid w b o T l.toArray ht (by rw [hi]; simp [hs]) (all_oneCell_toArray h1)
/-- T is an array or a struct of n cells -/
def AggT (P : Program) (T n : Nat) : Prop := ∃ d, P.underlying T = some d ∧ d.isRow = true ∧ (P.info? T).map (·.size) = some n
theorem AggT.run {T n : Nat} (h : AggT P T n) (w : World) (b o : Nat) (hB : isB w b = true) (hn : o + n ≤ (blk w b).length) : (loadVar T ⟨b, o, none⟩).run P w = .ok (.agg (sub (blk w b) o n).toArray) w :=
  let ⟨_, hu, hd, hi⟩ := h
  loadBlkA_run hu hd hi w b o hB hn
variable {fn : Func} {tmps : Array Value} {w : World}
theorem results_c {p T n b o : Nat} (hT : AggT P T n) (h : fn.results = #[.cell p T]) (hp : tmps.getD p undef = .pointer (some ⟨b, o, none⟩)) (hB : isB w b = true) (hn : o + n ≤ (blk w b).length) :
    (results fn tmps).run P w = .ok (.agg (sub (blk w b) o n).toArray) w := by
  have hp' : tmps[p]?.getD undef = .pointer (some ⟨b, o, none⟩) := by simpa using hp
  simp [results, h, hp', asAddr, hT.run w b o hB hn]
theorem results_ct {p T n b o q : Nat} (hT : AggT P T n) (h : fn.results = #[.cell p T, .tmp q]) (hp : tmps.getD p undef = .pointer (some ⟨b, o, none⟩)) (hB : isB w b = true) (hn : o + n ≤ (blk w b).length) :
    (results fn tmps).run P w = .ok (.tuple #[.agg (sub (blk w b) o n).toArray, tmps.getD q undef]) w := by
  have hp' : tmps[p]?.getD undef = .pointer (some ⟨b, o, none⟩) := by simpa using hp
  simp [results, h, hp', asAddr, hT.run w b o hB hn]
theorem results_cct {p T n b o p2 T2 n2 b2 o2 q : Nat} (hT : AggT P T n) (hT2 : AggT P T2 n2) (h : fn.results = #[.cell p T, .cell p2 T2, .tmp q]) (hp : tmps.getD p undef = .pointer (some ⟨b, o, none⟩)) (hB : isB w b = true) (hn : o + n ≤ (blk w b).length)
    (hp2 : tmps.getD p2 undef = .pointer (some ⟨b2, o2, none⟩)) (hB2 : isB w b2 = true) (hn2 : o2 + n2 ≤ (blk w b2).length) :
    (results fn tmps).run P w = .ok (.tuple #[.agg (sub (blk w b) o n).toArray, .agg (sub (blk w b2) o2 n2).toArray, tmps.getD q undef]) w := by
  have hp' : tmps[p]?.getD undef = .pointer (some ⟨b, o, none⟩) := by simpa using hp
  have hp2' : tmps[p2]?.getD undef = .pointer (some ⟨b2, o2, none⟩) := by simpa using hp2
  simp [results, h, hp', hp2', asAddr, hT.run w b o hB hn, hT2.run w b2 o2 hB2 hn2]
end

end Anc
