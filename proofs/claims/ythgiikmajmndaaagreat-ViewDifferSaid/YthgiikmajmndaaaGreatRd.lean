/- Blocks that are only read (the arguments' own memory), and slices over them as lists of elements. Conditions: none. -/
import Derived.Test.YthgiikmajmndaaaGreatFrm
import Derived.Deep.QuietTactic
import Derived.BigQuiet
namespace Anc
open Go Go.RowKit
/-- the cells of a block, may they be written or not -/
def rd (w : World) (b : Nat) : List Value := match w.heap[b]? with | some (.cells c _ _) => c.toList | _ => []
def isR (w : World) (b : Nat) : Bool := match w.heap[b]? with | some (.cells _ _ _) => true | _ => false
theorem isR_spec {w : World} {b : Nat} (h : isR w b = true) : ∃ c T f, w.heap[b]? = some (.cells c T f) ∧ rd w b = c.toList := by
  unfold isR at h
  split at h
  · rename_i c T f hb
    exact ⟨c, T, f, hb, by simp [rd, hb]⟩
  · cases h
theorem isR_lt {w : World} {b : Nat} (h : isR w b = true) : b < w.heap.size := by
  obtain ⟨c, T, f, hb, _⟩ := isR_spec h
  exact lt_of_block hb
theorem cell_rd {w : World} {b : Nat} (h : isR w b = true) (o : Nat) : w.cell? ⟨b, o, none⟩ = (rd w b)[o]? := by
  obtain ⟨c, T, f, hb, hl⟩ := isR_spec h
  rw [cell_of_row w b o c T _ hb, hl]; simp
theorem rd_of_heap {w w' : World} {b : Nat} (h : w'.heap[b]? = w.heap[b]?) : rd w' b = rd w b := by simp [rd, h]
theorem isR_of_heap {w w' : World} {b : Nat} (h : w'.heap[b]? = w.heap[b]?) : isR w' b = isR w b := by simp [isR, h]
theorem rd_alloc {w : World} {b : Nat} (o : Obj) (h : b < w.heap.size) : rd (w.alloc o) b = rd w b := rd_of_heap (Below.heap_alloc _ _ _ h)
theorem isR_alloc {w : World} {b : Nat} (o : Obj) (h : b < w.heap.size) : isR (w.alloc o) b = isR w b := isR_of_heap (Below.heap_alloc _ _ _ h)
theorem rd_drew (w : World) (b : Nat) : rd w.drew b = rd w b := rd_of_heap rfl
theorem isR_drew (w : World) (b : Nat) : isR w.drew b = isR w b := isR_of_heap rfl
theorem rd_drewN (w : World) (b n : Nat) : rd (w.drewN n) b = rd w b := rd_of_heap rfl
theorem isR_drewN (w : World) (b n : Nat) : isR (w.drewN n) b = isR w b := isR_of_heap rfl
theorem blk_drewN (w : World) (b n : Nat) : blk (w.drewN n) b = blk w b := blk_of_heap rfl
theorem isB_drewN (w : World) (b n : Nat) : isB (w.drewN n) b = isB w b := isB_of_heap rfl
theorem rd_setCell_lt {w : World} {b k : Nat} (h : k < b) (o : Nat) (v : Value) : rd (w.setCell ⟨b, o, none⟩ v) k = rd w k := rd_of_heap (Below.heap_setCell _ _ _ _ (by simp; omega))
theorem isR_setCell_lt {w : World} {b k : Nat} (h : k < b) (o : Nat) (v : Value) : isR (w.setCell ⟨b, o, none⟩ v) k = isR w k := isR_of_heap (Below.heap_setCell _ _ _ _ (by simp; omega))
theorem rd_setCells_lt {b k : Nat} (h : k < b) : ∀ (o : Nat) (l : List Value) (w : World), rd (w.setCells b o l) k = rd w k
  | _, [], _ => rfl
  | o, v :: l, w => by rw [World.setCells, rd_setCells_lt h (o + 1) l, rd_setCell_lt h]
theorem isR_setCells_lt {b k : Nat} (h : k < b) : ∀ (o : Nat) (l : List Value) (w : World), isR (w.setCells b o l) k = isR w k
  | _, [], _ => rfl
  | o, v :: l, w => by rw [World.setCells, isR_setCells_lt h (o + 1) l, isR_setCell_lt h]
theorem Fr.rd {S : List Nat} {w w' : World} (h : Fr S w w') {b : Nat} (hb : b < w.heap.size) (hn : b ∉ S) : Anc.rd w' b = Anc.rd w b := rd_of_heap (h.block b hb hn)
theorem Fr.isR {S : List Nat} {w w' : World} (h : Fr S w w') {b : Nat} (hb : b < w.heap.size) (hn : b ∉ S) : Anc.isR w' b = Anc.isR w b := isR_of_heap (h.block b hb hn)
theorem loadR_run {P : Program} {T n : Nat} (h : AggT P T n)
    (w : World) (b o : Nat) (hB : isR w b = true) (hn : o + n ≤ (rd w b).length) : (loadBlk T (.pointer (some ⟨b, o, none⟩))).run P w = .ok (.agg (sub (rd w b) o n).toArray) w := by
  obtain ⟨d, hu, hd, hi⟩ := h
  unfold sub
  refine run_loadAt_mid w b o T _ d (fun j v hv => ?_) hu hd (by rw [hi, List.length_take, List.length_drop]; congr 1; omega)
  have hj : j < n := by
    have := (List.getElem?_eq_some_iff.1 hv).1
    simp at this; omega
  rw [cell_rd hB]
  rw [List.getElem?_take_of_lt hj, List.getElem?_drop] at hv
  exact hv
attribute [go_sem] cell_rd rd_drewN isR_drewN blk_drewN isB_drewN rd_alloc isR_alloc rd_drew isR_drew rd_setCell_lt isR_setCell_lt rd_setCells_lt isR_setCells_lt
/-- v is a slice of elements of k cells each: their cells are L -/
def SlK (w : World) (v : Value) (k : Nat) (L : List (List Value)) : Prop :=
  ∃ a c, v = .slice a L.length c ∧ ∀ i x, L[i]? = some x → ∃ b o, a = some ⟨b, o, none⟩ ∧ isR w b = true ∧ o + i * k + k ≤ (rd w b).length ∧ sub (rd w b) (o + i * k) k = x
theorem SlK.fr {w w' : World} {S : List Nat} {v : Value} {k : Nat} {L : List (List Value)} (h : SlK w v k L) (f : Fr S w w') (hS : ∀ x, x < w.heap.size → x ∉ S) : SlK w' v k L := by
  obtain ⟨a, c, rfl, h⟩ := h
  refine ⟨a, c, rfl, fun i x hx => ?_⟩
  obtain ⟨b, o, rfl, hR, h1, h2⟩ := h i x hx
  have hb := isR_lt hR
  rw [← f.rd hb (hS b hb)] at h1 h2
  exact ⟨b, o, rfl, (f.isR hb (hS b hb)).trans hR, h1, h2⟩
theorem SlK.fr0 {w w' : World} {v : Value} {k : Nat} {L : List (List Value)} (h : SlK w v k L) (f : Fr [] w w') : SlK w' v k L := h.fr f (by simp)
/-- .. with an element -/
theorem SlK.has {w : World} {v : Value} {k : Nat} {L : List (List Value)} (h : SlK w v k L) (h0 : 0 < L.length) :
    ∃ b o c, v = .slice (some ⟨b, o, none⟩) L.length c ∧ isR w b = true ∧ ∀ i x, L[i]? = some x → o + i * k + k ≤ (rd w b).length ∧ sub (rd w b) (o + i * k) k = x := by
  obtain ⟨a, c, rfl, h⟩ := h
  obtain ⟨b, o, rfl, hR, _⟩ := h 0 L[0] (List.getElem?_eq_getElem h0)
  refine ⟨b, o, c, rfl, hR, fun i x hx => ?_⟩
  obtain ⟨b', o', e, _, h1, h2⟩ := h i x hx
  simp only [Option.some.injEq, Addr.mk.injEq] at e
  obtain ⟨rfl, rfl, _⟩ := e
  exact ⟨h1, h2⟩
theorem sub_one {α : Type} {l : List α} {o : Nat} {x : α} (h : sub l o 1 = [x]) : l[o]? = some x := by
  unfold sub at h
  have : (List.take 1 (l.drop o))[0]? = some x := by rw [h]; rfl
  simpa using this
/-- a number as the cells of an element -/
def cell1 (k : IntKind) (x : Int) : List Value := [.int k x]
theorem SlK.ints {w : World} {v : Value} {k : IntKind} {l : List Int} (h : SlK w v 1 (l.map (cell1 k))) (h0 : 0 < l.length) :
    ∃ b o c, v = .slice (some ⟨b, o, none⟩) l.length c ∧ isR w b = true ∧ ∀ i, i < l.length → (Anc.rd w b)[o + i]? = some (.int k (l.getD i 0)) := by
  obtain ⟨b, o, c, rfl, hR, h⟩ := h.has (by simpa using h0)
  refine ⟨b, o, c, by simp, hR, fun i hi => ?_⟩
  obtain ⟨_, h2⟩ := h i (cell1 k (l.getD i 0)) (by simp [hi])
  have := sub_one h2
  simpa using this
theorem SlK.len {w : World} {v : Value} {k : Nat} {L : List (List Value)} (h : SlK w v k L) : ∃ a c, v = .slice a L.length c := by
  obtain ⟨a, c, rfl, _⟩ := h
  exact ⟨a, c, rfl⟩
end Anc
