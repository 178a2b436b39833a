/- Contracts of the program's rows (package granule). Conditions: the rows lie as 'RowP' says. -/
import Derived.Test.YthgiikmajmndaaaGreatGran
import Derived.Test.YthgiikmajmndaaaGreatMach
namespace Anc
open Go Go.RowKit Go.Instr
theorem oc_int (k : IntKind) (i : Int) : (Value.int k i).oneCell' = true ↔ True := ⟨fun _ => trivial, fun _ => rfl⟩
theorem oc_bool (b : Bool) : (Value.bool b).oneCell' = true ↔ True := ⟨fun _ => trivial, fun _ => rfl⟩
theorem oc_ptr (p : Option Addr) : (Value.pointer p).oneCell' = true ↔ True := ⟨fun _ => trivial, fun _ => rfl⟩
theorem oc_slice (p : Option Addr) (n c : Nat) : (Value.slice p n c).oneCell' = true ↔ True := ⟨fun _ => trivial, fun _ => rfl⟩
theorem oc_map (r : Option Nat) : (Value.map r).oneCell' = true ↔ True := ⟨fun _ => trivial, fun _ => rfl⟩
attribute [go_sem] oc_int oc_bool oc_ptr oc_slice oc_map
structure RowG where
  st : Int
  ow : Int
  hd : Int
def RowG.wf (r : RowG) : Prop := (0 ≤ r.st ∧ r.st < 6) ∧ (0 ≤ r.ow ∧ r.ow < 18446744073709551616) ∧ (0 ≤ r.hd ∧ r.hd ≤ 2147483647)
def RowG.cells (r : RowG) : List Value := [.int .i64 r.st, .int .u64 r.ow, .int .i64 r.hd]
def rowCells (l : List RowG) : List Value := l.flatMap RowG.cells
theorem oneL_rcells (r : RowG) : OneL r.cells ↔ True := ⟨fun _ => trivial, fun _ => by simp [RowG.cells, oneL_cons, oneL_nil, oc_int]⟩
attribute [go_sem] oneL_rcells
theorem rowCells_length (l : List RowG) : (rowCells l).length = 3 * l.length := by
  induction l with
  | nil => rfl
  | cons a l ih => simp only [rowCells, List.flatMap_cons, List.length_append] at ih ⊢; rw [ih]; simp only [RowG.cells, List.length_cons, List.length_nil]; omega
theorem rowCells_drop (l : List RowG) (g : Nat) : (rowCells l).drop (g * 3) = rowCells (l.drop g) := by
  induction g generalizing l with
  | zero => rfl
  | succ n ih =>
    cases l with
    | nil => simp [rowCells]
    | cons a l =>
      have : (n + 1) * 3 = n * 3 + 3 := by omega
      rw [this]
      simp only [rowCells, List.flatMap_cons, RowG.cells] at ih ⊢
      simpa using ih l
theorem rowCells_take (l : List RowG) (g : Nat) : (rowCells l).take (g * 3) = rowCells (l.take g) := by
  induction g generalizing l with
  | zero => simp [rowCells]
  | succ n ih =>
    cases l with
    | nil => simp [rowCells]
    | cons a l =>
      have : (n + 1) * 3 = n * 3 + 3 := by omega
      rw [this]
      simp only [rowCells, List.flatMap_cons, List.take_succ_cons] at ih ⊢
      simpa [RowG.cells] using ih l
theorem rowCells_split {l : List RowG} {g : Nat} {r : RowG} (h : l[g]? = some r) : rowCells l = rowCells (l.take g) ++ r.cells ++ rowCells (l.drop (g + 1)) := by
  have hg : g < l.length := (List.getElem?_eq_some_iff.mp h).1
  have he : l[g] = r := (List.getElem?_eq_some_iff.mp h).2
  have : l = l.take g ++ r :: l.drop (g + 1) := by rw [← he, List.getElem_cons_drop, List.take_append_drop]
  conv => lhs; rw [this]
  simp [rowCells]
theorem rowCells_sub {l : List RowG} {g : Nat} {r : RowG} (h : l[g]? = some r) : sub (rowCells l) (g * 3) 3 = r.cells := by
  have hg : g < l.length := (List.getElem?_eq_some_iff.mp h).1
  unfold sub
  rw [rowCells_drop, rowCells_split (l := l.drop g) (g := 0) (r := r) (by simpa using h)]
  simp [rowCells, RowG.cells]
theorem rowCells_get {l : List RowG} {g : Nat} {r : RowG} (h : l[g]? = some r) (j : Nat) (hj : j < 3) : (rowCells l)[g * 3 + j]? = r.cells[j]? := by
  rw [← rowCells_sub h]
  unfold sub
  rw [List.getElem?_take_of_lt hj, List.getElem?_drop]
theorem rowCells_set {l : List RowG} {g : Nat} {r r' : RowG} (h : l[g]? = some r) (j : Nat) (v : Value) (hj : j < 3) (hv : r'.cells = r.cells.set j v) : (rowCells l).set (g * 3 + j) v = rowCells (l.set g r') := by
  have hg : g < l.length := (List.getElem?_eq_some_iff.mp h).1
  rw [rowCells_split h, rowCells_split (l := l.set g r') (g := g) (r := r') (by simp [hg])]
  rw [List.take_set_of_le (Nat.le_refl g), List.drop_set_of_lt (Nat.lt_succ_self g), hv]
  have e : (rowCells (l.take g)).length = g * 3 := by rw [rowCells_length, List.length_take]; omega
  rw [List.append_assoc, List.append_assoc, List.set_append_right _ _ (by omega), e, Nat.add_sub_cancel_left, List.set_append_left _ _ (by simpa [RowG.cells] using hj)]
/-- the program's rows -/
structure RowP (w : World) (t d : Nat) (l : List RowG) : Prop where
  bt : isB w t = true
  bd : isB w d = true
  ct : blk w t = [.slice (some ⟨d, 0, none⟩) l.length l.length]
  cd : blk w d = rowCells l
  pos : 0 < l.length
  le : l.length ≤ 4096
  wf : ∀ r ∈ l, r.wf
  ne : t ≠ d
theorem RowP.fr {w w' : World} {t d : Nat} {l : List RowG} {S : List Nat} (h : RowP w t d l) (f : Fr S w w') (hm : t ∉ S) (hd : d ∉ S) : RowP w' t d l :=
  ⟨(f.isB t (isB_lt h.bt) hm).trans h.bt, (f.isB d (isB_lt h.bd) hd).trans h.bd, (f.blk t (isB_lt h.bt) hm).trans h.ct, (f.blk d (isB_lt h.bd) hd).trans h.cd, h.pos, h.le, h.wf, h.ne⟩
end Anc
namespace Go.Proofs
open Go Go.RowKit Anc
theorem Tryz.rowsP (m : Nat) (a : Option Addr) (n c : Nat) (w : World) (hB : isB w m = true) (h : blk w m = [.slice a n c]) : Calls Tryz.prog 58 #[.pointer (some ⟨m, 0, none⟩)] w fun e w' => e = .returned (.int .i64 n) ∧ w = w' := by
  go_enter Tryz.func58, Tryz.ntmps58
  go_wp2
  go_ret
  exact ⟨rfl, rfl⟩
theorem Tryz.rowsP_nil (w : World) : Calls Tryz.prog 58 #[.pointer none] w fun e w' => e = .returned (.int .i64 0) ∧ w = w' := by
  go_enter Tryz.func58, Tryz.ntmps58
  go_wp2
  go_ret
  exact ⟨rfl, rfl⟩
theorem Tryz.rowP_ok (t d n g : Nat) (w : World) (hB : isB w t = true) (h : blk w t = [.slice (some ⟨d, 0, none⟩) n n]) (hn : 0 < n) (hg : g < n) : Calls Tryz.prog 74 #[.pointer (some ⟨t, 0, none⟩), .int .i64 g] w fun e w' => e = .returned (.tuple #[.pointer (some ⟨d, g * 3, none⟩), .int .i64 0]) ∧ w = w' := by
  have g0 : (0 : Int) ≤ g := by omega
  have g1 : (g : Int) < n := by omega
  go_enter Tryz.func74, Tryz.ntmps74
  go_wp2_with (go_at_call 58; refine (Tryz.rowsP _ _ _ _ _ hB h).mono ?_; rintro e w' ⟨rfl, rfl⟩)
  go_ret2
  refine ⟨?_, rfl⟩
  rfl
theorem Tryz.rowP_no (t d n : Nat) (g : Int) (w : World) (hB : isB w t = true) (h : blk w t = [.slice (some ⟨d, 0, none⟩) n n]) (hn : 0 < n) (hg : ¬ (0 ≤ g ∧ g < n)) : Calls Tryz.prog 74 #[.pointer (some ⟨t, 0, none⟩), .int .i64 g] w fun e w' => e = .returned (.tuple #[.pointer none, .int .i64 2]) ∧ w = w' := by
  go_enter Tryz.func74, Tryz.ntmps74
  go_wp2_with (go_at_call 58; refine (Tryz.rowsP _ _ _ _ _ hB h).mono ?_; rintro e w' ⟨rfl, rfl⟩)
  all_goals
    go_ret2
    exact ⟨rfl, rfl⟩
theorem Tryz.rowP_nil (g : Int) (w : World) : Calls Tryz.prog 74 #[.pointer none, .int .i64 g] w fun e w' => e = .returned (.tuple #[.pointer none, .int .i64 1]) ∧ w = w' := by
  go_enter Tryz.func74, Tryz.ntmps74
  go_wp2_with (go_at_call 58; refine (Tryz.rowsP_nil _).mono ?_; rintro e w' ⟨rfl, rfl⟩)
  go_ret2
  exact ⟨rfl, rfl⟩
end Go.Proofs
