/- What an argument that reads as a slice of numbers, or of granules, holds. Conditions: none. -/
import Derived.Test.YthgiikmajmndaaaGreatAlike
import Derived.ProofKit
import Derived.OpenShut
import Derived.Deep.Slices
set_option linter.unusedSimpArgs false
set_option linter.unusedVariables false
namespace Anc
open Go Go.RowKit Go.ChangeShapes Go.WideShapes
theorem isR_of_cell {w : World} {b o : Nat} {v : Value} (h : w.cell? ⟨b, o, none⟩ = some v) : isR w b = true ∧ (rd w b)[o]? = some v := by
  have hR : isR w b = true := by
    unfold World.cell? at h
    unfold isR
    split at h
    · rename_i hb; simp only [] at hb; rw [hb]
    · cases h
  exact ⟨hR, by rw [← cell_rd hR]; exact h⟩
theorem sub_one' {α : Type} {l : List α} {o : Nat} {x : α} (h : l[o]? = some x) : o + 1 ≤ l.length ∧ sub l o 1 = [x] := by
  have hl := (List.getElem?_eq_some_iff.1 h).1
  have hx := (List.getElem?_eq_some_iff.1 h).2
  refine ⟨hl, ?_⟩
  unfold sub
  rw [List.drop_eq_getElem_cons hl, hx]
  rfl
/-- cells one behind the other -/
theorem sub_cells {α : Type} {l c : List α} {o : Nat} (h : ∀ j, j < c.length → l[o + j]? = c[j]?) (hc : 0 < c.length) : o + c.length ≤ l.length ∧ sub l o c.length = c := by
  have h1 : l[o + (c.length - 1)]? = some c[c.length - 1] := by rw [h _ (by omega), List.getElem?_eq_getElem (by omega)]
  have hl := (List.getElem?_eq_some_iff.1 h1).1
  refine ⟨by omega, ?_⟩
  apply List.ext_getElem?
  intro i
  unfold sub
  rw [List.getElem?_take, List.getElem?_drop]
  by_cases hi : i < c.length
  · rw [if_pos hi, h i hi]
  · rw [if_neg hi, List.getElem?_eq_none (by omega)]
theorem mapM_get {α β : Type} {f : α → Option β} : ∀ (l : List α) (cs : List β), l.mapM f = some cs → ∀ (j : Nat) (x : α), l[j]? = some x → f x = cs[j]?
  | [], cs, _, j, x, hx => by simp at hx
  | a :: l, cs, h, j, x, hx => by
    rw [List.mapM_cons] at h
    cases ha : f a with
    | none => rw [ha] at h; cases h
    | some y =>
      cases hl : l.mapM f with
      | none => rw [ha, hl] at h; cases h
      | some ys =>
        rw [ha, hl] at h
        simp at h
        subst h
        cases j with
        | zero => simp at hx; subst hx; simpa using ha
        | succ j => simpa using mapM_get l ys hl j x (by simpa using hx)
section
variable {H : Type} {enc : TypeId × Value → H} {P : Program} {w : World} {base : Nat} {spare : Nat → Bool} {held : Bool}
theorem open_slI {t e : TypeId} {fuel : Nat} {v : Value} {x : DataW H × List MemPlace} (ht : P.underlying t = some (.slice e)) (he : P.underlying e = some (.int .i64)) (hc : P.cellsOf e = 1)
    (h : DataW.trod enc P w base spare held fuel t [v] = some x) : ∃ L, SlI w v L := by
  rcases open_ints ht he hc h with ⟨hcs, _⟩ | ⟨a, len, cap, zs, hcs, _, hl, hm, hz, _, hcell, _⟩
  · simp only [List.cons.injEq, and_true] at hcs
    subst hcs
    exact ⟨[], none, 0, rfl, fun i x hx => by simp at hx⟩
  · simp only [List.cons.injEq, and_true] at hcs
    subst hcs
    have hle : len ≤ zs.length := by rw [hz]; split <;> omega
    refine ⟨zs.take len, some a, cap, by simp [hle], fun i x hx => ?_⟩
    have hi : i < len := by
      have := (List.getElem?_eq_some_iff.1 hx).1
      simp at this; omega
    obtain ⟨b, o, rfl, hc2⟩ := ints_at hcell (by omega)
    obtain ⟨hR, hrd⟩ := isR_of_cell (hc2 i (by omega))
    obtain ⟨s1, s2⟩ := sub_one' hrd
    refine ⟨b, o, rfl, hR, by omega, ?_⟩
    rw [Nat.mul_one, s2]
    rw [List.getElem?_map, List.getElem?_take_of_lt hi, List.getElem?_eq_getElem (by omega)] at hx
    simp only [Option.map_some, Option.some.injEq] at hx
    rw [← hx]
    simp [cell1, List.getD, show i < zs.length by omega]
theorem open_bytes {t e : TypeId} {fuel n : Nat} {cs : List Value} {x : DataW H × List MemPlace} (ht : P.underlying t = some (.array n e)) (he : P.underlying e = some (.int .u8)) (hc : P.cellsOf e = 1) (hn : P.cellsOf t = n)
    (h : DataW.trod enc P w base spare held fuel t cs = some x) : ∃ b : Bytes, cs = u8s b ∧ b.length = n ∧ AllB b := by
  obtain ⟨xs, m, rfl, rfl, hlen, hxs, hel⟩ := DataW.trod_array ht h
  rw [hn] at hlen
  have key : ∀ i, i < n → ∃ z : Int, cs[i]? = some (.int .u8 z) ∧ (Lit.int .u8 z).wf = true := by
    intro i hi
    have h1 := hel i hi
    rw [hc, Nat.mul_one, List.getElem?_eq_getElem (by omega)] at h1
    obtain ⟨z, hz, _, wf⟩ := DataW.trod_int he h1
    refine ⟨z, ?_, wf⟩
    have h3 := congrArg (fun l : List Value => l[0]?) hz
    simpa [List.getElem?_take] using h3
  obtain ⟨f, hf⟩ := Go.Deep.choose_lt (α := Int) (p := fun i z => cs[i]? = some (.int .u8 z) ∧ (Lit.int .u8 z).wf = true) key
  refine ⟨(List.range n).map f, ?_, by simp, ?_⟩
  · apply List.ext_getElem?
    intro i
    rw [u8s_get]
    by_cases hi : i < n
    · rw [(hf i hi).1]; simp [hi]
    · rw [List.getElem?_eq_none (by omega)]; simp [hi]
  · intro y hy
    simp only [List.mem_map, List.mem_range] at hy
    obtain ⟨i, hi, rfl⟩ := hy
    have := (hf i hi).2
    simp only [Lit.wf, IntKind.min, IntKind.max, IntKind.signed, IntKind.bits] at this
    simp at this
    omega
theorem open_slG {t e e' : TypeId} {fuel : Nat} {v : Value} {x : DataW H × List MemPlace} (ht : P.underlying t = some (.slice e)) (he : P.underlying e = some (.array 128 e')) (he' : P.underlying e' = some (.int .u8)) (hc' : P.cellsOf e' = 1) (hc : P.cellsOf e = 128)
    (h : DataW.trod enc P w base spare held fuel t [v] = some x) : ∃ L, SlG w v L ∧ GrL L := by
  rcases Go.Deep.open_slice ht h with ⟨hcs, _⟩ | ⟨a, len, cap, m, n, D, Pl, hcs, _, hl, hm, hmm, _, hel⟩
  · simp only [List.cons.injEq, and_true] at hcs
    subst hcs
    exact ⟨[], ⟨none, 0, rfl, fun i x hx => by simp at hx⟩, fun x hx => by simp at hx⟩
  · simp only [List.cons.injEq, and_true] at hcs
    subst hcs
    have hle : len ≤ m := by rw [hmm]; split <;> omega
    have hsp : 0 < len → a.spot = none := by
      intro h0
      obtain ⟨cs', h1, h2⟩ := hel 0 (by omega)
      obtain ⟨b, rfl, hb, hall⟩ := open_bytes he he' hc' hc h2
      rw [hc] at h1
      unfold World.cells? at h1
      split at h1
      · have h3 := mapM_get _ _ h1 0 0 (by simp)
        rw [List.getElem?_eq_getElem (by rw [u8s_length]; omega)] at h3
        obtain ⟨y, hy⟩ : ∃ y, w.cell? a = some y := ⟨_, by simpa [Addr.add] using h3⟩
        exact World.cell?_spot hy
      · cases h1
    have key : ∀ i, i < len → ∃ b : Bytes, (b.length = 128 ∧ AllB b) ∧ ∃ g o, a = ⟨g, o, none⟩ ∧ isR w g = true ∧ o + i * 128 + 128 ≤ (rd w g).length ∧ sub (rd w g) (o + i * 128) 128 = u8s b := by
      intro i hi
      obtain ⟨cs', h1, h2⟩ := hel i (by omega)
      obtain ⟨b, rfl, hb, hall⟩ := open_bytes he he' hc' hc h2
      refine ⟨b, ⟨hb, hall⟩, ?_⟩
      rw [hc] at h1
      unfold World.cells? at h1
      split at h1
      · have hcell : ∀ j, j < 128 → w.cell? ((a.add (i * 128)).add j) = (u8s b)[j]? := fun j hj => mapM_get _ _ h1 j j (by simp [hj])
        have hb0 := hcell 0 (by omega)
        rw [List.getElem?_eq_getElem (by rw [u8s_length]; omega)] at hb0
        have hadd : ∀ j, (a.add (i * 128)).add j = a.add (i * 128 + j) := fun j => Go.Deep.add_add a _ _
        have hb1 := hb0
        rw [hadd] at hb1
        obtain ⟨g, o, spot⟩ := a
        have hspot : spot = none := hsp (by omega)
        subst hspot
        have hat : ∀ j, w.cell? ⟨g, o + i * 128 + j, none⟩ = w.cell? (((⟨g, o, none⟩ : Addr).add (i * 128)).add j) := fun j => by rw [hadd, Go.WideShapes.add_plain, Nat.add_assoc]
        have hR : isR w g = true := by
          have h3 := hat 0
          rw [hb0] at h3
          exact (isR_of_cell h3).1
        obtain ⟨s1, s2⟩ := sub_cells (l := rd w g) (c := u8s b) (o := o + i * 128) (fun j hj => by
          rw [u8s_length, hb] at hj
          rw [← cell_rd hR, hat, hcell j hj]) (by rw [u8s_length]; omega)
        rw [u8s_length, hb] at s1 s2
        exact ⟨g, o, rfl, hR, s1, s2⟩
      · cases h1
    obtain ⟨f, hf⟩ := Go.Deep.choose_lt (α := Bytes) (p := fun i b => (b.length = 128 ∧ AllB b) ∧ ∃ g o, a = ⟨g, o, none⟩ ∧ isR w g = true ∧ o + i * 128 + 128 ≤ (rd w g).length ∧ sub (rd w g) (o + i * 128) 128 = u8s b) key
    refine ⟨(List.range len).map f, ⟨some a, cap, by simp, fun i x hx => ?_⟩, ?_⟩
    · have hi : i < len := by
        have := (List.getElem?_eq_some_iff.1 hx).1
        simpa using this
      obtain ⟨_, g, o, rfl, hR, h1, h2⟩ := hf i hi
      refine ⟨g, o, rfl, hR, h1, ?_⟩
      rw [h2]
      simp [hi] at hx
      exact hx
    · intro x hx
      simp only [List.mem_map, List.mem_range] at hx
      obtain ⟨i, hi, rfl⟩ := hx
      exact (hf i hi).1
end
end Anc
