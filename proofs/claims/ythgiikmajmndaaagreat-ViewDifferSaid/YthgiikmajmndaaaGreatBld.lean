/- What 'build' makes of parts that are arrays or structs whose cells are a list. Conditions: none. -/
import Derived.Test.YthgiikmajmndaaaGreatFrm
import Derived.Laws.Tables
namespace Anc
open Go Go.RowKit
theorem foldl_set (off : Nat) : ∀ (l : List Value) (s : Nat) (cs : List Value), off + s + l.length ≤ cs.length →
    ((l.zipIdx s).foldl (fun (cs : Array Value) (x : Value × Nat) => cs.setIfInBounds (off + x.2) x.1) cs.toArray) = (splice cs (off + s) l).toArray
  | [], s, cs, _ => by simp [splice]
  | v :: l, s, cs, h => by
    simp only [List.length_cons] at h
    rw [List.zipIdx_cons, List.foldl_cons]
    have e : (cs.toArray.setIfInBounds (off + s) v) = (cs.set (off + s) v).toArray := by simp
    show List.foldl _ (cs.toArray.setIfInBounds (off + s) v) _ = _
    rw [e, foldl_set off l (s + 1) _ (by simp; omega)]
    congr 1
    apply List.ext_getElem?
    intro i
    have e1 : min (off + (s + 1)) (cs.set (off + s) v).length = off + (s + 1) := by simp; omega
    have e2 : min (off + s) cs.length = off + s := by omega
    simp only [splice, List.getElem?_append, List.length_append, List.length_take, List.length_cons, List.getElem?_take, List.getElem?_drop, e1, e2, List.getElem?_set]
    by_cases h1 : i < off + s
    · simp [h1, show i < off + (s + 1) + l.length by omega, show i < off + (s + 1) by omega, show ¬ off + s = i by omega, show i < off + s + (l.length + 1) by omega]
    · by_cases h2 : i = off + s
      · subst h2
        simp [show off + s < off + (s + 1) + l.length by omega, show off + s < off + (s + 1) by omega, show off + s < cs.length by omega]
      · by_cases h3 : i < off + s + (l.length + 1)
        · have : i - (off + s) = (i - (off + (s + 1))) + 1 := by omega
          simp [h1, h3, show i < off + (s + 1) + l.length by omega, show ¬ i < off + (s + 1) by omega, this]
        · have e3 : off + (s + 1) + l.length + (i - (off + (s + 1) + l.length)) = i := by omega
          have e4 : off + s + (l.length + 1) + (i - (off + s + (l.length + 1))) = i := by omega
          simp [h3, show ¬ i < off + (s + 1) + l.length by omega, e3, e4, show ¬ off + s = i by omega]
theorem fill_cons (place : Nat → Option (Nat × Nat)) (cs l : List Value) (i off size : Nat) (v : Value) (rest : List (Nat × Value)) (hp : place i = some (off, size)) (hv : v.cells = l.toArray) (hl : l.length = size) (h : off + size ≤ cs.length) :
    Instr.fill place cs.toArray ((i, v) :: rest) = Instr.fill place (splice cs off l).toArray rest := by
  have e := foldl_set off l 0 cs (by omega)
  simp only [Nat.add_zero] at e
  have hc : (decide (l.toArray.size ≠ size) || decide (off + l.toArray.size > cs.toArray.size)) = false := by
    simp [hl]; omega
  have e2 : Instr.fill place cs.toArray ((i, v) :: rest) = Instr.fill place (Array.foldl (fun (cs : Array Value) (x : Value × Nat) => cs.setIfInBounds (off + x.2) x.1) cs.toArray l.toArray.zipIdx) rest := by
    conv => lhs; unfold Instr.fill
    simp only [hp, hv]
    rw [if_neg (by rw [hc]; exact Bool.false_ne_true)]
  rw [e2, ← e]
  congr 1
  rw [← Array.foldl_toList]
  simp
/-- the parts of a struct, laid one behind the other -/
def layL (place : Nat → Option (Nat × Nat)) (cs : List Value) : List (Nat × List Value) → Option (List Value)
  | [] => some cs
  | (i, l) :: rest => match place i with
    | none => none
    | some (off, size) => if l.length = size ∧ off + size ≤ cs.length then layL place (splice cs off l) rest else none
def cellsOfParts (ps : List (Nat × Value)) : List (Nat × List Value) := ps.map fun p => (p.1, p.2.cells.toList)
theorem fill_lay (place : Nat → Option (Nat × Nat)) : ∀ (ps : List (Nat × Value)) (cs out : List Value), layL place cs (cellsOfParts ps) = some out → Instr.fill place cs.toArray ps = some out.toArray
  | [], cs, out, h => by simp only [cellsOfParts, List.map_nil, layL, Option.some.injEq] at h; subst h; rfl
  | (i, v) :: ps, cs, out, h => by
    unfold cellsOfParts at h
    rw [List.map_cons] at h
    unfold layL at h
    simp only [] at h
    cases hpl : place i with
    | none => rw [hpl] at h; cases h
    | some x =>
      obtain ⟨off, size⟩ := x
      rw [hpl] at h
      simp only [] at h
      by_cases hc : v.cells.toList.length = size ∧ off + size ≤ cs.length
      · rw [if_pos hc] at h
        rw [fill_cons place cs v.cells.toList _ off size v ps hpl (by simp) hc.1 hc.2]
        exact fill_lay place ps _ out h
      · rw [if_neg hc] at h; cases h
theorem build_lay {P : Program} {t : TypeId} {fields : Array Field} {it : TypeInfo} {z : Value} (hu : P.underlying t = some (.struct fields)) (hi : P.info? t = some it) (hz : it.zero = some z)
    (places : List (Nat × Nat)) (hpl : fields.toList.mapM (fun f => (P.info? f.type).map fun i => (f.offset, i.size)) = some places)
    (parts : Array (Nat × Value)) (out : List Value) (h : layL (places.toArray[·]?) z.cells.toList (cellsOfParts parts.toList) = some out) (w : World) : (Instr.build t parts).run P w = .ok (.agg out.toArray) w := by
  apply run_build
  unfold Program.built
  simp only [hi, hu, hz, hpl]
  have := fill_lay (places.toArray[·]?) parts.toList z.cells.toList out h
  simpa using this
/-- 'build' behind a name, for the walk's laws -/
def buildS (T : TypeId) (ps : Array (Nat × Value)) : Sem Value := Instr.build T ps
/-- the same as closed facts on the type: where its fields lie, and its zero cells -/
def StructT (P : Program) (t : TypeId) (places : List (Nat × Nat)) (zs : List Value) : Prop :=
  ∃ fields, P.underlying t = some (.struct fields) ∧ (P.info? t).map (fun i => i.zero.map fun z => z.cells.toList) = some (some zs) ∧ fields.toList.mapM (fun f => (P.info? f.type).map fun i => (f.offset, i.size)) = some places
theorem StructT.build {P : Program} {t : TypeId} {places : List (Nat × Nat)} {zs : List Value} (h : StructT P t places zs) (parts : Array (Nat × Value)) (out : List Value)
    (ho : layL (places.toArray[·]?) zs (cellsOfParts parts.toList) = some out) (w : World) : (Instr.build t parts).run P w = .ok (.agg out.toArray) w := by
  obtain ⟨fields, hu, hi, hpl⟩ := h
  cases hit : P.info? t with
  | none => simp [hit] at hi
  | some it =>
    cases hz : it.zero with
    | none => simp [hit, hz] at hi
    | some z =>
      simp [hit, hz] at hi
      subst hi
      exact build_lay hu hit hz places hpl parts out (by simpa using ho) w
theorem range_blk {w : World} {b : Nat} {l : List Value} (h : isB w b = true) (hl : blk w b = l) : w.rangeAt b 0 l := by
  intro j v hv
  rw [Nat.zero_add, cell_blk h, hl]
  exact hv
theorem len_cons {n : Nat} {D : List Int} (h : D.length = n + 1) : ∃ d D0, D = d :: D0 ∧ D0.length = n := by
  cases D with
  | nil => simp at h
  | cons d D => exact ⟨d, D, rfl, by simpa using h⟩
theorem len32 {D : List Int} (h : D.length = 32) : ∃ d0 d1 d2 d3 d4 d5 d6 d7 d8 d9 d10 d11 d12 d13 d14 d15 d16 d17 d18 d19 d20 d21 d22 d23 d24 d25 d26 d27 d28 d29 d30 d31, D = [d0, d1, d2, d3, d4, d5, d6, d7, d8, d9, d10, d11, d12, d13, d14, d15, d16, d17, d18, d19, d20, d21, d22, d23, d24, d25, d26, d27, d28, d29, d30, d31] := by
  obtain ⟨d0, D1, rfl, h1⟩ := len_cons h
  obtain ⟨d1, D2, rfl, h2⟩ := len_cons h1
  obtain ⟨d2, D3, rfl, h3⟩ := len_cons h2
  obtain ⟨d3, D4, rfl, h4⟩ := len_cons h3
  obtain ⟨d4, D5, rfl, h5⟩ := len_cons h4
  obtain ⟨d5, D6, rfl, h6⟩ := len_cons h5
  obtain ⟨d6, D7, rfl, h7⟩ := len_cons h6
  obtain ⟨d7, D8, rfl, h8⟩ := len_cons h7
  obtain ⟨d8, D9, rfl, h9⟩ := len_cons h8
  obtain ⟨d9, D10, rfl, h10⟩ := len_cons h9
  obtain ⟨d10, D11, rfl, h11⟩ := len_cons h10
  obtain ⟨d11, D12, rfl, h12⟩ := len_cons h11
  obtain ⟨d12, D13, rfl, h13⟩ := len_cons h12
  obtain ⟨d13, D14, rfl, h14⟩ := len_cons h13
  obtain ⟨d14, D15, rfl, h15⟩ := len_cons h14
  obtain ⟨d15, D16, rfl, h16⟩ := len_cons h15
  obtain ⟨d16, D17, rfl, h17⟩ := len_cons h16
  obtain ⟨d17, D18, rfl, h18⟩ := len_cons h17
  obtain ⟨d18, D19, rfl, h19⟩ := len_cons h18
  obtain ⟨d19, D20, rfl, h20⟩ := len_cons h19
  obtain ⟨d20, D21, rfl, h21⟩ := len_cons h20
  obtain ⟨d21, D22, rfl, h22⟩ := len_cons h21
  obtain ⟨d22, D23, rfl, h23⟩ := len_cons h22
  obtain ⟨d23, D24, rfl, h24⟩ := len_cons h23
  obtain ⟨d24, D25, rfl, h25⟩ := len_cons h24
  obtain ⟨d25, D26, rfl, h26⟩ := len_cons h25
  obtain ⟨d26, D27, rfl, h27⟩ := len_cons h26
  obtain ⟨d27, D28, rfl, h28⟩ := len_cons h27
  obtain ⟨d28, D29, rfl, h29⟩ := len_cons h28
  obtain ⟨d29, D30, rfl, h30⟩ := len_cons h29
  obtain ⟨d30, D31, rfl, h31⟩ := len_cons h30
  obtain ⟨d31, D32, rfl, h32⟩ := len_cons h31
  obtain rfl : D32 = [] := List.length_eq_zero_iff.1 h32
  exact ⟨_, _, _, _, _, _, _, _, _, _, _, _, _, _, _, _, _, _, _, _, _, _, _, _, _, _, _, _, _, _, _, _, rfl⟩
/-- an oracle of which nothing was asked -/
def FreshO (w : World) (o : Nat) (ideal : Bool) : Prop := isB w o = true ∧ ∃ D r, blk w o = [Value.bool ideal] ++ u8s D ++ [Value.slice none 0 0, Value.int .i64 0, Value.map (some r), Value.slice none 0 0] ∧ D.length = 32 ∧ isM w r = true ∧ ents w r = []
theorem FreshO.fr {w w' : World} {o : Nat} {i : Bool} {S : List Nat} (h : FreshO w o i) (f : Fr S w w') (hS : ∀ x, x < w.heap.size → x ∉ S) : FreshO w' o i := by
  obtain ⟨hB, D, r, hb, hD, hr, he⟩ := h
  have hrl := isM_lt hr
  exact ⟨(f.isB o (isB_lt hB) (hS _ (isB_lt hB))).trans hB, D, r, (f.blk o (isB_lt hB) (hS _ (isB_lt hB))).trans hb, hD, (f.isM r hrl (hS _ hrl)).trans hr, (ents_of_heap (f.block r hrl (hS _ hrl))).trans he⟩
end Anc
