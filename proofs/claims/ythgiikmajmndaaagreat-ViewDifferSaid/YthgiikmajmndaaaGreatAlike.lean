/- Contracts of view.at, view.alike and slices.Equal at the three lists of a view. Conditions: the slices lie as 'SlK' says. -/
import Derived.Test.YthgiikmajmndaaaGreatRd
import Derived.Deep.QuietTactic
import Derived.BigQuiet
import Derived.Lib.Hide
namespace Anc
open Go Go.RowKit
theorem getD_len {l : List Int} {i : Nat} (h : l.length ≤ i) : l.getD i 0 = 0 := by simp [List.getD, List.getElem?_eq_none h]
/-- the same at a place -/
def alk {α : Type} [DecidableEq α] (l m : List α) (i : Nat) : Bool := decide (l[i]? = m[i]?)
theorem alk_ints (l m : List Int) (i : Nat) : ((l.getD i 0 == m.getD i 0) && (decide (i < l.length) == decide (i < m.length))) = alk l m i := by
  unfold alk
  by_cases h1 : i < l.length <;> by_cases h2 : i < m.length
  · simp [h1, h2]; rfl
  · simp [h1, h2]
  · simp [h1, h2]
  · simp [h1, h2]
/-- v is a slice of numbers -/
def SlI (w : World) (v : Value) (l : List Int) : Prop := SlK w v 1 (l.map (cell1 .i64))
/-- v is a slice of granules -/
def SlG (w : World) (v : Value) (l : List Bytes) : Prop := SlK w v 128 (l.map u8s)
theorem SlI.fr0 {w w' : World} {v : Value} {L : List Int} (h : SlI w v L) (f : Fr [] w w') : SlI w' v L := SlK.fr0 h f
theorem SlG.fr0 {w w' : World} {v : Value} {L : List Bytes} (h : SlG w v L) (f : Fr [] w w') : SlG w' v L := SlK.fr0 h f
/-- granules -/
def GrL (l : List Bytes) : Prop := ∀ x ∈ l, x.length = 128 ∧ AllB x
theorem SlI.len {w : World} {v : Value} {L : List Int} (h : SlI w v L) : ∃ a c, v = .slice a L.length c := by
  obtain ⟨a, c, rfl⟩ := SlK.len h
  exact ⟨a, c, by simp⟩
theorem SlG.len {w : World} {v : Value} {L : List Bytes} (h : SlG w v L) : ∃ a c, v = .slice a L.length c := by
  obtain ⟨a, c, rfl⟩ := SlK.len h
  exact ⟨a, c, by simp⟩
theorem SlG.has {w : World} {v : Value} {l : List Bytes} (h : SlG w v l) (h0 : 0 < l.length) :
    ∃ b o c, v = .slice (some ⟨b, o, none⟩) l.length c ∧ isR w b = true ∧ ∀ i, i < l.length → o + i * 128 + 128 ≤ (Anc.rd w b).length ∧ sub (Anc.rd w b) (o + i * 128) 128 = u8s (l.getD i []) := by
  obtain ⟨b, o, c, rfl, hR, h⟩ := SlK.has h (by simpa using h0)
  refine ⟨b, o, c, by simp, hR, fun i hi => ?_⟩
  exact h i _ (by simp [hi])
/-- nought -/
def g0 : Bytes := List.replicate 128 0
theorem g0_length : g0.length = 128 := by simp [g0]
theorem g0_all : AllB g0 := by intro x hx; simp [g0] at hx; omega
theorem GrL.get {l : List Bytes} (h : GrL l) (i : Nat) : (l.getD i g0).length = 128 ∧ AllB (l.getD i g0) := by
  by_cases hi : i < l.length
  · rw [List.getD_eq_getElem?_getD, List.getElem?_eq_getElem hi]; exact h _ (List.getElem_mem hi)
  · rw [List.getD_eq_getElem?_getD, List.getElem?_eq_none (by omega)]; exact ⟨g0_length, g0_all⟩
theorem alk_grs (l m : List Bytes) (i : Nat) : (decide (l.getD i g0 = m.getD i g0) && (decide (i < l.length) == decide (i < m.length))) = alk l m i := by
  unfold alk
  by_cases h1 : i < l.length <;> by_cases h2 : i < m.length
  · simp [h1, h2]
  · simp [h1, h2]
  · simp [h1, h2]
  · simp [h1, h2]
theorem frDrewN {S : List Nat} {a w : World} (h : Fr S a w) (n : Nat) : Fr S a (w.drewN n) := ⟨h.os, h.tape, h.output, h.size, h.block⟩
attribute [go_sem] g0_length
end Anc
namespace Go.Proofs
open Go Go.RowKit Anc
theorem Tryz.at64 (v : Value) (l : List Int) (i : Nat) (w : World) (h : SlI w v l) (hl : l.length ≤ 1000000) :
    Calls Tryz.prog 64 #[v, .int .i64 i] w fun e w' => e = .returned (.tuple #[.int .i64 (l.getD i 0), .bool (decide (i < l.length))]) ∧ w = w' := by
  by_cases hi : i < l.length
  · obtain ⟨b, o, c, rfl, hR, hc⟩ := SlK.ints h (by omega)
    have h1 := hc i hi
    have h2 : (i : Int) < l.length := by omega
    have h3 : (0 : Int) ≤ i := by omega
    clear hc
    have h5 : decide (i < l.length) = true := by simpa using hi
    rw [h5]
    clear h5
    generalize l.getD i 0 = x at h1 ⊢
    go_enter Tryz.func64, Tryz.ntmps64
    go_wp2
    go_ret2
    exact ⟨rfl, rfl⟩
  · obtain ⟨a, c, rfl⟩ := h.len
    have h2 : ¬ (i : Int) < l.length := by omega
    have h4 : l.getD i 0 = 0 := getD_len (by omega)
    rw [h4]
    clear h4
    go_enter Tryz.func64, Tryz.ntmps64
    go_wp2
    go_ret2
    exact ⟨by simp, rfl⟩
theorem Tryz.alike22 (v u : Value) (l m : List Int) (i : Nat) (w : World) (h : SlI w v l) (hl : l.length ≤ 1000000) (k : SlI w u m) (hm : m.length ≤ 1000000) :
    Calls Tryz.prog 22 #[v, u, .int .i64 i] w fun e w' => e = .returned (.bool (alk l m i)) ∧ w = w' := by
  rw [← alk_ints]
  have c1 := Tryz.at64 v l i w h hl
  have c2 := Tryz.at64 u m i w k hm
  generalize l.getD i 0 = x at c1 ⊢
  generalize m.getD i 0 = y at c2 ⊢
  generalize decide (i < l.length) = p at c1 ⊢
  generalize decide (i < m.length) = q at c2 ⊢
  have c1' := Lib.hid c1
  have c2' := Lib.hid c2
  clear c1 c2
  go_enter Tryz.func22, Tryz.ntmps22
  go_wp2_with fail
  refine c1'.out.mono ?_
  rintro e w' ⟨rfl, rfl⟩
  go_wp2_with fail
  refine c2'.out.mono ?_
  rintro e w' ⟨rfl, rfl⟩
  go_wp2
  all_goals
    go_ret
    exact ⟨by simp [*], rfl⟩
theorem Tryz.equal25 (v u : Value) (l m : List Int) (w : World) (h : SlI w v l) (hl : l.length ≤ 1000000) (k : SlI w u m) (hm : m.length ≤ 1000000) :
    Calls Tryz.prog 25 #[v, u] w fun e w' => e = .returned (.bool (decide (l = m))) ∧ Fr [] w w' := by
  by_cases hlen : l.length = m.length
  · by_cases h0 : 0 < l.length
    · obtain ⟨b, o, c, rfl, hR, hc⟩ := SlK.ints h h0
      obtain ⟨b', o', c', rfl, hR', hc'⟩ := SlK.ints k (by omega)
      have hb := isR_lt hR
      have hb' := isR_lt hR'
      have hne : ((l.length : Int) != m.length) = false := by simp [hlen]
      have hlen' := Lib.hid hlen
      generalize hn : m.length = n at *
      have hn' := Lib.hid hn
      clear hlen hn
      go_enter Tryz.func25, Tryz.ntmps25
      go_wp2
      go_loopw [13] (fun i wr => ∃ j : Nat, j ≤ l.length ∧ i = .int .i64 j ∧ (∀ t, t < j → l.getD t 0 = m.getD t 0) ∧ Fr [] w wr) (fun i _ => l.length - (intOf i).toNat)
      case atStart => exact ⟨0, by omega, rfl, fun t ht => by omega, Fr.refl _ _⟩
      case round =>
        obtain ⟨j, hj, rfl, hsame, f⟩ := hrel
        have hR1 := (f.isR hb (by simp)).trans hR
        have hR2 := (f.isR hb' (by simp)).trans hR'
        have hsame' := Lib.hid hsame
        clear hsame
        by_cases hlt : j < l.length
        · have c1 := hc j hlt
          have c2 := hc' j (by have := hlen'.out; omega)
          rw [← f.rd hb (by simp)] at c1
          rw [← f.rd hb' (by simp)] at c2
          obtain ⟨x, hx⟩ : ∃ x, x = l.getD j 0 := ⟨_, rfl⟩
          obtain ⟨y, hy⟩ : ∃ y, y = m.getD j 0 := ⟨_, rfl⟩
          rw [← hx] at c1
          rw [← hy] at c2
          have hx' := Lib.hid hx
          have hy' := Lib.hid hy
          clear hx hy
          have hc1 := Lib.hid hc
          have hc2 := Lib.hid hc'
          clear hc hc'
          have i0 : (0 : Int) ≤ j := by omega
          have i1 : (j : Int) < l.length := by omega
          have i2 : (j : Int) < n := by have := hlen'.out; omega
          go_wp2
          go_quiet (fail)
          go_wp2
          · go_ret
            refine ⟨?_, ?_⟩
            · have hx : (x != y) = true := by assumption
              have hx1 := hx'.out
              have hy1 := hy'.out
              have : l ≠ m := by rintro rfl; rw [hx1, hy1] at hx; simp at hx
              simp [this]
            · exact frDrewN f _
          · go_roundw
            case rel =>
              refine ⟨j + 1, by omega, by go_num, ?_, frDrewN f _⟩
              intro t ht
              have hx : (x != y) = false := by assumption
              by_cases e : t = j
              · subst e; rw [← hx'.out, ← hy'.out]; simpa using hx
              · exact hsame'.out t (by omega)
            case measure => simp [intOf]; omega
        · clear hc hc'
          go_wp2
          go_ret
          refine ⟨?_, f⟩
          have : l = m := by
            apply List.ext_getElem?
            intro t
            have h1 := hlen'.out
            have h2 := hn'.out
            by_cases ht : t < l.length
            · have := hsame'.out t (by omega)
              simp [List.getD, ht, show t < m.length by omega] at this
              simp [ht, show t < m.length by omega, this]
            · rw [List.getElem?_eq_none (by omega), List.getElem?_eq_none (by omega)]
          simp [this]
    · have e1 : l = [] := List.length_eq_zero_iff.1 (by omega)
      have e2 : m = [] := List.length_eq_zero_iff.1 (by omega)
      subst e1 e2
      obtain ⟨a, c, rfl⟩ := h.len
      obtain ⟨a', c', rfl⟩ := k.len
      clear hlen h0
      go_enter Tryz.func25, Tryz.ntmps25
      go_wp2
      go_loopw [13] (fun i wr => i = .int .i64 0 ∧ wr = w) (fun i _ => 0)
      case atStart => exact ⟨rfl, rfl⟩
      case round =>
        obtain ⟨rfl, rfl⟩ := hrel
        go_wp2
        go_ret
        exact ⟨rfl, Fr.refl _ _⟩
  · obtain ⟨a, c, rfl⟩ := h.len
    obtain ⟨a', c', rfl⟩ := k.len
    have hne : ((l.length : Int) != m.length) = true := by simp; omega
    have : l ≠ m := by rintro rfl; exact hlen rfl
    have e : decide (l = m) = false := by simp [this]
    rw [e]
    clear e this hlen
    go_enter Tryz.func25, Tryz.ntmps25
    go_wp2
    go_ret
    exact ⟨rfl, Fr.refl _ _⟩
theorem Tryz.at65 (v : Value) (l : List Int) (i : Nat) (w : World) (h : SlI w v l) (hl : l.length ≤ 1000000) :
    Calls Tryz.prog 65 #[v, .int .i64 i] w fun e w' => e = .returned (.tuple #[.int .i64 (l.getD i 0), .bool (decide (i < l.length))]) ∧ w = w' := by
  by_cases hi : i < l.length
  · obtain ⟨b, o, c, rfl, hR, hc⟩ := SlK.ints h (by omega)
    have h1 := hc i hi
    have h2 : (i : Int) < l.length := by omega
    have h3 : (0 : Int) ≤ i := by omega
    clear hc
    have h5 : decide (i < l.length) = true := by simpa using hi
    rw [h5]
    clear h5
    generalize l.getD i 0 = x at h1 ⊢
    go_enter Tryz.func65, Tryz.ntmps65
    go_wp2
    go_ret2
    exact ⟨rfl, rfl⟩
  · obtain ⟨a, c, rfl⟩ := h.len
    have h2 : ¬ (i : Int) < l.length := by omega
    have h4 : l.getD i 0 = 0 := getD_len (by omega)
    rw [h4]
    clear h4
    go_enter Tryz.func65, Tryz.ntmps65
    go_wp2
    go_ret2
    exact ⟨by simp, rfl⟩
theorem Tryz.alike23 (v u : Value) (l m : List Int) (i : Nat) (w : World) (h : SlI w v l) (hl : l.length ≤ 1000000) (k : SlI w u m) (hm : m.length ≤ 1000000) :
    Calls Tryz.prog 23 #[v, u, .int .i64 i] w fun e w' => e = .returned (.bool (alk l m i)) ∧ w = w' := by
  rw [← alk_ints]
  have c1 := Tryz.at65 v l i w h hl
  have c2 := Tryz.at65 u m i w k hm
  generalize l.getD i 0 = x at c1 ⊢
  generalize m.getD i 0 = y at c2 ⊢
  generalize decide (i < l.length) = p at c1 ⊢
  generalize decide (i < m.length) = q at c2 ⊢
  have c1' := Lib.hid c1
  have c2' := Lib.hid c2
  clear c1 c2
  go_enter Tryz.func23, Tryz.ntmps23
  go_wp2_with fail
  refine c1'.out.mono ?_
  rintro e w' ⟨rfl, rfl⟩
  go_wp2_with fail
  refine c2'.out.mono ?_
  rintro e w' ⟨rfl, rfl⟩
  go_wp2
  all_goals
    go_ret
    exact ⟨by simp [*], rfl⟩
theorem Tryz.equal26 (v u : Value) (l m : List Int) (w : World) (h : SlI w v l) (hl : l.length ≤ 1000000) (k : SlI w u m) (hm : m.length ≤ 1000000) :
    Calls Tryz.prog 26 #[v, u] w fun e w' => e = .returned (.bool (decide (l = m))) ∧ Fr [] w w' := by
  by_cases hlen : l.length = m.length
  · by_cases h0 : 0 < l.length
    · obtain ⟨b, o, c, rfl, hR, hc⟩ := SlK.ints h h0
      obtain ⟨b', o', c', rfl, hR', hc'⟩ := SlK.ints k (by omega)
      have hb := isR_lt hR
      have hb' := isR_lt hR'
      have hne : ((l.length : Int) != m.length) = false := by simp [hlen]
      have hlen' := Lib.hid hlen
      generalize hn : m.length = n at *
      have hn' := Lib.hid hn
      clear hlen hn
      go_enter Tryz.func26, Tryz.ntmps26
      go_wp2
      go_loopw [13] (fun i wr => ∃ j : Nat, j ≤ l.length ∧ i = .int .i64 j ∧ (∀ t, t < j → l.getD t 0 = m.getD t 0) ∧ Fr [] w wr) (fun i _ => l.length - (intOf i).toNat)
      case atStart => exact ⟨0, by omega, rfl, fun t ht => by omega, Fr.refl _ _⟩
      case round =>
        obtain ⟨j, hj, rfl, hsame, f⟩ := hrel
        have hR1 := (f.isR hb (by simp)).trans hR
        have hR2 := (f.isR hb' (by simp)).trans hR'
        have hsame' := Lib.hid hsame
        clear hsame
        by_cases hlt : j < l.length
        · have c1 := hc j hlt
          have c2 := hc' j (by have := hlen'.out; omega)
          rw [← f.rd hb (by simp)] at c1
          rw [← f.rd hb' (by simp)] at c2
          obtain ⟨x, hx⟩ : ∃ x, x = l.getD j 0 := ⟨_, rfl⟩
          obtain ⟨y, hy⟩ : ∃ y, y = m.getD j 0 := ⟨_, rfl⟩
          rw [← hx] at c1
          rw [← hy] at c2
          have hx' := Lib.hid hx
          have hy' := Lib.hid hy
          clear hx hy
          have hc1 := Lib.hid hc
          have hc2 := Lib.hid hc'
          clear hc hc'
          have i0 : (0 : Int) ≤ j := by omega
          have i1 : (j : Int) < l.length := by omega
          have i2 : (j : Int) < n := by have := hlen'.out; omega
          go_wp2
          go_quiet (fail)
          go_wp2
          · go_ret
            refine ⟨?_, ?_⟩
            · have hx : (x != y) = true := by assumption
              have hx1 := hx'.out
              have hy1 := hy'.out
              have : l ≠ m := by rintro rfl; rw [hx1, hy1] at hx; simp at hx
              simp [this]
            · exact frDrewN f _
          · go_roundw
            case rel =>
              refine ⟨j + 1, by omega, by go_num, ?_, frDrewN f _⟩
              intro t ht
              have hx : (x != y) = false := by assumption
              by_cases e : t = j
              · subst e; rw [← hx'.out, ← hy'.out]; simpa using hx
              · exact hsame'.out t (by omega)
            case measure => simp [intOf]; omega
        · clear hc hc'
          go_wp2
          go_ret
          refine ⟨?_, f⟩
          have : l = m := by
            apply List.ext_getElem?
            intro t
            have h1 := hlen'.out
            have h2 := hn'.out
            by_cases ht : t < l.length
            · have := hsame'.out t (by omega)
              simp [List.getD, ht, show t < m.length by omega] at this
              simp [ht, show t < m.length by omega, this]
            · rw [List.getElem?_eq_none (by omega), List.getElem?_eq_none (by omega)]
          simp [this]
    · have e1 : l = [] := List.length_eq_zero_iff.1 (by omega)
      have e2 : m = [] := List.length_eq_zero_iff.1 (by omega)
      subst e1 e2
      obtain ⟨a, c, rfl⟩ := h.len
      obtain ⟨a', c', rfl⟩ := k.len
      clear hlen h0
      go_enter Tryz.func26, Tryz.ntmps26
      go_wp2
      go_loopw [13] (fun i wr => i = .int .i64 0 ∧ wr = w) (fun i _ => 0)
      case atStart => exact ⟨rfl, rfl⟩
      case round =>
        obtain ⟨rfl, rfl⟩ := hrel
        go_wp2
        go_ret
        exact ⟨rfl, Fr.refl _ _⟩
  · obtain ⟨a, c, rfl⟩ := h.len
    obtain ⟨a', c', rfl⟩ := k.len
    have hne : ((l.length : Int) != m.length) = true := by simp; omega
    have : l ≠ m := by rintro rfl; exact hlen rfl
    have e : decide (l = m) = false := by simp [this]
    rw [e]
    clear e this hlen
    go_enter Tryz.func26, Tryz.ntmps26
    go_wp2
    go_ret
    exact ⟨rfl, Fr.refl _ _⟩
end Go.Proofs
