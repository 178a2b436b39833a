/- Contracts of view.at, view.alike and slices.Equal at granules. Conditions: the slices lie as 'SlG' says. -/
import Derived.Test.YthgiikmajmndaaaGreatAlike
import Derived.Test.YthgiikmajmndaaaGreatMach
import Derived.Test.YthgiikmajmndaaaGreatEq
namespace Go.Proofs
open Go Go.RowKit Anc
theorem Tryz.ldR30 (w : World) (b o : Nat) (hB : isR w b = true) (hn : o + 128 ≤ (rd w b).length) : (loadBlk 30 (.pointer (some ⟨b, o, none⟩))).run Tryz.prog w = .ok (.agg (sub (rd w b) o 128).toArray) w := loadR_run Tryz.agg30 w b o hB hn
attribute [go_sem] Tryz.ldR30
set_option maxRecDepth 100000 in
theorem Tryz.at66 (v : Value) (l : List Bytes) (i : Nat) (w : World) (h : SlG w v l) (hl : l.length ≤ 1000000) :
    Calls Tryz.prog 66 #[v, .int .i64 i] w fun e w' => e = .returned (.tuple #[.agg (u8s (l.getD i g0)).toArray, .bool (decide (i < l.length))]) ∧ Fr [] w w' := by
  by_cases hi : i < l.length
  · obtain ⟨b, o, c, rfl, hR, hc⟩ := h.has (by omega)
    obtain ⟨h1, h1'⟩ := hc i hi
    have h2 : (i : Int) < l.length := by omega
    have h3 : (0 : Int) ≤ i := by omega
    have hb := isR_lt hR
    have h5 : decide (i < l.length) = true := by simpa using hi
    have e : l.getD i g0 = l.getD i [] := by simp [List.getD, hi]
    have hlen : (u8s (l.getD i [])).length = 128 := by rw [← h1', sub_length h1]
    rw [h5, e]
    clear h5 e hc
    generalize l.getD i [] = x at h1' hlen ⊢
    simp only [u8s_length] at hlen
    go_enter Tryz.func66, Tryz.ntmps66
    go_wp2
    refine bodyPost_ret (results_ct Tryz.agg30 rfl rfl (by go_simp) (by go_simp)) rfl ⟨?_, ?_⟩
    · go_simp
    · exact ((Fr.refl _ _).alloc _).setCells (by simp) _ _
  · obtain ⟨a, c, rfl⟩ := h.len
    have h2 : ¬ (i : Int) < l.length := by omega
    have h4 : l.getD i g0 = g0 := by simp [List.getD, List.getElem?_eq_none (show l.length ≤ i by omega)]
    have h5 : decide (i < l.length) = false := by simpa using hi
    have hz : Tryz.zeroCells30.toList.length = 128 := by rw [Array.length_toList]; exact Tryz.zeroCells30_size
    have hz2 : Tryz.zeroCells30.toList = u8s g0 := by
      have := Tryz.z30
      simp only [Value.agg.injEq] at this
      rw [this]; rfl
    rw [h4, h5]
    clear h4 h5
    go_enter Tryz.func66, Tryz.ntmps66
    go_wp2
    refine bodyPost_ret (results_ct Tryz.agg30 rfl rfl (by go_simp) (by go_simp)) rfl ⟨?_, ?_⟩
    · go_simp
    · exact ((Fr.refl _ _).alloc _).setCells (by simp) _ _
set_option maxRecDepth 100000 in
theorem Tryz.alike24 (v u : Value) (l m : List Bytes) (i : Nat) (w : World) (h : SlG w v l) (hl : l.length ≤ 1000000) (k : SlG w u m) (hm : m.length ≤ 1000000) (gl : GrL l) (gm : GrL m) :
    Calls Tryz.prog 24 #[v, u, .int .i64 i] w fun e w' => e = .returned (.bool (alk l m i)) ∧ Fr [] w w' := by
  rw [← alk_grs]
  have c1 := Tryz.at66 v l i w h hl
  have c2 := fun (w1 : World) (f : Fr [] w w1) => Tryz.at66 u m i w1 (k.fr0 f) hm
  obtain ⟨x1, x2⟩ := gl.get i
  obtain ⟨y1, y2⟩ := gm.get i
  generalize l.getD i g0 = x at c1 x1 x2 ⊢
  generalize m.getD i g0 = y at c2 y1 y2 ⊢
  generalize decide (i < l.length) = p at c1 ⊢
  generalize decide (i < m.length) = q at c2 ⊢
  have c1' := Lib.hid c1
  have c2' := Lib.hid c2
  clear c1 c2
  go_enter Tryz.func24, Tryz.ntmps24
  go_wp2_with fail
  refine c1'.out.mono ?_
  rintro e w1 ⟨rfl, f⟩
  go_wp2_with fail
  have f2 := (f.alloc (.cells Tryz.zeroCells30 30)).setCells (b := w1.heap.size) (by have := f.size; omega) (u8s x) 0
  refine (c2'.out _ f2).mono ?_
  rintro e w2 ⟨rfl, f3⟩
  obtain ⟨_, _, _, _⟩ := keep4 f3 (b := w1.heap.size) (by go_simp) (by simp) (by go_simp; rfl)
  go_wp2
  all_goals
    go_ret
    exact ⟨by simp [*], ((f2.trans' f3).alloc _).setCells (by have := (f2.trans' f3).size; omega) _ _⟩
set_option maxRecDepth 100000 in
theorem Tryz.equal27 (v u : Value) (l m : List Bytes) (w : World) (h : SlG w v l) (hl : l.length ≤ 1000000) (k : SlG w u m) (hm : m.length ≤ 1000000) (gl : GrL l) (gm : GrL m) :
    Calls Tryz.prog 27 #[v, u] w fun e w' => e = .returned (.bool (decide (l = m))) ∧ Fr [] w w' := by
  by_cases hlen : l.length = m.length
  · by_cases h0 : 0 < l.length
    · obtain ⟨b, o, c, rfl, hR, hc⟩ := h.has h0
      obtain ⟨b', o', c', rfl, hR', hc'⟩ := k.has (by omega)
      have hb := isR_lt hR
      have hb' := isR_lt hR'
      have hne : ((l.length : Int) != m.length) = false := by simp [hlen]
      have hlen' := Lib.hid hlen
      generalize hn : m.length = n at *
      have hn' := Lib.hid hn
      clear hlen hn
      go_enter Tryz.func27, Tryz.ntmps27
      go_wp2
      go_loopw [13] (fun i wr => ∃ j : Nat, j ≤ l.length ∧ i = .int .i64 j ∧ (∀ t, t < j → l.getD t [] = m.getD t []) ∧ Fr [] w wr) (fun i _ => l.length - (intOf i).toNat)
      case atStart => exact ⟨0, by omega, rfl, fun t ht => by omega, Fr.refl _ _⟩
      case round =>
        obtain ⟨j, hj, rfl, hsame, f⟩ := hrel
        have hR1 := (f.isR hb (by simp)).trans hR
        have hR2 := (f.isR hb' (by simp)).trans hR'
        have hsame' := Lib.hid hsame
        clear hsame
        by_cases hlt : j < l.length
        · obtain ⟨c1, c3⟩ := hc j hlt
          obtain ⟨c2, c4⟩ := hc' j (by have := hlen'.out; omega)
          have l1 : (u8s (l.getD j [])).length = 128 := by rw [← c3, sub_length c1]
          have l2 : (u8s (m.getD j [])).length = 128 := by rw [← c4, sub_length c2]
          have a1 : AllB (l.getD j []) := by
            have := gl (l.getD j []) (by simp [List.getD, hlt])
            exact this.2
          have a2 : AllB (m.getD j []) := by
            have h1 := hlen'.out
            have h2 := hn'.out
            have := gm (m.getD j []) (by simp [List.getD, show j < m.length by omega])
            exact this.2
          rw [← f.rd hb (by simp)] at c1 c3
          rw [← f.rd hb' (by simp)] at c2 c4
          obtain ⟨x, hx⟩ : ∃ x, x = l.getD j [] := ⟨_, rfl⟩
          obtain ⟨y, hy⟩ : ∃ y, y = m.getD j [] := ⟨_, rfl⟩
          rw [← hx] at c3 l1 a1
          rw [← hy] at c4 l2 a2
          simp only [u8s_length] at l1 l2
          have hx' := Lib.hid hx
          have hy' := Lib.hid hy
          clear hx hy
          have hc1 := Lib.hid hc
          have hc2 := Lib.hid hc'
          clear hc hc'
          have i0 : (0 : Int) ≤ j := by omega
          have i1 : (j : Int) < l.length := by omega
          have i2 : (j : Int) < n := by have := hlen'.out; omega
          go_wp2
          go_quiet (fail)
          go_wp2
          · go_ret
            refine ⟨?_, ?_⟩
            · have hx : (!decide (x = y)) = true := by assumption
              have hx1 := hx'.out
              have hy1 := hy'.out
              have : l ≠ m := by rintro rfl; rw [hx1, hy1] at hx; simp at hx
              simp [this]
            · exact frDrewN f _
          · go_roundw
            case rel =>
              refine ⟨j + 1, by omega, by go_num, ?_, frDrewN f _⟩
              intro t ht
              have hx : (!decide (x = y)) = false := by assumption
              by_cases e : t = j
              · subst e; rw [← hx'.out, ← hy'.out]; simpa using hx
              · exact hsame'.out t (by omega)
            case measure => simp [intOf]; omega
        · clear hc hc'
          go_wp2
          go_ret
          refine ⟨?_, f⟩
          have : l = m := by
            apply List.ext_getElem?
            intro t
            have h1 := hlen'.out
            have h2 := hn'.out
            by_cases ht : t < l.length
            · have := hsame'.out t (by omega)
              simp [List.getD, ht, show t < m.length by omega] at this
              simp [ht, show t < m.length by omega, this]
            · rw [List.getElem?_eq_none (by omega), List.getElem?_eq_none (by omega)]
          simp [this]
    · have e1 : l = [] := List.length_eq_zero_iff.1 (by omega)
      have e2 : m = [] := List.length_eq_zero_iff.1 (by omega)
      subst e1 e2
      obtain ⟨a, c, rfl⟩ := h.len
      obtain ⟨a', c', rfl⟩ := k.len
      clear hlen h0
      go_enter Tryz.func27, Tryz.ntmps27
      go_wp2
      go_loopw [13] (fun i wr => i = .int .i64 0 ∧ wr = w) (fun i _ => 0)
      case atStart => exact ⟨rfl, rfl⟩
      case round =>
        obtain ⟨rfl, rfl⟩ := hrel
        go_wp2
        go_ret
        exact ⟨rfl, Fr.refl _ _⟩
  · obtain ⟨a, c, rfl⟩ := h.len
    obtain ⟨a', c', rfl⟩ := k.len
    have hne : ((l.length : Int) != m.length) = true := by simp; omega
    have : l ≠ m := by rintro rfl; exact hlen rfl
    have e : decide (l = m) = false := by simp [this]
    rw [e]
    clear e this hlen
    go_enter Tryz.func27, Tryz.ntmps27
    go_wp2
    go_ret
    exact ⟨rfl, Fr.refl _ _⟩
end Go.Proofs
