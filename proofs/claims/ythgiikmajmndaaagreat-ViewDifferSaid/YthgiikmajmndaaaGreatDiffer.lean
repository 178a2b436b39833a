/- Contracts of view.Differ and view.SameView. Conditions: the two views lie as 'ViewV' says. -/
import Derived.Test.YthgiikmajmndaaaGreatAlikeG
import Derived.Test.YthgiikmajmndaaaGreatWire
namespace Anc
open Go Go.RowKit
theorem grown_keep {w w' : World} {row : Option Nat} (hg : w.grownBy w' row) {b : Nat} (hb : isB w b = true) (hn : row ≠ some b) {l : List Value} (hl : blk w b = l) : isB w' b = true ∧ blk w' b = l :=
  have h := hg.block b (isB_lt hb) (fun e => hn e.symm)
  ⟨(isB_of_heap h).trans hb, (blk_of_heap h).trans hl⟩
theorem owns_fr {w w' : World} {B e k : Nat} {v : Value} {n : Nat} {l : List Value} (h : w.ownsRow B e k v n l) (f : Fr [] w w') : w'.ownsRow B e k v n l := by
  obtain ⟨h0, h⟩ := h
  refine ⟨h0, ?_⟩
  rcases h with h | ⟨g, cap, cur, rfl, hb, hg, hc⟩
  · exact .inl h
  · exact .inr ⟨g, cap, cur, rfl, hb, f.keep hg (by simp), hc⟩
theorem own_ne {w : World} {B e k : Nat} {v : Value} {n : Nat} {l : List Value} (h : w.ownsRow B e k v n l) {b : Nat} (hb : b < B) : v.ownBlock ≠ some b := fun e => absurd (World.ownsRow.lt h b e).1 (by omega)
/-- a view -/
structure VW where
  S : List Int
  H : List Int
  B : List Bytes
/-- the three slices of a view lie so -/
structure ViewV (w : World) (s h b : Value) (V : VW) : Prop where
  s : SlI w s V.S
  h : SlI w h V.H
  b : SlG w b V.B
  ls : V.S.length ≤ 1000000
  lh : V.H.length ≤ 1000000
  lb : V.B.length ≤ 1000000
  g : GrL V.B
theorem ViewV.fr0 {w w' : World} {s h b : Value} {V : VW} (k : ViewV w s h b V) (f : Fr [] w w') : ViewV w' s h b V :=
  ⟨k.s.fr0 f, k.h.fr0 f, k.b.fr0 f, k.ls, k.lh, k.lb, k.g⟩
/-- do they differ at a place? -/
def VW.dif (a b : VW) (i : Nat) : Bool := !alk a.S b.S i || (!alk a.H b.H i || !alk a.B b.B i)
/-- where they differ, below n -/
def VW.difs (a b : VW) (n : Nat) : List Int := ((List.range n).filter (VW.dif a b)).map fun (i : Nat) => (i : Int)
theorem VW.difs_succ (a b : VW) (n : Nat) : VW.difs a b (n + 1) = if VW.dif a b n = true then VW.difs a b n ++ [(n : Int)] else VW.difs a b n := by
  unfold VW.difs
  rw [List.range_succ, List.filter_append]
  by_cases h : VW.dif a b n = true <;> simp [h]
theorem VW.difs_len (a b : VW) (n : Nat) : (VW.difs a b n).length ≤ n := by
  unfold VW.difs
  have := List.length_filter_le (VW.dif a b) (List.range n)
  simpa using this
def maxLens (a b : VW) : Nat := max (max (max (max (max a.S.length b.S.length) a.H.length) b.H.length) a.B.length) b.B.length
def i64s (l : List Int) : List Value := l.map (Value.int .i64)
theorem i64s_length (l : List Int) : (i64s l).length = l.length := by simp [i64s]
theorem i64s_snoc (l : List Int) (x : Int) : i64s (l ++ [x]) = i64s l ++ [.int .i64 x] := by simp [i64s]
theorem slI_of_owns {w : World} {B e : Nat} {v : Value} {l : List Int} (h : w.ownsRow B e 1 v l.length (i64s l)) : SlI w v l := by
  obtain ⟨_, ⟨rfl, hn⟩ | ⟨g, cap, cur, rfl, hb, hg, hc, _, hs, ht⟩⟩ := h
  · have : l = [] := List.length_eq_zero_iff.1 hn
    subst this
    exact ⟨none, 0, rfl, fun i x hx => by simp at hx⟩
  · refine ⟨some ⟨g, 0, none⟩, cap, by simp, fun i x hx => ⟨g, 0, rfl, by simp [isR, hg], ?_, ?_⟩⟩
    · have hi : i < l.length := by simpa using (List.getElem?_eq_some_iff.1 hx).1
      have : Anc.rd w g = cur.toList := by simp [Anc.rd, hg]
      rw [this]; simp; omega
    · have hi : i < l.length := by simpa using (List.getElem?_eq_some_iff.1 hx).1
      have e1 : Anc.rd w g = cur.toList := by simp [Anc.rd, hg]
      rw [e1]
      rw [Nat.mul_one] at ht
      have : x = cell1 .i64 (l[i]) := by
        rw [List.getElem?_map, List.getElem?_eq_getElem hi] at hx
        simpa using hx.symm
      rw [this]
      unfold sub cell1
      apply List.ext_getElem?
      intro j
      rw [List.getElem?_take]
      by_cases hj : j < 1
      · have : j = 0 := by omega
        subst this
        have h2 := congrArg (fun z => z[i]?) ht
        simp only [List.getElem?_take_of_lt hi] at h2
        simp [i64s, hi] at h2 ⊢
        exact h2
      · simp [hj]
theorem max2_nat (k : IntKind) (a b : Nat) : Builtin.max2 (.int k a) (.int k b) = pure (.int k ((max a b : Nat) : Int)) := by
  have h : (if (b : Int) > a then (b : Int) else a) = ((max a b : Nat) : Int) := by split <;> omega
  show pure (Value.int k (if (b : Int) > a then (b : Int) else a)) = _
  rw [h]
theorem max6 {P : Program} (w : World) (ts : Array TypeId) (t : TypeId) (k : IntKind) (a b c d e f : Nat) :
    (Builtin.max_ ts t #[.int k a, .int k b, .int k c, .int k d, .int k e, .int k f]).run P w = .ok (.int k ((max (max (max (max (max a b) c) d) e) f : Nat) : Int)) w := by
  simp only [Builtin.max_, List.foldlM_cons, List.foldlM_nil, max2_nat, pure_bind]
  rfl
/-- are two views the same? -/
def VW.same (a b : VW) : Bool := decide (a.S = b.S) && (decide (a.H = b.H) && decide (a.B = b.B))
end Anc
namespace Go.Proofs
open Go Go.RowKit Anc
theorem Tryz.info3 : (Tryz.prog.info? 3).map (fun i => (i.zero, i.size, i.bytes)) = some (some (.int .i64 0), 1, 8) := by kernel_rfl
set_option maxRecDepth 100000 in
theorem Tryz.differ7 (s h b s' h' b' : Value) (V V' : VW) (w : World) (k : ViewV w s h b V) (k' : ViewV w s' h' b' V') :
    Calls Tryz.prog 7 #[.agg #[s, h, b], .agg #[s', h', b']] w fun e w' => ∃ v, e = .returned v ∧ SlI w' v (VW.difs V V' (maxLens V V')) ∧ Fr [] w w' := by
  obtain ⟨i0, hi, hz0, hz1, hz2⟩ := info_parts Tryz.info3
  have hk := k
  have hk' := k'
  obtain ⟨ks, kh, kb, ls, lh, lb, kg⟩ := k
  obtain ⟨ks', kh', kb', ls', lh', lb', kg'⟩ := k'
  obtain ⟨as1, cs, rfl⟩ := ks.len
  obtain ⟨ah, ch, rfl⟩ := kh.len
  obtain ⟨ab, cb, rfl⟩ := kb.len
  obtain ⟨as', cs', rfl⟩ := ks'.len
  obtain ⟨ah', ch', rfl⟩ := kh'.len
  obtain ⟨ab', cb', rfl⟩ := kb'.len
  have hmx := fun (W : World) => max6 (P := Tryz.prog) W #[3, 3, 3, 3, 3, 3] 3 .i64 V.S.length V'.S.length V.H.length V'.H.length V.B.length V'.B.length
  have hn : maxLens V V' ≤ 1000000 := by unfold maxLens; omega
  rw [show max (max (max (max (max V.S.length V'.S.length) V.H.length) V'.H.length) V.B.length) V'.B.length = maxLens V V' from rfl] at hmx
  generalize maxLens V V' = n at *
  go_enter Tryz.func7, Tryz.ntmps7
  go_wp2
  clear hmx
  go_loopw [5, 26] (fun v i wr => ∃ k : Nat, k ≤ n ∧ i = .int .i64 k ∧ wr.ownsRow (w.heap.size + 2) 3 1 v (VW.difs V V' k).length (i64s (VW.difs V V' k)) ∧ Fr [] w wr ∧
      isB wr w.heap.size = true ∧ blk wr w.heap.size = [.slice as1 V.S.length cs, .slice ah V.H.length ch, .slice ab V.B.length cb] ∧ isB wr (w.heap.size + 1) = true ∧ blk wr (w.heap.size + 1) = [.slice as' V'.S.length cs', .slice ah' V'.H.length ch', .slice ab' V'.B.length cb'] ∧ w.heap.size + 2 ≤ wr.heap.size) (fun _ i _ => n - (intOf i).toNat)
  case atStart => exact ⟨0, by omega, rfl, World.ownsRow_nil _ _ _ _, ((Fr.refl _ _).alloc _).alloc _, by go_simp, by go_simp, by go_simp, by go_simp, by go_simp⟩
  case round =>
    obtain ⟨k, hk, rfl, hown, f, b1, b2, b3, b4, hsz⟩ := hrel
    by_cases hlt : k < n
    · have f1 := fun (W : World) (g : Fr [] w W) => Tryz.alike22 _ _ V.S V'.S k W (ks.fr0 g) ls (ks'.fr0 g) ls'
      have f2 := fun (W : World) (g : Fr [] w W) => Tryz.alike23 _ _ V.H V'.H k W (kh.fr0 g) lh (kh'.fr0 g) lh'
      have f3 := fun (W : World) (g : Fr [] w W) => Tryz.alike24 _ _ V.B V'.B k W (kb.fr0 g) lb (kb'.fr0 g) lb' kg kg'
      have hd : VW.dif V V' k = (!alk V.S V'.S k || (!alk V.H V'.H k || !alk V.B V'.B k)) := rfl
      have hl := VW.difs_len V V' k
      have hs := VW.difs_succ V V' k
      generalize VW.dif V V' k = d at hd hs
      generalize alk V.S V'.S k = p at f1 hd
      generalize alk V.H V'.H k = q at f2 hd
      generalize alk V.B V'.B k = r at f3 hd
      have f1' := Lib.hid f1
      have f2' := Lib.hid f2
      have f3' := Lib.hid f3
      have hd' := Lib.hid hd
      have hs' := Lib.hid hs
      have hk1 := Lib.hid hk
      clear f1 f2 f3 hd hs ks kh kb ks' kh' kb'
      have c3 : (VW.difs V V' k).length + 1 ≤ maxLen := by unfold maxLen; omega
      have c4 : ((VW.difs V V' k).length + 1) * 8 ≤ 140737488355328 := by omega
      cases p with
      | false =>
        go_wp2_with (first | (go_at_call 22; refine (f1'.out _ f).mono ?_; rintro e w1 ⟨rfl, rfl⟩) | (at_builtin; refine wpList_append_own _ rfl _ _ 23 rfl (w.heap.size + 2) 3 i0 (.int .i64 0) 1 8 Tryz.underlying23 hi hz0 hz1 hz2 rfl (by decide) _ _ _ rfl (World.ownsRow.alloc hown _) ⟨wr.heap.size, 0, none⟩ 1 1 [.int .i64 k] rfl rfl (cell_one_new _ _ _) (one_int _ _) c3 c4 (le_alloc _ hsz) ?_; intro v' w2 hown' hgrow _))
        have e1 : VW.difs V V' (k + 1) = VW.difs V V' k ++ [(k : Int)] := by rw [hs'.out, hd'.out]; simp
        have fr := Fr.grown (Fr.alloc f (.cells #[Value.int .i64 k] 3)) hgrow (fun g hg hlt' => by have := (World.ownsRow.lt hown g hg).1; omega)
        have g1 := grown_keep hgrow (b := w.heap.size) ((isB_alloc _ (by omega)).trans (by assumption)) (own_ne hown (by omega)) ((blk_alloc _ (by omega)).trans (by assumption))
        have g2 := grown_keep hgrow (b := w.heap.size + 1) ((isB_alloc _ (by omega)).trans (by assumption)) (own_ne hown (by omega)) ((blk_alloc _ (by omega)).trans (by assumption))
        have hz := hgrow.size
        have hz' : w.heap.size + 2 ≤ w2.heap.size := by simp at hz; omega
        go_roundw
        case rel => exact ⟨k + 1, by have := hk1.out; omega, by go_num, by rw [e1, i64s_snoc, List.length_append]; exact hown', fr, g1.1, g1.2, g2.1, g2.2, hz'⟩
        case measure => simp [intOf]; omega
      | true =>
        cases q with
        | false =>
          go_wp2_with (first | (go_at_call 22; refine (f1'.out _ f).mono ?_; rintro e w1 ⟨rfl, rfl⟩) | (go_at_call 23; refine (f2'.out _ f).mono ?_; rintro e w1 ⟨rfl, rfl⟩) | (at_builtin; refine wpList_append_own _ rfl _ _ 23 rfl (w.heap.size + 2) 3 i0 (.int .i64 0) 1 8 Tryz.underlying23 hi hz0 hz1 hz2 rfl (by decide) _ _ _ rfl (World.ownsRow.alloc hown _) ⟨wr.heap.size, 0, none⟩ 1 1 [.int .i64 k] rfl rfl (cell_one_new _ _ _) (one_int _ _) c3 c4 (le_alloc _ hsz) ?_; intro v' w2 hown' hgrow _))
          have e1 : VW.difs V V' (k + 1) = VW.difs V V' k ++ [(k : Int)] := by rw [hs'.out, hd'.out]; simp
          have fr := Fr.grown (Fr.alloc f (.cells #[Value.int .i64 k] 3)) hgrow (fun g hg hlt' => by have := (World.ownsRow.lt hown g hg).1; omega)
          have g1 := grown_keep hgrow (b := w.heap.size) ((isB_alloc _ (by omega)).trans (by assumption)) (own_ne hown (by omega)) ((blk_alloc _ (by omega)).trans (by assumption))
          have g2 := grown_keep hgrow (b := w.heap.size + 1) ((isB_alloc _ (by omega)).trans (by assumption)) (own_ne hown (by omega)) ((blk_alloc _ (by omega)).trans (by assumption))
          have hz := hgrow.size
          have hz' : w.heap.size + 2 ≤ w2.heap.size := by simp at hz; omega
          go_roundw
          case rel => exact ⟨k + 1, by have := hk1.out; omega, by go_num, by rw [e1, i64s_snoc, List.length_append]; exact hown', fr, g1.1, g1.2, g2.1, g2.2, hz'⟩
          case measure => simp [intOf]; omega
        | true =>
          cases r with
          | false =>
            go_wp2_with (first | (go_at_call 22; refine (f1'.out _ f).mono ?_; rintro e w1 ⟨rfl, rfl⟩) | (go_at_call 23; refine (f2'.out _ f).mono ?_; rintro e w1 ⟨rfl, rfl⟩) | (go_at_call 24; refine (f3'.out _ f).mono ?_; rintro e w1 ⟨rfl, g⟩; obtain ⟨_, _, _, _⟩ := keep4 g (b := w.heap.size) (by go_simp) (by simp) (by go_simp; rfl); obtain ⟨_, _, _, _⟩ := keep4 g (b := w.heap.size + 1) (by go_simp) (by simp) (by go_simp; rfl); have hown1 := owns_fr hown g; have hsz1 := Nat.le_trans hsz g.size) | (at_builtin; refine wpList_append_own _ rfl _ _ 23 rfl (w.heap.size + 2) 3 i0 (.int .i64 0) 1 8 Tryz.underlying23 hi hz0 hz1 hz2 rfl (by decide) _ _ _ rfl (World.ownsRow.alloc hown1 _) ⟨w1.heap.size, 0, none⟩ 1 1 [.int .i64 k] rfl rfl (cell_one_new _ _ _) (one_int _ _) c3 c4 (le_alloc _ hsz1) ?_; intro v' w2 hown' hgrow _))
            have e1 : VW.difs V V' (k + 1) = VW.difs V V' k ++ [(k : Int)] := by rw [hs'.out, hd'.out]; simp
            have fr := Fr.grown (Fr.alloc (f.trans' g) (.cells #[Value.int .i64 k] 3)) hgrow (fun g hg hlt' => by have := (World.ownsRow.lt hown1 g hg).1; omega)
            have g1 := grown_keep hgrow (b := w.heap.size) ((isB_alloc _ (by omega)).trans (by assumption)) (own_ne hown1 (by omega)) ((blk_alloc _ (by omega)).trans (by assumption))
            have g2 := grown_keep hgrow (b := w.heap.size + 1) ((isB_alloc _ (by omega)).trans (by assumption)) (own_ne hown1 (by omega)) ((blk_alloc _ (by omega)).trans (by assumption))
            have hz := hgrow.size
            have hz' : w.heap.size + 2 ≤ w2.heap.size := by simp at hz; omega
            go_roundw
            case rel => exact ⟨k + 1, by have := hk1.out; omega, by go_num, by rw [e1, i64s_snoc, List.length_append]; exact hown', fr, g1.1, g1.2, g2.1, g2.2, hz'⟩
            case measure => simp [intOf]; omega
          | true =>
            go_wp2_with (first | (go_at_call 22; refine (f1'.out _ f).mono ?_; rintro e w1 ⟨rfl, rfl⟩) | (go_at_call 23; refine (f2'.out _ f).mono ?_; rintro e w1 ⟨rfl, rfl⟩) | (go_at_call 24; refine (f3'.out _ f).mono ?_; rintro e w1 ⟨rfl, g⟩; obtain ⟨_, _, _, _⟩ := keep4 g (b := w.heap.size) (by go_simp) (by simp) (by go_simp; rfl); obtain ⟨_, _, _, _⟩ := keep4 g (b := w.heap.size + 1) (by go_simp) (by simp) (by go_simp; rfl); have hown1 := owns_fr hown g; have hsz1 := Nat.le_trans hsz g.size))
            have e1 : VW.difs V V' (k + 1) = VW.difs V V' k := by rw [hs'.out, hd'.out]; simp
            go_roundw
            case rel => exact ⟨k + 1, by have := hk1.out; omega, by go_num, by rw [e1]; exact hown1, f.trans' g, by assumption, by assumption, by assumption, by assumption, hsz1⟩
            case measure => simp [intOf]; omega
    · obtain rfl : k = n := by omega
      go_wp2
      go_ret
      exact ⟨_, rfl, slI_of_owns hown, f⟩
theorem Tryz.same8 (s h b s' h' b' : Value) (V V' : VW) (w : World) (k : ViewV w s h b V) (k' : ViewV w s' h' b' V') :
    Calls Tryz.prog 8 #[.agg #[s, h, b], .agg #[s', h', b']] w fun e w' => e = .returned (.bool (VW.same V V')) ∧ Fr [] w w' := by
  obtain ⟨ks, kh, kb, ls, lh, lb, kg⟩ := k
  obtain ⟨ks', kh', kb', ls', lh', lb', kg'⟩ := k'
  obtain ⟨as1, cs, rfl⟩ := ks.len
  obtain ⟨ah, ch, rfl⟩ := kh.len
  obtain ⟨ab, cb, rfl⟩ := kb.len
  obtain ⟨as', cs', rfl⟩ := ks'.len
  obtain ⟨ah', ch', rfl⟩ := kh'.len
  obtain ⟨ab', cb', rfl⟩ := kb'.len
  have f1 := fun (W : World) (g : Fr [] w W) => Tryz.equal25 _ _ V.S V'.S W (ks.fr0 g) ls (ks'.fr0 g) ls'
  have f2 := fun (W : World) (g : Fr [] w W) => Tryz.equal26 _ _ V.H V'.H W (kh.fr0 g) lh (kh'.fr0 g) lh'
  have f3 := fun (W : World) (g : Fr [] w W) => Tryz.equal27 _ _ V.B V'.B W (kb.fr0 g) lb (kb'.fr0 g) lb' kg kg'
  unfold VW.same
  generalize decide (V.S = V'.S) = p at f1 ⊢
  generalize decide (V.H = V'.H) = q at f2 ⊢
  generalize decide (V.B = V'.B) = r at f3 ⊢
  have f1' := Lib.hid f1
  have f2' := Lib.hid f2
  have f3' := Lib.hid f3
  clear f1 f2 f3 ks kh kb ks' kh' kb'
  have f0 : Fr [] w ((w.alloc (.cells #[.slice as1 V.S.length cs, .slice ah V.H.length ch, .slice ab V.B.length cb] 26)).alloc (.cells #[.slice as' V'.S.length cs', .slice ah' V'.H.length ch', .slice ab' V'.B.length cb'] 26)) := ((Fr.refl _ _).alloc _).alloc _
  have z0 := f0.size
  cases p with
  | false =>
    go_enter Tryz.func8, Tryz.ntmps8
    go_wp2_with (go_at_call 25; refine (f1'.out _ f0).mono ?_; rintro e w1 ⟨rfl, g1⟩; obtain ⟨_, _, _, _⟩ := keep4 g1 (b := w.heap.size) (by go_simp) (by simp) (by go_simp; rfl); obtain ⟨_, _, _, _⟩ := keep4 g1 (b := w.heap.size + 1) (by go_simp) (by simp) (by go_simp; rfl))
    go_ret
    exact ⟨rfl, f0.trans' g1⟩
  | true =>
    cases q with
    | false =>
      go_enter Tryz.func8, Tryz.ntmps8
      go_wp2_with (first | (go_at_call 25; refine (f1'.out _ f0).mono ?_; rintro e w1 ⟨rfl, g1⟩; obtain ⟨_, _, _, _⟩ := keep4 g1 (b := w.heap.size) (by go_simp) (by simp) (by go_simp; rfl); obtain ⟨_, _, _, _⟩ := keep4 g1 (b := w.heap.size + 1) (by go_simp) (by simp) (by go_simp; rfl)) | (go_at_call 26; refine (f2'.out _ (f0.trans' g1)).mono ?_; rintro e w2 ⟨rfl, g2⟩; obtain ⟨_, _, _, _⟩ := keep4 g2 (b := w.heap.size) (by go_simp) (by simp) (by go_simp; rfl); obtain ⟨_, _, _, _⟩ := keep4 g2 (b := w.heap.size + 1) (by go_simp) (by simp) (by go_simp; rfl)))
      go_ret
      exact ⟨rfl, (f0.trans' g1).trans' g2⟩
    | true =>
      go_enter Tryz.func8, Tryz.ntmps8
      go_wp2_with (first | (go_at_call 25; refine (f1'.out _ f0).mono ?_; rintro e w1 ⟨rfl, g1⟩; obtain ⟨_, _, _, _⟩ := keep4 g1 (b := w.heap.size) (by go_simp) (by simp) (by go_simp; rfl); obtain ⟨_, _, _, _⟩ := keep4 g1 (b := w.heap.size + 1) (by go_simp) (by simp) (by go_simp; rfl)) | (go_at_call 26; refine (f2'.out _ (f0.trans' g1)).mono ?_; rintro e w2 ⟨rfl, g2⟩; obtain ⟨_, _, _, _⟩ := keep4 g2 (b := w.heap.size) (by go_simp) (by simp) (by go_simp; rfl); obtain ⟨_, _, _, _⟩ := keep4 g2 (b := w.heap.size + 1) (by go_simp) (by simp) (by go_simp; rfl)) | (go_at_call 27; refine (f3'.out _ ((f0.trans' g1).trans' g2)).mono ?_; rintro e w3 ⟨rfl, g3⟩))
      go_ret
      exact ⟨by simp, ((f0.trans' g1).trans' g2).trans' g3⟩
end Go.Proofs
