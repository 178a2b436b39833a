/- The law ViewDiffer: its walk, at views of at most 200. Conditions: what the arguments hold. -/
import Derived.Test.YthgiikmajmndaaaGreatKnown
import Derived.Deep.DeepCutAuto
set_option linter.unusedSimpArgs false
set_option linter.unusedVariables false
namespace Anc
open Go Go.RowKit
theorem VW.dif_out (a b : VW) {i : Nat} (h : maxLens a b ≤ i) : VW.dif a b i = false := by
  unfold maxLens at h
  unfold VW.dif alk
  rw [List.getElem?_eq_none (show a.S.length ≤ i by omega), List.getElem?_eq_none (show b.S.length ≤ i by omega), List.getElem?_eq_none (show a.H.length ≤ i by omega), List.getElem?_eq_none (show b.H.length ≤ i by omega), List.getElem?_eq_none (show a.B.length ≤ i by omega), List.getElem?_eq_none (show b.B.length ≤ i by omega)]
  simp
theorem VW.difs_stop (a b : VW) {n : Nat} (h : maxLens a b ≤ n) : VW.difs a b n = VW.difs a b (maxLens a b) := by
  obtain ⟨j, rfl⟩ : ∃ j, n = maxLens a b + j := ⟨n - maxLens a b, by omega⟩
  clear h
  induction j with
  | zero => rfl
  | succ j ih =>
    rw [← Nat.add_assoc, VW.difs_succ, VW.dif_out a b (Nat.le_add_right _ _), ih]
    simp
theorem VW.same_self (a : VW) : VW.same a a = true := by simp [VW.same]
theorem VW.same_iff (a b : VW) : VW.same a b = decide ((VW.difs a b (maxLens a b)).length = 0) := by
  have h1 : (VW.difs a b (maxLens a b)).length = 0 ↔ ∀ i, i < maxLens a b → VW.dif a b i = false := by
    simp [VW.difs, List.filter_eq_nil_iff]
  have h2 : (∀ i, i < maxLens a b → VW.dif a b i = false) ↔ (a.S = b.S ∧ a.H = b.H ∧ a.B = b.B) := by
    constructor
    · intro h
      have h' : ∀ i, VW.dif a b i = false := fun i => by
        by_cases hi : i < maxLens a b
        · exact h i hi
        · exact VW.dif_out a b (by omega)
      simp only [VW.dif, alk, Bool.or_eq_false_iff, Bool.not_eq_false', decide_eq_true_eq] at h'
      exact ⟨List.ext_getElem? fun i => (h' i).1, List.ext_getElem? fun i => (h' i).2.1, List.ext_getElem? fun i => (h' i).2.2⟩
    · rintro ⟨e1, e2, e3⟩ i _
      simp [VW.dif, alk, e1, e2, e3]
  unfold VW.same
  rw [Bool.eq_iff_iff]
  simp only [Bool.and_eq_true, decide_eq_true_eq]
  rw [h1, h2]
theorem own_len {w : World} {B e k n : Nat} {v : Value} {l : List Value} (h : w.ownsRow B e k v n l) : ∃ a c, v = .slice a n c := by
  obtain ⟨_, ⟨rfl, rfl⟩ | ⟨g, cap, cur, rfl, _⟩⟩ := h
  · exact ⟨_, _, rfl⟩
  · exact ⟨_, _, rfl⟩
end Anc
namespace Go.Proofs
open Go Go.RowKit Anc
set_option maxRecDepth 100000 in
set_option maxHeartbeats 8000000 in
theorem Tryz.differ3_short (s h b s' h' b' : Value) (V V' : VW) (w : World) (kv : ViewV w s h b V) (kv' : ViewV w s' h' b' V') (hS1 : V.S.length ≤ 200) (hH1 : V.H.length ≤ 200) (hB1 : V.B.length ≤ 200) (hS2 : V'.S.length ≤ 200) (hH2 : V'.H.length ≤ 200) (hB2 : V'.B.length ≤ 200) :
    Calls Tryz.prog 3 #[.agg #[s, h, b], .agg #[s', h', b']] w fun e w' => e = .returned (.bool true) ∧ Fr [] w w' := by
  obtain ⟨i3, hi, hz0, hz1, hz2⟩ := info_parts Tryz.info3
  have hk := kv
  have hk' := kv'
  obtain ⟨ks, kh, kb, ls, lh, lb, kg⟩ := kv
  obtain ⟨ks', kh', kb', ls', lh', lb', kg'⟩ := kv'
  obtain ⟨as1, cs, rfl⟩ := ks.len
  obtain ⟨ah, ch, rfl⟩ := kh.len
  obtain ⟨ab, cb, rfl⟩ := kb.len
  obtain ⟨as', cs', rfl⟩ := ks'.len
  obtain ⟨ah', ch', rfl⟩ := kh'.len
  obtain ⟨ab', cb', rfl⟩ := kb'.len
  go_enter Tryz.func3, Tryz.ntmps3
  go_wp2_with fail
  go_loopw [5, 6] (fun v i wr => ∃ k : Nat, k ≤ 200 ∧ i = .int .i64 k ∧ wr.ownsRow (w.heap.size + 2) 3 1 v (VW.difs V V' k).length (i64s (VW.difs V V' k)) ∧ Fr [] w wr ∧
      isB wr w.heap.size = true ∧ blk wr w.heap.size = [.slice as1 V.S.length cs, .slice ah V.H.length ch, .slice ab V.B.length cb] ∧ isB wr (w.heap.size + 1) = true ∧ blk wr (w.heap.size + 1) = [.slice as' V'.S.length cs', .slice ah' V'.H.length ch', .slice ab' V'.B.length cb'] ∧ w.heap.size + 2 ≤ wr.heap.size) (fun _ i _ => 200 - (intOf i).toNat)
  case atStart => exact ⟨0, by omega, rfl, World.ownsRow_nil _ _ _ _, ((Fr.refl _ _).alloc _).alloc _, by go_simp, by go_simp, by go_simp, by go_simp, by go_simp⟩
  case round =>
    obtain ⟨k, hk200, rfl, hown, f, b1, b2, b3, b4, hsz⟩ := hrel
    by_cases hlt : k < 200
    · go_upto_region 7 with (fail)
      go_cut [7] (fun x wc => x = .bool (alk V.S V'.S k) ∧ Fr [] wr wc)
      case first =>
        by_cases p1 : k < V.S.length
        · by_cases p2 : k < V'.S.length
          · obtain ⟨g, o, c, ea, hR, hc⟩ := SlK.ints (ks.fr0 f) (by omega)
            obtain ⟨g', o', c', eb, hR', hc'⟩ := SlK.ints (ks'.fr0 f) (by omega)
            simp only [Value.slice.injEq] at ea eb
            obtain ⟨rfl, _, rfl⟩ := ea
            obtain ⟨rfl, _, rfl⟩ := eb
            have q1 := hc k p1
            have q2 := hc' k p2
            have e := alk_ints V.S V'.S k
            have e1 : decide (k < V.S.length) = true := by simpa using p1
            have e2 : decide (k < V'.S.length) = true := by simpa using p2
            rw [e1, e2] at e
            generalize V.S.getD k 0 = x at q1 e
            generalize V'.S.getD k 0 = y at q2 e
            have e' := Lib.hid e
            clear hc hc' e e1 e2
            have i1 : (k : Int) < V.S.length := by omega
            have i2 : (k : Int) < V'.S.length := by omega
            go_quiet (fail)
            go_wp2_with fail
            go_meet
            exact ⟨by rw [← e'.out]; simp [show ¬ V.S.length ≤ k by omega], frDrewN (Fr.refl _ _) _⟩
          · have e : alk V.S V'.S k = false := by unfold alk; simp [p1, p2]
            have e' := Lib.hid e
            have i1 : (k : Int) < V.S.length := by omega
            have i2 : decide ((k : Int) < V'.S.length) = false := by simp; omega
            clear e
            go_quiet (fail)
            go_wp2_with fail
            go_meet
            exact ⟨by rw [e'.out], frDrewN (Fr.refl _ _) _⟩
        · by_cases p2 : k < V'.S.length
          · have e : alk V.S V'.S k = false := by unfold alk; simp [p1, p2]
            have e' := Lib.hid e
            have i1 : decide ((k : Int) < V.S.length) = false := by simp; omega
            have i2 : (k : Int) < V'.S.length := by omega
            clear e
            go_quiet (fail)
            go_wp2_with fail
            go_meet
            exact ⟨by rw [e'.out], frDrewN (Fr.refl _ _) _⟩
          · have e : alk V.S V'.S k = true := by unfold alk; simp [p1, p2]
            have e' := Lib.hid e
            have i1 : decide ((k : Int) < V.S.length) = false := by simp; omega
            have i2 : decide ((k : Int) < V'.S.length) = false := by simp; omega
            have i3 : (V.S.length : Int) ≤ k := by omega
            clear e
            go_quiet (fail)
            go_wp2_with fail
            go_meet
            exact ⟨by rw [e'.out], frDrewN (Fr.refl _ _) _⟩
      case rest =>
        obtain ⟨rfl, fc⟩ := hcut
        replace f := f.trans' fc
        replace hown := owns_fr hown fc
        replace hsz := Nat.le_trans hsz fc.size
        replace b2 := (fc.blk _ (isB_lt b1) (by simp)).trans b2
        replace b1 := (fc.isB _ (isB_lt b1) (by simp)).trans b1
        replace b4 := (fc.blk _ (isB_lt b3) (by simp)).trans b4
        replace b3 := (fc.isB _ (isB_lt b3) (by simp)).trans b3
        clear fc
        generalize hw1 : wc = w1 at *
        clear hw1
        go_upto_region 8 with (fail)
        go_cut [8] (fun x wc => x = .bool (alk V.H V'.H k) ∧ Fr [] w1 wc)
        case first =>
          by_cases p1 : k < V.H.length
          · by_cases p2 : k < V'.H.length
            · obtain ⟨g, o, c, ea, hR, hc⟩ := SlK.ints (kh.fr0 f) (by omega)
              obtain ⟨g', o', c', eb, hR', hc'⟩ := SlK.ints (kh'.fr0 f) (by omega)
              simp only [Value.slice.injEq] at ea eb
              obtain ⟨rfl, _, rfl⟩ := ea
              obtain ⟨rfl, _, rfl⟩ := eb
              have q1 := hc k p1
              have q2 := hc' k p2
              have e := alk_ints V.H V'.H k
              have e1 : decide (k < V.H.length) = true := by simpa using p1
              have e2 : decide (k < V'.H.length) = true := by simpa using p2
              rw [e1, e2] at e
              generalize V.H.getD k 0 = x at q1 e
              generalize V'.H.getD k 0 = y at q2 e
              have e' := Lib.hid e
              clear hc hc' e e1 e2
              have i1 : (k : Int) < V.H.length := by omega
              have i2 : (k : Int) < V'.H.length := by omega
              go_quiet (fail)
              go_wp2_with fail
              go_meet
              exact ⟨by rw [← e'.out]; simp [show ¬ V.H.length ≤ k by omega], frDrewN (Fr.refl _ _) _⟩
            · have e : alk V.H V'.H k = false := by unfold alk; simp [p1, p2]
              have e' := Lib.hid e
              have i1 : (k : Int) < V.H.length := by omega
              have i2 : decide ((k : Int) < V'.H.length) = false := by simp; omega
              clear e
              go_quiet (fail)
              go_wp2_with fail
              go_meet
              exact ⟨by rw [e'.out], frDrewN (Fr.refl _ _) _⟩
          · by_cases p2 : k < V'.H.length
            · have e : alk V.H V'.H k = false := by unfold alk; simp [p1, p2]
              have e' := Lib.hid e
              have i1 : decide ((k : Int) < V.H.length) = false := by simp; omega
              have i2 : (k : Int) < V'.H.length := by omega
              clear e
              go_quiet (fail)
              go_wp2_with fail
              go_meet
              exact ⟨by rw [e'.out], frDrewN (Fr.refl _ _) _⟩
            · have e : alk V.H V'.H k = true := by unfold alk; simp [p1, p2]
              have e' := Lib.hid e
              have i1 : decide ((k : Int) < V.H.length) = false := by simp; omega
              have i2 : decide ((k : Int) < V'.H.length) = false := by simp; omega
              have i3 : (V.H.length : Int) ≤ k := by omega
              clear e
              go_quiet (fail)
              go_wp2_with fail
              go_meet
              exact ⟨by rw [e'.out], frDrewN (Fr.refl _ _) _⟩
        case rest =>
          obtain ⟨rfl, fc⟩ := hcut
          replace f := f.trans' fc
          replace hown := owns_fr hown fc
          replace hsz := Nat.le_trans hsz fc.size
          replace b2 := (fc.blk _ (isB_lt b1) (by simp)).trans b2
          replace b1 := (fc.isB _ (isB_lt b1) (by simp)).trans b1
          replace b4 := (fc.blk _ (isB_lt b3) (by simp)).trans b4
          replace b3 := (fc.isB _ (isB_lt b3) (by simp)).trans b3
          clear fc
          generalize hw2 : wc = w2 at *
          clear hw2
          go_upto_region 9 with (fail)
          go_cut [9] (fun x wc => x = .bool (alk V.B V'.B k) ∧ Fr [] w2 wc)
          case first =>
            by_cases p1 : k < V.B.length
            · by_cases p2 : k < V'.B.length
              · obtain ⟨g, o, c, ea, hR, hc⟩ := (kb.fr0 f).has (by omega)
                obtain ⟨g', o', c', eb, hR', hc'⟩ := (kb'.fr0 f).has (by omega)
                simp only [Value.slice.injEq] at ea eb
                obtain ⟨rfl, _, rfl⟩ := ea
                obtain ⟨rfl, _, rfl⟩ := eb
                obtain ⟨q1, q3⟩ := hc k p1
                obtain ⟨q2, q4⟩ := hc' k p2
                have l1 : (u8s (V.B.getD k [])).length = 128 := by rw [← q3, sub_length q1]
                have l2 : (u8s (V'.B.getD k [])).length = 128 := by rw [← q4, sub_length q2]
                have a1 : AllB (V.B.getD k []) := (kg (V.B.getD k []) (by simp [List.getD, p1])).2
                have a2 : AllB (V'.B.getD k []) := (kg' (V'.B.getD k []) (by simp [List.getD, p2])).2
                have e : decide (V.B.getD k [] = V'.B.getD k []) = alk V.B V'.B k := by unfold alk; simp [List.getD, p1, p2]
                generalize V.B.getD k [] = x at q3 l1 a1 e
                generalize V'.B.getD k [] = y at q4 l2 a2 e
                simp only [u8s_length] at l1 l2
                have e' := Lib.hid e
                clear hc hc' e
                have i1 : (k : Int) < V.B.length := by omega
                have i2 : (k : Int) < V'.B.length := by omega
                go_quiet (fail)
                go_wp2_with fail
                go_meet
                exact ⟨by rw [← e'.out]; simp [show ¬ V.B.length ≤ k by omega], frDrewN (Fr.refl _ _) _⟩
              · have e : alk V.B V'.B k = false := by unfold alk; simp [p1, p2]
                have e' := Lib.hid e
                have i1 : (k : Int) < V.B.length := by omega
                have i2 : decide ((k : Int) < V'.B.length) = false := by simp; omega
                clear e
                go_quiet (fail)
                go_wp2_with fail
                go_meet
                exact ⟨by rw [e'.out], frDrewN (Fr.refl _ _) _⟩
            · by_cases p2 : k < V'.B.length
              · have e : alk V.B V'.B k = false := by unfold alk; simp [p1, p2]
                have e' := Lib.hid e
                have i1 : decide ((k : Int) < V.B.length) = false := by simp; omega
                have i2 : (k : Int) < V'.B.length := by omega
                clear e
                go_quiet (fail)
                go_wp2_with fail
                go_meet
                exact ⟨by rw [e'.out], frDrewN (Fr.refl _ _) _⟩
              · have e : alk V.B V'.B k = true := by unfold alk; simp [p1, p2]
                have e' := Lib.hid e
                have i1 : decide ((k : Int) < V.B.length) = false := by simp; omega
                have i2 : decide ((k : Int) < V'.B.length) = false := by simp; omega
                have i3 : (V.B.length : Int) ≤ k := by omega
                clear e
                go_quiet (fail)
                go_wp2_with fail
                go_meet
                exact ⟨by rw [e'.out], frDrewN (Fr.refl _ _) _⟩
          case rest =>
            obtain ⟨rfl, fc⟩ := hcut
            replace f := f.trans' fc
            replace hown := owns_fr hown fc
            replace hsz := Nat.le_trans hsz fc.size
            replace b2 := (fc.blk _ (isB_lt b1) (by simp)).trans b2
            replace b1 := (fc.isB _ (isB_lt b1) (by simp)).trans b1
            replace b4 := (fc.blk _ (isB_lt b3) (by simp)).trans b4
            replace b3 := (fc.isB _ (isB_lt b3) (by simp)).trans b3
            clear fc
            generalize hw3 : wc = w3 at *
            clear hw3
            have hd : VW.dif V V' k = (!alk V.S V'.S k || (!alk V.H V'.H k || !alk V.B V'.B k)) := rfl
            have hl := VW.difs_len V V' k
            have hs := VW.difs_succ V V' k
            generalize VW.dif V V' k = d at hd hs
            generalize alk V.S V'.S k = p at hd ⊢
            generalize alk V.H V'.H k = q at hd ⊢
            generalize alk V.B V'.B k = r at hd ⊢
            have hd' := Lib.hid hd
            have hs' := Lib.hid hs
            have hk1 := Lib.hid hk200
            clear hd hs
            have c3 : (VW.difs V V' k).length + 1 ≤ maxLen := by unfold maxLen; omega
            have c4 : ((VW.difs V V' k).length + 1) * 8 ≤ 140737488355328 := by omega
            cases p with
            | false =>
              go_wp2_with (at_builtin; refine wpList_append_own _ rfl _ _ 23 rfl (w.heap.size + 2) 3 i3 (.int .i64 0) 1 8 Tryz.underlying23 hi hz0 hz1 hz2 rfl (by decide) _ _ _ rfl (World.ownsRow.alloc hown _) ⟨w3.heap.size, 0, none⟩ 1 1 [.int .i64 k] rfl rfl (cell_one_new _ _ _) (one_int _ _) c3 c4 (le_alloc _ hsz) ?_; intro v' w4 hown' hgrow _)
              have e1 : VW.difs V V' (k + 1) = VW.difs V V' k ++ [(k : Int)] := by rw [hs'.out, hd'.out]; simp
              have fr := Fr.grown (Fr.alloc f (.cells #[Value.int .i64 k] 3)) hgrow (fun g hg hlt' => by have := (World.ownsRow.lt hown g hg).1; omega)
              have g1 := grown_keep hgrow (b := w.heap.size) ((isB_alloc _ (by omega)).trans b1) (own_ne hown (by omega)) ((blk_alloc _ (by omega)).trans b2)
              have g2 := grown_keep hgrow (b := w.heap.size + 1) ((isB_alloc _ (by omega)).trans b3) (own_ne hown (by omega)) ((blk_alloc _ (by omega)).trans b4)
              have hz := hgrow.size
              have hz' : w.heap.size + 2 ≤ w4.heap.size := by simp at hz; omega
              go_roundw
              case rel => exact ⟨k + 1, by have := hk1.out; omega, by go_num, by rw [e1, i64s_snoc, List.length_append]; exact hown', fr, g1.1, g1.2, g2.1, g2.2, hz'⟩
              case measure => simp [intOf]; omega
            | true =>
              cases q with
              | false =>
                go_wp2_with (at_builtin; refine wpList_append_own _ rfl _ _ 23 rfl (w.heap.size + 2) 3 i3 (.int .i64 0) 1 8 Tryz.underlying23 hi hz0 hz1 hz2 rfl (by decide) _ _ _ rfl (World.ownsRow.alloc hown _) ⟨w3.heap.size, 0, none⟩ 1 1 [.int .i64 k] rfl rfl (cell_one_new _ _ _) (one_int _ _) c3 c4 (le_alloc _ hsz) ?_; intro v' w4 hown' hgrow _)
                have e1 : VW.difs V V' (k + 1) = VW.difs V V' k ++ [(k : Int)] := by rw [hs'.out, hd'.out]; simp
                have fr := Fr.grown (Fr.alloc f (.cells #[Value.int .i64 k] 3)) hgrow (fun g hg hlt' => by have := (World.ownsRow.lt hown g hg).1; omega)
                have g1 := grown_keep hgrow (b := w.heap.size) ((isB_alloc _ (by omega)).trans b1) (own_ne hown (by omega)) ((blk_alloc _ (by omega)).trans b2)
                have g2 := grown_keep hgrow (b := w.heap.size + 1) ((isB_alloc _ (by omega)).trans b3) (own_ne hown (by omega)) ((blk_alloc _ (by omega)).trans b4)
                have hz := hgrow.size
                have hz' : w.heap.size + 2 ≤ w4.heap.size := by simp at hz; omega
                go_roundw
                case rel => exact ⟨k + 1, by have := hk1.out; omega, by go_num, by rw [e1, i64s_snoc, List.length_append]; exact hown', fr, g1.1, g1.2, g2.1, g2.2, hz'⟩
                case measure => simp [intOf]; omega
              | true =>
                cases r with
                | false =>
                  go_wp2_with (at_builtin; refine wpList_append_own _ rfl _ _ 23 rfl (w.heap.size + 2) 3 i3 (.int .i64 0) 1 8 Tryz.underlying23 hi hz0 hz1 hz2 rfl (by decide) _ _ _ rfl (World.ownsRow.alloc hown _) ⟨w3.heap.size, 0, none⟩ 1 1 [.int .i64 k] rfl rfl (cell_one_new _ _ _) (one_int _ _) c3 c4 (le_alloc _ hsz) ?_; intro v' w4 hown' hgrow _)
                  have e1 : VW.difs V V' (k + 1) = VW.difs V V' k ++ [(k : Int)] := by rw [hs'.out, hd'.out]; simp
                  have fr := Fr.grown (Fr.alloc f (.cells #[Value.int .i64 k] 3)) hgrow (fun g hg hlt' => by have := (World.ownsRow.lt hown g hg).1; omega)
                  have g1 := grown_keep hgrow (b := w.heap.size) ((isB_alloc _ (by omega)).trans b1) (own_ne hown (by omega)) ((blk_alloc _ (by omega)).trans b2)
                  have g2 := grown_keep hgrow (b := w.heap.size + 1) ((isB_alloc _ (by omega)).trans b3) (own_ne hown (by omega)) ((blk_alloc _ (by omega)).trans b4)
                  have hz := hgrow.size
                  have hz' : w.heap.size + 2 ≤ w4.heap.size := by simp at hz; omega
                  go_roundw
                  case rel => exact ⟨k + 1, by have := hk1.out; omega, by go_num, by rw [e1, i64s_snoc, List.length_append]; exact hown', fr, g1.1, g1.2, g2.1, g2.2, hz'⟩
                  case measure => simp [intOf]; omega
                | true =>
                  go_wp2
                  have e1 : VW.difs V V' (k + 1) = VW.difs V V' k := by rw [hs'.out, hd'.out]; simp
                  go_roundw
                  case rel => exact ⟨k + 1, by have := hk1.out; omega, by go_num, by rw [e1]; exact hown, f, b1, b2, b3, b4, hsz⟩
                  case measure => simp [intOf]; omega
    · obtain rfl : k = 200 := by omega
      have hn : maxLens V V' ≤ 200 := by unfold maxLens; omega
      have hst := VW.difs_stop V V' hn
      have hsm := VW.same_iff V V'
      have hsm2 := VW.same_self V
      rw [hst] at hown
      clear hst
      have f7 := fun (W : World) (g : Fr [] w W) => Tryz.differ7 _ _ _ _ _ _ V V' W (hk.fr0 g) (hk'.fr0 g)
      have f8 := fun (W : World) (g : Fr [] w W) => Tryz.same8 _ _ _ _ _ _ V V' W (hk.fr0 g) (hk'.fr0 g)
      have f9 := fun (W : World) (g : Fr [] w W) => Tryz.same8 _ _ _ _ _ _ V V W (hk.fr0 g) (hk.fr0 g)
      have hD := VW.difs_len V V' (maxLens V V')
      rw [hsm2] at f9
      rw [hsm] at f8
      generalize VW.difs V V' (maxLens V V') = D at *
      have hD2 : D.length ≤ 1000 := by omega
      obtain ⟨aw, cw, rfl⟩ := own_len hown
      have hwant := slI_of_owns hown
      have f7' := Lib.hid f7
      have f8' := Lib.hid f8
      have f9' := Lib.hid f9
      clear f7 f8 f9 hsm hsm2 hown hk hk' ks kh kb ks' kh' kb' hD hn hlt hk200
      by_cases h0 : D.length = 0
      · obtain rfl : D = [] := List.length_eq_zero_iff.1 h0
        have e0 : decide (([] : List Int).length = 0) = true := rfl
        rw [e0] at f8'
        clear h0 e0
        go_wp2_with fail
        refine (f7'.out _ f).mono ?_
        rintro e w1 ⟨v, rfl, hv, g1⟩
        obtain ⟨av, cv, rfl⟩ := hv.len
        obtain ⟨_, _, _, _⟩ := keep4 g1 (b := w.heap.size) (by go_simp) (by simp) (by go_simp; rfl); obtain ⟨_, _, _, _⟩ := keep4 g1 (b := w.heap.size + 1) (by go_simp) (by simp) (by go_simp; rfl)
        simp only [List.length_nil] at *
        go_wp2_with fail
        refine (f8'.out _ (f.trans' g1)).mono ?_
        rintro e w2 ⟨rfl, g2⟩
        obtain ⟨_, _, _, _⟩ := keep4 g2 (b := w.heap.size) (by go_simp) (by simp) (by go_simp; rfl); obtain ⟨_, _, _, _⟩ := keep4 g2 (b := w.heap.size + 1) (by go_simp) (by simp) (by go_simp; rfl)
        go_wp2_with fail
        refine (f9'.out _ ((f.trans' g1).trans' g2)).mono ?_
        rintro e w3 ⟨rfl, g3⟩
        go_wp2_with fail
        go_loopw [11] (fun i wr => i = .int .i64 0 ∧ Fr [] w wr) (fun i _ => 0)
        case atStart => exact ⟨rfl, ((f.trans' g1).trans' g2).trans' g3⟩
        case round =>
          obtain ⟨rfl, f4⟩ := hrel
          go_wp2_with (go_at_call 6; refine (Tryz.known6 _).mono ?_; rintro e w5 ⟨rfl, f5⟩)
          go_ret
          exact ⟨rfl, f4.trans' f5⟩
      · have e0 : decide (D.length = 0) = false := by simpa using h0
        rw [e0] at f8'
        have h1 : (0 : Int) < D.length := by omega
        have h2 : ((D.length : Int) == 0) = false := beq_eq_false_iff_ne.2 (by omega)
        clear e0
        have h0' := Lib.hid h0
        clear h0
        go_wp2_with fail
        refine (f7'.out _ f).mono ?_
        rintro e w1 ⟨v, rfl, hv, g1⟩
        obtain ⟨av, cv, rfl⟩ := hv.len
        obtain ⟨_, _, _, _⟩ := keep4 g1 (b := w.heap.size) (by go_simp) (by simp) (by go_simp; rfl); obtain ⟨_, _, _, _⟩ := keep4 g1 (b := w.heap.size + 1) (by go_simp) (by simp) (by go_simp; rfl)
        go_wp2_with fail
        refine (f8'.out _ (f.trans' g1)).mono ?_
        rintro e w2 ⟨rfl, g2⟩
        obtain ⟨_, _, _, _⟩ := keep4 g2 (b := w.heap.size) (by go_simp) (by simp) (by go_simp; rfl); obtain ⟨_, _, _, _⟩ := keep4 g2 (b := w.heap.size + 1) (by go_simp) (by simp) (by go_simp; rfl)
        go_wp2_with fail
        refine (f9'.out _ ((f.trans' g1).trans' g2)).mono ?_
        rintro e w3 ⟨rfl, g3⟩
        have hv3 := (hv.fr0 g2).fr0 g3
        have hw3 := ((hwant.fr0 g1).fr0 g2).fr0 g3
        have f3 := ((f.trans' g1).trans' g2).trans' g3
        obtain ⟨gv, ov, cv', ev, rv, dv⟩ := SlK.ints hv3 (by have := h0'.out; omega)
        obtain ⟨gw, ow, cw', ew, rw1, dw⟩ := SlK.ints hw3 (by have := h0'.out; omega)
        simp only [Value.slice.injEq] at ev ew
        obtain ⟨rfl, _, rfl⟩ := ev
        obtain ⟨rfl, _, rfl⟩ := ew
        have dv' := Lib.hid dv
        have dw' := Lib.hid dw
        have lv := isR_lt rv
        have lw := isR_lt rw1
        clear dv dw hv hwant f g1 g2 g3 f7' f8' f9' hv3 hw3
        go_wp2_with fail
        go_loopw [11] (fun i wr => ∃ j : Nat, j ≤ D.length ∧ i = .int .i64 j ∧ Fr [] w3 wr) (fun i _ => D.length - (intOf i).toNat)
        case atStart => exact ⟨0, by omega, rfl, Fr.refl _ _⟩
        case round =>
          obtain ⟨j, hj, rfl, f4⟩ := hrel
          by_cases hlt : j < D.length
          · have r1 := (f4.isR lv (by simp)).trans rv
            have r2 := (f4.isR lw (by simp)).trans rw1
            have d1 := dv'.out j hlt
            have d2 := dw'.out j hlt
            rw [← f4.rd lv (by simp)] at d1
            rw [← f4.rd lw (by simp)] at d2
            generalize D.getD j 0 = x at d1 d2
            have i0 : (0 : Int) ≤ j := by omega
            have i1 : (j : Int) < D.length := by omega
            go_wp2_with fail
            go_quiet (fail)
            go_wp2_with fail
            go_roundw
            case rel => exact ⟨j + 1, by omega, by go_num, frDrewN f4 _⟩
            case measure => simp [intOf]; omega
          · go_wp2_with (go_at_call 6; refine (Tryz.known6 _).mono ?_; rintro e w5 ⟨rfl, f5⟩)
            go_ret
            exact ⟨rfl, (f3.trans' f4).trans' f5⟩
end Go.Proofs
