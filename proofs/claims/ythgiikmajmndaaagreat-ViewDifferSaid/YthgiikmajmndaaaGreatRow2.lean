/- Contracts of the program's rows, 2: what is told, stepped, held. Conditions: the rows lie as 'RowP' says. -/
import Derived.Test.YthgiikmajmndaaaGreatRow
set_option linter.unusedSimpArgs false
set_option linter.unusedVariables false
namespace Anc
open Go Go.RowKit Go.Instr
def atI (l : List RowG) (g : Int) : Option RowG := if 0 ≤ g then l[g.toNat]? else none
theorem atI_some {l : List RowG} {g : Int} {r : RowG} (h : atI l g = some r) : ∃ k : Nat, g = k ∧ l[k]? = some r ∧ k < l.length := by
  unfold atI at h
  split at h
  · exact ⟨g.toNat, by omega, h, (List.getElem?_eq_some_iff.mp h).1⟩
  · cases h
theorem atI_none {l : List RowG} {g : Int} (h : atI l g = none) : ¬ (0 ≤ g ∧ g < l.length) := by
  unfold atI at h
  split at h
  · rw [List.getElem?_eq_none_iff] at h; omega
  · omega
def hostR (l : List RowG) (g : Int) : Bool := match atI l g with | some r => decide (r.st = 0) | none => false
def rowR (l : List RowG) (g : Int) : Value := match atI l g with
  | some r => .tuple #[.agg r.cells.toArray, .int .i64 0]
  | none => .tuple #[.agg #[.int .i64 0, .int .u64 0, .int .i64 0], .int .i64 2]
def holdR (l : List RowG) (g : Int) : Int × List RowG := match atI l g with
  | none => (2, l)
  | some r => if r.hd = 2147483647 then (12, l) else (0, l.set g.toNat ⟨r.st, r.ow, r.hd + 1⟩)
def stepR (l : List RowG) (g a b o : Int) : Int × List RowG := match atI l g with
  | none => (2, l)
  | some r => match stepK 4 a b with
    | none => (2, l)
    | some t => if t ≠ decide (o ≠ 0) then (2, l) else if r.st ≠ a then (7, l) else if 0 < r.hd ∧ a ≠ 1 then (9, l) else (0, l.set g.toNat ⟨b, o, r.hd⟩)
theorem RowP.set {w w' : World} {t d : Nat} {l : List RowG} (h : RowP w t d l) (f : Fr [d] w w') (k : Nat) (r : RowG) (hb : isB w' d = true) (hc : blk w' d = rowCells (l.set k r)) (hr : r.wf) : RowP w' t d (l.set k r) := by
  refine ⟨(f.isB t (isB_lt h.bt) (by simpa using h.ne)).trans h.bt, hb, ?_, hc, ?_, ?_, ?_, h.ne⟩
  · rw [f.blk t (isB_lt h.bt) (by simpa using h.ne), h.ct]; simp
  · simpa using h.pos
  · simpa using h.le
  · intro x hx
    rcases List.mem_or_eq_of_mem_set hx with hx | rfl
    · exact h.wf x hx
    · exact hr
end Anc
namespace Go.Proofs
open Go Go.RowKit Anc
set_option maxRecDepth 100000 in
theorem Tryz.rowRP (t d : Nat) (l : List RowG) (g : Int) (w : World) (hR : RowP w t d l) : Calls Tryz.prog 62 #[.pointer (some ⟨t, 0, none⟩), .int .i64 g] w fun e w' => e = .returned (rowR l g) ∧ Fr [] w w' := by
  obtain ⟨bt, bd, ct, cd, hl, hN, hwf, hne⟩ := hR
  have ht := isB_lt bt
  cases hat : atI l g with
  | none =>
    have hn := atI_none hat
    unfold rowR; rw [hat]; simp only []
    clear hat
    go_enter Tryz.func62, Tryz.ntmps62
    go_wp2_with (go_at_call 74; refine (Tryz.rowP_no t d _ g _ (by go_simp) (by go_simp) hl hn).mono ?_; rintro e w' ⟨rfl, rfl⟩)
    refine bodyPost_ret (results_ct Tryz.agg155 rfl rfl (by go_simp) (by go_simp)) rfl ⟨?_, ?_⟩
    · go_simp
    · first | exact ((Fr.refl _ _).alloc _) | exact ((Fr.refl _ _).alloc _).setCells (by simp) _ _
  | some r =>
    obtain ⟨k, rfl, hk, hlt⟩ := atI_some hat
    unfold rowR; rw [hat]; simp only []
    clear hat
    have hd := isB_lt bd
    have h0 := rowCells_get hk 0 (by omega)
    have h1 := rowCells_sub hk
    have h2 : k * 3 + 3 ≤ (rowCells l).length := by rw [rowCells_length]; omega
    have h3 : r.cells.length = 3 := rfl
    go_enter Tryz.func62, Tryz.ntmps62
    go_wp2_with (go_at_call 74; refine (Tryz.rowP_ok t d _ k _ (by go_simp) (by go_simp) hl hlt).mono ?_; rintro e w' ⟨rfl, rfl⟩)
    refine bodyPost_ret (results_ct Tryz.agg155 rfl rfl (by go_simp) (by go_simp)) rfl ⟨?_, ?_⟩
    · go_simp
    · exact ((Fr.refl _ _).alloc _).setCells (by simp) _ _

theorem Tryz.hostRP (t d : Nat) (l : List RowG) (g : Int) (w : World) (hR : RowP w t d l) : Calls Tryz.prog 40 #[.pointer (some ⟨t, 0, none⟩), .int .i64 g] w fun e w' => e = .returned (.bool (hostR l g)) ∧ w = w' := by
  obtain ⟨bt, bd, ct, cd, hl, hN, hwf, hne⟩ := hR
  have ht := isB_lt bt
  cases hat : atI l g with
  | none =>
    have hn := atI_none hat
    unfold hostR; rw [hat]; simp only []
    clear hat
    go_enter Tryz.func40, Tryz.ntmps40
    go_wp2_with (go_at_call 74; refine (Tryz.rowP_no t d _ g _ (by go_simp) (by go_simp) hl hn).mono ?_; rintro e w' ⟨rfl, rfl⟩)
    go_ret
    exact ⟨rfl, rfl⟩
  | some r =>
    obtain ⟨k, rfl, hk, hlt⟩ := atI_some hat
    unfold hostR; rw [hat]; simp only []
    clear hat
    have hd := isB_lt bd
    have h0 := rowCells_get hk 0 (by omega)
    simp [RowG.cells] at h0
    by_cases hz : r.st = 0
    all_goals
      go_enter Tryz.func40, Tryz.ntmps40
      go_wp2_with (go_at_call 74; refine (Tryz.rowP_ok t d _ k _ (by go_simp) (by go_simp) hl hlt).mono ?_; rintro e w' ⟨rfl, rfl⟩)
      go_ret
      refine ⟨?_, rfl⟩
      simp [hz]

theorem Tryz.holdRP (t d : Nat) (l : List RowG) (g : Int) (w : World) (hR : RowP w t d l) : Calls Tryz.prog 152 #[.pointer (some ⟨t, 0, none⟩), .int .i64 g] w fun e w' => e = .returned (.int .i64 (holdR l g).1) ∧ Fr [d] w w' ∧ RowP w' t d (holdR l g).2 := by
  have hR' := hR
  obtain ⟨bt, bd, ct, cd, hl, hN, hwf, hne⟩ := hR
  have ht := isB_lt bt
  cases hat : atI l g with
  | none =>
    have hn := atI_none hat
    unfold holdR; rw [hat]; simp only []
    clear hat
    go_enter Tryz.func152, Tryz.ntmps152
    go_wp2_with (go_at_call 74; refine (Tryz.rowP_no t d _ g _ (by go_simp) (by go_simp) hl hn).mono ?_; rintro e w' ⟨rfl, rfl⟩)
    go_ret
    exact ⟨rfl, Fr.refl _ _, hR'⟩
  | some r =>
    obtain ⟨k, rfl, hk, hlt⟩ := atI_some hat
    unfold holdR; rw [hat]; simp only []
    clear hat
    have hd := isB_lt bd
    have h0 := rowCells_get hk 2 (by omega)
    have h2 : k * 3 + 3 ≤ (rowCells l).length := by rw [rowCells_length]; omega
    have hw := hwf r (List.mem_of_getElem? hk)
    obtain ⟨⟨s0, s1⟩, ⟨o0, o1⟩, k0, k1⟩ := hw
    simp [RowG.cells] at h0
    by_cases hz : r.hd = 2147483647
    · rw [if_pos hz]
      go_enter Tryz.func152, Tryz.ntmps152
      go_wp2_with (go_at_call 74; refine (Tryz.rowP_ok t d _ k _ (by go_simp) (by go_simp) hl hlt).mono ?_; rintro e w' ⟨rfl, rfl⟩)
      go_ret
      exact ⟨rfl, Fr.refl _ _, hR'⟩
    · have k2 : r.hd + 1 ≤ 2147483647 := by omega
      rw [if_neg hz]
      go_enter Tryz.func152, Tryz.ntmps152
      go_wp2_with (go_at_call 74; refine (Tryz.rowP_ok t d _ k _ (by go_simp) (by go_simp) hl hlt).mono ?_; rintro e w' ⟨rfl, rfl⟩)
      go_ret
      have f1 : Fr [d] w (w.setCell { block := d, off := k * 3 + 2 } (Value.int IntKind.i64 (r.hd + 1))) := (Fr.refl _ _).setCell (by simp) _
      refine ⟨rfl, f1, hR'.set f1 k _ ?_ ?_ ?_⟩
      · go_simp
      · go_simp
        rw [rowCells_set hk 2 _ (by omega)]; rfl
      · exact ⟨⟨s0, s1⟩, ⟨o0, o1⟩, by show (0:Int) ≤ r.hd + 1; omega, k2⟩

theorem Tryz.stepRP_no (t d : Nat) (l : List RowG) (g a b o : Int) (w : World) (hR : RowP w t d l) (hn : ¬ (0 ≤ g ∧ g < l.length)) : Calls Tryz.prog 143 #[.pointer (some ⟨t, 0, none⟩), .int .i64 g, .int .i64 a, .int .i64 b, .int .u64 o] w fun e w' => e = .returned (.int .i64 2) ∧ w = w' := by
  obtain ⟨bt, bd, ct, cd, hl, hN, hwf, hne⟩ := hR
  go_enter Tryz.func143, Tryz.ntmps143
  go_wp2_with (go_at_call 74; refine (Tryz.rowP_no t d _ g _ (by go_simp) (by go_simp) hl hn).mono ?_; rintro e w' ⟨rfl, rfl⟩)
  go_ret
  exact ⟨rfl, rfl⟩

theorem Tryz.stepRP (t d : Nat) (l : List RowG) (g a b o : Int) (w : World) (hR : RowP w t d l) (ha : (Lit.int .i64 a).wf = true) (hb0 : 0 ≤ b) (hb1 : b < 6) (ho0 : 0 ≤ o) (ho1 : o < 18446744073709551616) : Calls Tryz.prog 143 #[.pointer (some ⟨t, 0, none⟩), .int .i64 g, .int .i64 a, .int .i64 b, .int .u64 o] w fun e w' => e = .returned (.int .i64 (stepR l g a b o).1) ∧ Fr [d] w w' ∧ RowP w' t d (stepR l g a b o).2 := by
  have hR' := hR
  cases hat : atI l g with
  | none =>
    have hn := atI_none hat
    unfold stepR; rw [hat]; simp only []
    refine (Tryz.stepRP_no t d l g a b o w hR hn).mono ?_
    rintro e w' ⟨rfl, rfl⟩
    exact ⟨rfl, Fr.refl _ _, hR'⟩
  | some r =>
    obtain ⟨bt, bd, ct, cd, hl, hN, hwf, hne⟩ := hR
    have ht := isB_lt bt
    obtain ⟨k, rfl, hk, hlt⟩ := atI_some hat
    unfold stepR; rw [hat]; simp only []
    clear hat
    have hd := isB_lt bd
    have hwb : (Lit.int .i64 b).wf = true := WalkArith.wf_i64 (by omega)
    have h0 := rowCells_get hk 0 (by omega)
    have h1 := rowCells_get hk 2 (by omega)
    have h2 : k * 3 + 3 ≤ (rowCells l).length := by rw [rowCells_length]; omega
    have hw := hwf r (List.mem_of_getElem? hk)
    obtain ⟨⟨s0, s1⟩, ⟨o0, o1⟩, k0, k1⟩ := hw
    have h01 := rowCells_get hk 1 (by omega)
    simp [RowG.cells] at h0 h1 h01
    have fin : ∀ (w1 : World) (v : List Value) (o : Obj), Fr [] w w1 → Fr [] w ((w1.alloc o).setCells w1.heap.size 0 v) := fun w1 v o f => (f.alloc _).setCells (by have := f.size; simp; omega) _ _
    cases hs : stepK 4 a b with
    | none =>
      simp only []
      go_enter Tryz.func143, Tryz.ntmps143
      go_wp2_with (first | (go_at_call 74; refine (Tryz.rowP_ok t d _ k _ (by go_simp) (by go_simp) hl hlt).mono ?_; rintro e w' ⟨rfl, rfl⟩) | (go_at_call 201; refine (Tryz.stepsP _).mono ?_; rintro e w1 ⟨r1, rfl, hr1, hS, f⟩; have b1 := (f.blk d hd (by simp)).trans cd; have b2 := (f.isB d hd (by simp)).trans bd; have b3 := f.lt hd; have b4 := Nat.ne_of_lt b3; have q1 := hS.is; have q2 := hS.good; have q3 := hS.look a b; rw [hs] at q3; simp only [keyLt, Option.map_none, Option.map_some] at q3))
      go_ret
      exact ⟨rfl, (fin _ _ _ f).mono (by simp), hR'.fr (fin _ _ _ f) (by simp) (by simp)⟩
    | some u =>
      simp only []
      have hz : (o != 0) = decide (o ≠ 0) := by by_cases h : o = 0 <;> simp [h]
      by_cases hu : u ≠ decide (o ≠ 0)
      · rw [if_pos hu]
        have hu' : decide (o ≠ 0) = !u := by cases u <;> simpa using hu
        rw [hu'] at hz
        clear hu hu'
        go_enter Tryz.func143, Tryz.ntmps143
        go_wp2_with (first | (go_at_call 74; refine (Tryz.rowP_ok t d _ k _ (by go_simp) (by go_simp) hl hlt).mono ?_; rintro e w' ⟨rfl, rfl⟩) | (go_at_call 201; refine (Tryz.stepsP _).mono ?_; rintro e w1 ⟨r1, rfl, hr1, hS, f⟩; have b1 := (f.blk d hd (by simp)).trans cd; have b2 := (f.isB d hd (by simp)).trans bd; have b3 := f.lt hd; have b4 := Nat.ne_of_lt b3; have q1 := hS.is; have q2 := hS.good; have q3 := hS.look a b; rw [hs] at q3; simp only [keyLt, Option.map_none, Option.map_some] at q3))
        go_ret
        exact ⟨rfl, (fin _ _ _ f).mono (by simp), hR'.fr (fin _ _ _ f) (by simp) (by simp)⟩
      · rw [if_neg hu]
        have hu' : decide (o ≠ 0) = u := by cases u <;> simpa using hu
        rw [hu'] at hz
        clear hu hu'
        by_cases h7 : r.st ≠ a
        · rw [if_pos h7]
          have h8 : (r.st != a) = true := by simpa using h7
          go_enter Tryz.func143, Tryz.ntmps143
          go_wp2_with (first | (go_at_call 74; refine (Tryz.rowP_ok t d _ k _ (by go_simp) (by go_simp) hl hlt).mono ?_; rintro e w' ⟨rfl, rfl⟩) | (go_at_call 201; refine (Tryz.stepsP _).mono ?_; rintro e w1 ⟨r1, rfl, hr1, hS, f⟩; have b1 := (f.blk d hd (by simp)).trans cd; have b2 := (f.isB d hd (by simp)).trans bd; have b3 := f.lt hd; have b4 := Nat.ne_of_lt b3; have q1 := hS.is; have q2 := hS.good; have q3 := hS.look a b; rw [hs] at q3; simp only [keyLt, Option.map_none, Option.map_some] at q3))
          go_ret
          exact ⟨rfl, (fin _ _ _ f).mono (by simp), hR'.fr (fin _ _ _ f) (by simp) (by simp)⟩
        · rw [if_neg h7]
          have h7 : r.st = a := by simpa using h7
          rw [h7] at h0
          by_cases h9 : 0 < r.hd ∧ a ≠ 1
          · rw [if_pos h9]
            obtain ⟨h9, h10⟩ := h9
            have h11 : (a != 1) = true := by simpa using h10
            go_enter Tryz.func143, Tryz.ntmps143
            go_wp2_with (first | (go_at_call 74; refine (Tryz.rowP_ok t d _ k _ (by go_simp) (by go_simp) hl hlt).mono ?_; rintro e w' ⟨rfl, rfl⟩) | (go_at_call 201; refine (Tryz.stepsP _).mono ?_; rintro e w1 ⟨r1, rfl, hr1, hS, f⟩; have b1 := (f.blk d hd (by simp)).trans cd; have b2 := (f.isB d hd (by simp)).trans bd; have b3 := f.lt hd; have b4 := Nat.ne_of_lt b3; have q1 := hS.is; have q2 := hS.good; have q3 := hS.look a b; rw [hs] at q3; simp only [keyLt, Option.map_none, Option.map_some] at q3))
            go_ret
            exact ⟨rfl, (fin _ _ _ f).mono (by simp), hR'.fr (fin _ _ _ f) (by simp) (by simp)⟩
          · rw [if_neg h9]
            have goodR : RowG.wf ⟨b, o, r.hd⟩ := ⟨⟨hb0, hb1⟩, ⟨ho0, ho1⟩, k0, k1⟩
            by_cases h12 : 0 < r.hd
            · have h13 : a = 1 := Classical.byContradiction fun h => h9 ⟨h12, h⟩
              have h14 : (a != 1) = false := by simpa using h13
              clear h13 h7 h9
              go_enter Tryz.func143, Tryz.ntmps143
              go_wp2_with (first | (go_at_call 74; refine (Tryz.rowP_ok t d _ k _ (by go_simp) (by go_simp) hl hlt).mono ?_; rintro e w' ⟨rfl, rfl⟩) | (go_at_call 201; refine (Tryz.stepsP _).mono ?_; rintro e w1 ⟨r1, rfl, hr1, hS, f⟩; have b1 := (f.blk d hd (by simp)).trans cd; have b2 := (f.isB d hd (by simp)).trans bd; have b3 := f.lt hd; have b4 := Nat.ne_of_lt b3; have q1 := hS.is; have q2 := hS.good; have q3 := hS.look a b; rw [hs] at q3; simp only [keyLt, Option.map_none, Option.map_some] at q3))
              go_ret
              have f4 := (((fin _ [Value.bool u] (Obj.cells #[Value.bool false] 324) f).mono (T := [d]) (by simp)).setCell (p := ⟨d, k * 3, none⟩) (by simp) (Value.int .i64 b)).setCell (p := ⟨d, k * 3 + 1, none⟩) (by simp) (Value.int .u64 o)
              refine ⟨rfl, f4, hR'.set f4 k _ ?_ ?_ goodR⟩
              · go_simp
              · go_simp
                rw [show k * 3 = k * 3 + 0 from rfl, rowCells_set hk 0 _ (r' := ⟨b, r.ow, r.hd⟩) (by omega) rfl]
                rw [rowCells_set (r := ⟨b, r.ow, r.hd⟩) (g := k) (by simp [hlt]) 1 _ (r' := ⟨b, o, r.hd⟩) (by omega) rfl]
                simp
            · clear h7 h9
              go_enter Tryz.func143, Tryz.ntmps143
              go_wp2_with (first | (go_at_call 74; refine (Tryz.rowP_ok t d _ k _ (by go_simp) (by go_simp) hl hlt).mono ?_; rintro e w' ⟨rfl, rfl⟩) | (go_at_call 201; refine (Tryz.stepsP _).mono ?_; rintro e w1 ⟨r1, rfl, hr1, hS, f⟩; have b1 := (f.blk d hd (by simp)).trans cd; have b2 := (f.isB d hd (by simp)).trans bd; have b3 := f.lt hd; have b4 := Nat.ne_of_lt b3; have q1 := hS.is; have q2 := hS.good; have q3 := hS.look a b; rw [hs] at q3; simp only [keyLt, Option.map_none, Option.map_some] at q3))
              go_ret
              have f4 := (((fin _ [Value.bool u] (Obj.cells #[Value.bool false] 324) f).mono (T := [d]) (by simp)).setCell (p := ⟨d, k * 3, none⟩) (by simp) (Value.int .i64 b)).setCell (p := ⟨d, k * 3 + 1, none⟩) (by simp) (Value.int .u64 o)
              refine ⟨rfl, f4, hR'.set f4 k _ ?_ ?_ goodR⟩
              · go_simp
              · go_simp
                rw [show k * 3 = k * 3 + 0 from rfl, rowCells_set hk 0 _ (r' := ⟨b, r.ow, r.hd⟩) (by omega) rfl]
                rw [rowCells_set (r := ⟨b, r.ow, r.hd⟩) (g := k) (by simp [hlt]) 1 _ (r' := ⟨b, o, r.hd⟩) (by omega) rfl]
                simp
end Go.Proofs
