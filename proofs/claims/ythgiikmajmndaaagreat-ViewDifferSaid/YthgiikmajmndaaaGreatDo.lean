/- A word that the host stores: (*Monitor).Do at StepStore. Conditions: a word of the host's. -/
import Derived.Test.YthgiikmajmndaaaGreatHost3
set_option linter.unusedSimpArgs false
set_option linter.unusedVariables false
namespace Go.Proofs
open Go Go.RowKit Anc
/-- a number of bytes -/
theorem Tryz.get121 (b o c : Nat) (l : Bytes) (w : World) (hB : isB w b = true) (hl : l.length = 8) (hc : sub (blk w b) o 8 = u8s l) (ho : o + 8 ≤ (blk w b).length) (_hall : AllB l) :
    Calls Tryz.prog 121 #[.slice (some ⟨b, o, none⟩) 8 c] w fun e w' => (∃ x : Int, e = .returned (.int .u64 x)) ∧ w = w' := by
  have hg : ∀ k, k < 8 → (blk w b)[o + k]? = some (.int .u8 (l.getD k 0)) := by
    intro k hk
    have h1 : (sub (blk w b) o 8)[k]? = (blk w b)[o + k]? := by simp [sub, hk]
    rw [← h1, hc, u8s_get]
    simp [hl, hk]
  have hg' := Lib.hid hg
  clear hg hc
  go_enter Tryz.func121, Tryz.ntmps121
  go_wp2
  go_loopw [3, 8] (fun n i wr => ∃ k : Nat, k ≤ 8 ∧ i = .int .i64 k ∧ (∃ y : Int, n = .int .u64 y) ∧ wr = w) (fun _ i _ => 8 - (intOf i).toNat)
  case atStart => exact ⟨0, by omega, rfl, ⟨0, rfl⟩, rfl⟩
  case round =>
    obtain ⟨k, hk, rfl, ⟨y, rfl⟩, rfl⟩ := hrel
    by_cases hlt : k < 8
    · have hc1 := hg'.out k hlt
      generalize l.getD k 0 = z at hc1
      have k1 : (k : Int) < 8 := by omega
      have k2 : (0 : Int) ≤ k := by omega
      have k3 : (0 : Int) ≤ 8 * k := by omega
      have k4 : (8 : Int) * k < 64 := by omega
      go_wp2
      go_roundw
      case rel => exact ⟨k + 1, by omega, by go_num, ⟨_, rfl⟩, trivial⟩
      case measure => simp [intOf]; omega
    · have e : k = 8 := by omega
      subst e
      go_wp2
      go_ret
      exact ⟨⟨_, rfl⟩, rfl⟩
theorem Tryz.word73 (b o c : Nat) (l : Bytes) (w : World) (hB : isB w b = true) (hl : l.length = 8) (hc : sub (blk w b) o 8 = u8s l) (ho : o + 8 ≤ (blk w b).length) (hall : AllB l) (h8 : 8 ≤ c) :
    Calls Tryz.prog 73 #[.slice (some ⟨b, o, none⟩) 8 c, .int .i64 0] w fun e w' => (∃ x : Int, e = .returned (.int .u64 x)) ∧ w = w' := by
  go_enter Tryz.func73, Tryz.ntmps73
  go_wp2_with (go_at_call 121; refine (Tryz.get121 b o c l _ hB hl hc ho hall).mono ?_; rintro e w' ⟨⟨x, rfl⟩, rfl⟩)
  go_ret
  exact ⟨⟨_, rfl⟩, rfl⟩
theorem Tryz.wordR39 (m d N : Nat) (mem : Bytes) (addr : Int) (w : World) (hM : MemP w m d N mem) (ha : 0 ≤ addr) (ha2 : addr < 18446744073709551616) (h8 : addr % 8 = 0) (hi : addr + 8 ≤ N * 128) :
    Calls Tryz.prog 39 #[.pointer (some ⟨m, 0, none⟩), .int .u64 addr] w fun e w' => (∃ x : Int, e = .returned (.tuple #[.int .u64 x, .int .i64 0])) ∧ w = w' := by
  have hl := hM.len
  have hb1 : addr.toNat + 8 ≤ mem.length := by omega
  go_enter Tryz.func39, Tryz.ntmps39
  go_wp2_with (first
    | (go_at_call 73; refine (Tryz.word73 d addr.toNat _ (sub mem addr.toNat 8) _ hM.bd (sub_length hb1) (by rw [hM.cd, sub_u8s]) (by rw [hM.cd, u8s_length]; exact hb1) (AllB.sub hM.bytes _ _) (by omega)).mono ?_; rintro e w' ⟨⟨x, rfl⟩, rfl⟩)
    | (go_at_call 72; refine (Tryz.wordP m d N mem addr _ hM ha ha2 h8 hi).mono ?_; rintro e w' ⟨rfl, rfl⟩))
  go_ret2
  exact ⟨⟨_, rfl⟩, rfl⟩
theorem _root_.Anc.hostR_lt {l : List RowG} {g : Int} (h : hostR l g = true) : 0 ≤ g ∧ g < l.length := by
  unfold hostR at h
  cases ha : atI l g with
  | none => rw [ha] at h; cases h
  | some r =>
    obtain ⟨k, rfl, _, hk⟩ := atI_some ha
    omega
set_option maxRecDepth 100000 in
set_option maxHeartbeats 1000000 in
theorem Tryz.doStore12 (p m d N : Nat) (mem : Bytes) (t e : Nat) (l : List RowG) (addr x : Int) (w : World) (h : MonP w p m d N mem t e l) (ha : 0 ≤ addr) (ha2 : addr < 18446744073709551616) (h8 : addr % 8 = 0) (hi : addr + 8 ≤ N * 128) (hx : 0 ≤ x) (hx2 : x < 18446744073709551616)
    (hh : hostR l (addr / 128) = true) :
    Calls Tryz.prog 12 #[.pointer (some ⟨p, 0, none⟩), .agg #[.int .i64 3, .int .i64 0, .int .u64 0, .int .u64 0, .int .u64 0, .int .u64 0, .int .u64 0, .int .u64 0, .int .u64 addr, .int .u64 x, .slice none 0 0]] w
      fun e' w' => e' = .returned (.agg #[.int .i64 0, .int .u64 0, .int .u64 0, .int .u64 0, .int .u64 0, .int .u64 0, .bool true, .int .u64 0]) ∧ MonP w' p m d N (splice mem addr.toNat (le8 x)) t e l ∧ Fr [p, d] w w' := by
  have hM := h.mp
  have hR := h.rp
  have hap := h.apart
  have hnl := h.nl
  have h37 := fun W (f : Fr [] w W) => Tryz.there37 p m d N mem t e l W (h.fr0 f)
  have h37' := Lib.hid h37
  obtain ⟨bp, ⟨o, x', r, q, en, us, ins, rel, cp⟩, _, _, _, _⟩ := h
  have pl := isB_lt bp
  have hnl' := Lib.hid hnl
  obtain ⟨hapm, hapd, hapt, hape, ha5, ha6, ha7, ha8⟩ := hap
  clear h37 hnl
  go_enter Tryz.func12, Tryz.ntmps12
  go_wp2_with (first
    | (go_at_call 37; refine (h37'.out _ (((Fr.refl [] w).alloc _).alloc _)).mono ?_; rintro e w' ⟨rfl, rfl⟩)
    | (go_at_call 38; refine (Tryz.ofP addr _ ha ha2).mono ?_; rintro e w' ⟨rfl, rfl⟩))
  have hX : ∀ V, V = (((w.setCell ⟨p, 8, none⟩ (.int .u64 0)).setCell ⟨p, 9, none⟩ (.slice none 0 0)).alloc (.cells #[.int .i64 3, .int .i64 0, .int .u64 0, .int .u64 0, .int .u64 0, .int .u64 0, .int .u64 0, .int .u64 0, .int .u64 addr, .int .u64 x, .slice none 0 0] 49)).alloc (.cells #[.int .i64 0, .int .u64 0, .int .u64 0, .int .u64 0, .int .u64 0, .int .u64 0, .bool false, .int .u64 0] 73) →
      Fr [p] w V ∧ isB V p = true ∧ blk V p = [.pointer (some ⟨o, 0, none⟩), .pointer (some ⟨m, 0, none⟩), .pointer (some ⟨t, 0, none⟩), .pointer (some ⟨x', 0, none⟩), .pointer (some ⟨r, 0, none⟩), .map (some q), en, us, .int .u64 0, .slice none 0 0] ∧ MemP V m d N mem ∧ RowP V t e l ∧
      isB V w.heap.size = true ∧ blk V w.heap.size = [.int .i64 3, .int .i64 0, .int .u64 0, .int .u64 0, .int .u64 0, .int .u64 0, .int .u64 0, .int .u64 0, .int .u64 addr, .int .u64 x, .slice none 0 0] ∧ isB V (w.heap.size + 1) = true ∧ blk V (w.heap.size + 1) = [.int .i64 0, .int .u64 0, .int .u64 0, .int .u64 0, .int .u64 0, .int .u64 0, .bool false, .int .u64 0] ∧ w.heap.size + 1 < V.heap.size := by
    rintro V rfl
    have f : Fr [p] w ((((w.setCell ⟨p, 8, none⟩ (.int .u64 0)).setCell ⟨p, 9, none⟩ (.slice none 0 0)).alloc (.cells #[.int .i64 3, .int .i64 0, .int .u64 0, .int .u64 0, .int .u64 0, .int .u64 0, .int .u64 0, .int .u64 0, .int .u64 addr, .int .u64 x, .slice none 0 0] 49)).alloc (.cells #[.int .i64 0, .int .u64 0, .int .u64 0, .int .u64 0, .int .u64 0, .int .u64 0, .bool false, .int .u64 0] 73)) :=
      (((((Fr.refl _ _).setCell (p := ⟨p, 8, none⟩) (by simp) _).setCell (p := ⟨p, 9, none⟩) (by simp) _).alloc _).alloc _)
    refine ⟨f, by go_simp, by go_simp, hM.fr f (by simp; exact (Ne.symm hapm)) (by simp; exact (Ne.symm hapd)), hR.fr f (by simp; exact (Ne.symm hapt)) (by simp; exact (Ne.symm hape)), by go_simp, by go_simp, by go_simp, by go_simp, by go_simp⟩
  refine wp_world (fun V => Fr [p] w V ∧ isB V p = true ∧ blk V p = [.pointer (some ⟨o, 0, none⟩), .pointer (some ⟨m, 0, none⟩), .pointer (some ⟨t, 0, none⟩), .pointer (some ⟨x', 0, none⟩), .pointer (some ⟨r, 0, none⟩), .map (some q), en, us, .int .u64 0, .slice none 0 0] ∧ MemP V m d N mem ∧ RowP V t e l ∧
      isB V w.heap.size = true ∧ blk V w.heap.size = [.int .i64 3, .int .i64 0, .int .u64 0, .int .u64 0, .int .u64 0, .int .u64 0, .int .u64 0, .int .u64 0, .int .u64 addr, .int .u64 x, .slice none 0 0] ∧ isB V (w.heap.size + 1) = true ∧ blk V (w.heap.size + 1) = [.int .i64 0, .int .u64 0, .int .u64 0, .int .u64 0, .int .u64 0, .int .u64 0, .bool false, .int .u64 0] ∧ w.heap.size + 1 < V.heap.size) (hX _ rfl) ?_
  clear hX
  rintro V ⟨f, v1, v2, v3, v4, v5, v6, v7, v8, v9⟩
  have pV := isB_lt v1
  have hS : ∀ W, Fr [] V W → (isB W p = true ∧ blk W p = [.pointer (some ⟨o, 0, none⟩), .pointer (some ⟨m, 0, none⟩), .pointer (some ⟨t, 0, none⟩), .pointer (some ⟨x', 0, none⟩), .pointer (some ⟨r, 0, none⟩), .map (some q), en, us, .int .u64 0, .slice none 0 0] ∧ isB W w.heap.size = true ∧ blk W w.heap.size = [.int .i64 3, .int .i64 0, .int .u64 0, .int .u64 0, .int .u64 0, .int .u64 0, .int .u64 0, .int .u64 0, .int .u64 addr, .int .u64 x, .slice none 0 0] ∧ Fr [] V W) := fun W g =>
    ⟨(g.isB _ pV (by simp)).trans v1, (g.blk _ pV (by simp)).trans v2, (g.isB _ (isB_lt v5) (by simp)).trans v5, (g.blk _ (isB_lt v5) (by simp)).trans v6, g⟩
  have hS' := Lib.hid hS
  clear hS
  go_region_held3 (fun W => isB W p = true ∧ blk W p = [.pointer (some ⟨o, 0, none⟩), .pointer (some ⟨m, 0, none⟩), .pointer (some ⟨t, 0, none⟩), .pointer (some ⟨x', 0, none⟩), .pointer (some ⟨r, 0, none⟩), .map (some q), en, us, .int .u64 0, .slice none 0 0] ∧ isB W w.heap.size = true ∧ blk W w.heap.size = [.int .i64 3, .int .i64 0, .int .u64 0, .int .u64 0, .int .u64 0, .int .u64 0, .int .u64 0, .int .u64 0, .int .u64 addr, .int .u64 x, .slice none 0 0] ∧ Fr [] V W)
    (first | with_reducible exact hS'.out _ (Fr.drew (Fr.refl _ _)) | assumption) (first | (go_at_call 39; refine (Tryz.wordR39 m d N mem addr _ (v3.fr0 (Fr.drew (Fr.refl _ _))) ha ha2 h8 hi).mono ?_; rintro e w' ⟨⟨xx, rfl⟩, rfl⟩))
  go_wp2_with (go_at_call 40; refine (Tryz.hostRP t e l (addr / 128) _ (v4.fr0 (Fr.drew (Fr.refl _ _)))).mono ?_; rw [hh]; rintro e w' ⟨rfl, rfl⟩)
  refine wp_region_still_tail 9 (by kernel_rfl) (by kernel_rfl) ?_
  simp only [List.take_succ_cons, List.take_zero, List.drop_succ_cons, List.drop_zero]
  change wpStill _ _ (World.drew _) _ _ _
  repeat still_step
  refine wpStill_nil ?_
  change wpList _ _ _ _ _ (World.drew _)
  go_wp2_with fail
  refine (Tryz.setWordP m d N mem addr x _ ((v3.fr0 (Fr.drew (Fr.refl _ _))).fr0 (Fr.drew (Fr.refl _ _))) ha ha2 h8 hi hx hx2).mono ?_
  rintro e9 w9 ⟨rfl, f9, b9, c9⟩
  have z9 := f9.size
  simp at z9
  obtain ⟨k1, k2, k3, k4⟩ := keep4 f9 (b := w.heap.size + 1) (by go_simp) (by simp; have := isB_lt hM.bd; omega) (by go_simp; rfl)
  obtain ⟨l1, l2, l3, l4⟩ := keep4 f9 (b := p) (by go_simp) (by simp; exact hapd) (by go_simp; rfl)
  go_wp2
  refine bodyPost_ret (results_c Tryz.agg73 rfl rfl (by go_simp) (by go_simp)) rfl ⟨?_, ?_, ?_⟩
  · go_simp
  · have hm1 := isB_lt hM.bm
    have hm2 := isB_lt hM.bd
    have hm3 := isB_lt hR.bt
    have hm4 := isB_lt hR.bd
    have hl := hM.len
    have M9 := ((v3.fr0 (Fr.drew (Fr.refl _ _))).fr0 (Fr.drew (Fr.refl _ _))).splice f9 (by simp; exact hM.ne) b9 addr.toNat c9 (by rw [le8_length]; omega) (le8_bytes x)
    have R9 := ((v4.fr0 (Fr.drew (Fr.refl _ _))).fr0 (Fr.drew (Fr.refl _ _))).fr f9 (by simp; exact Ne.symm ha7) (by simp; exact Ne.symm ha8)
    have fl : ∀ c, Fr [w.heap.size + 1] w9 (w9.setCells (w.heap.size + 1) 0 c) := fun c => (Fr.refl _ _).setCells (by simp) _ _
    refine ⟨by go_simp, ⟨o, x', r, q, en, us, .int .u64 0, .slice none 0 0, ?_⟩, M9.fr (fl _) (by simp; omega) (by simp; omega), R9.fr (fl _) (by simp; omega) (by simp; omega), hnl'.out, hapm, hapd, hapt, hape, ha5, ha6, ha7, ha8⟩
    rw [((fl _).blk p l3 (by simp; omega)), l2]
  · have fz := ((f.mono (T := [p, d]) (by simp)).drew.drew).trans' (f9.mono (T := [p, d]) (by simp))
    exact fz.setCells (by omega) _ _
end Go.Proofs
