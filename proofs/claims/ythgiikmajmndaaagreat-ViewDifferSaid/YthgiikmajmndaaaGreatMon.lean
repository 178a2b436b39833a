/- Contracts of what makes a monitor. -/
import Derived.Test.YthgiikmajmndaaaGreatNew
import Derived.Test.YthgiikmajmndaaaGreatDiffer
import Derived.Test.YthgiikmajmndaaaGreatBld
import Derived.Deep.RegionHeld3
import Derived.WalkSpells
import Derived.Lib.SliceRun
namespace Go.Proofs
open Go Go.RowKit Anc
theorem Tryz.es54 (W : World) (a : Option Addr) (n c : Nat) : (binOp .eql 54 (.slice a n c) (.slice none 0 0)).run Tryz.prog W = .ok (.bool a.isNone) W := Lib.run_eql_slice_nil W _ _ a n c 0 0 Tryz.underlying54
theorem Tryz.es55 (W : World) (a : Option Addr) (n c : Nat) : (binOp .eql 55 (.slice a n c) (.slice none 0 0)).run Tryz.prog W = .ok (.bool a.isNone) W := Lib.run_eql_slice_nil W _ _ a n c 0 0 Tryz.underlying55
theorem Tryz.es173 (W : World) (a : Option Addr) (n c : Nat) : (binOp .eql 173 (.slice a n c) (.slice none 0 0)).run Tryz.prog W = .ok (.bool a.isNone) W := Lib.run_eql_slice_nil W _ _ a n c 0 0 Tryz.underlying173
theorem Tryz.nm172 (W : World) (m : Option Nat) : (binOp .neq 172 (.map m) (.map none)).run Tryz.prog W = .ok (.bool (!m.isNone)) W := run_neq_map_nil W _ _ _ m Tryz.underlying172
theorem Tryz.nm133 (W : World) (m : Option Nat) : (binOp .neq 133 (.map m) (.map none)).run Tryz.prog W = .ok (.bool (!m.isNone)) W := run_neq_map_nil W _ _ _ m Tryz.underlying133
theorem Tryz.nm65 (W : World) (m : Option Nat) : (binOp .neq 65 (.map m) (.map none)).run Tryz.prog W = .ok (.bool (!m.isNone)) W := run_neq_map_nil W _ _ _ m Tryz.underlying65
attribute [go_sem] Tryz.es54 Tryz.es55 Tryz.es173 Tryz.nm172 Tryz.nm133 Tryz.nm65
theorem Tryz.clone67_nil (w : World) : Calls Tryz.prog 67 #[.slice none 0 0] w fun e w' => e = .returned (.slice none 0 0) ∧ w = w' := by
  go_enter Tryz.func67, Tryz.ntmps67
  go_wp2
  go_ret
  exact ⟨rfl, rfl⟩
theorem Tryz.clone35_nil (w : World) : Calls Tryz.prog 35 #[.slice none 0 0] w fun e w' => e = .returned (.slice none 0 0) ∧ w = w' := by
  go_enter Tryz.func35, Tryz.ntmps35
  go_wp2
  go_ret
  exact ⟨rfl, rfl⟩
theorem Tryz.clone81_nil (w : World) : Calls Tryz.prog 81 #[.slice none 0 0] w fun e w' => e = .returned (.slice none 0 0) ∧ w = w' := by
  go_enter Tryz.func81, Tryz.ntmps81
  go_wp2
  go_ret
  exact ⟨rfl, rfl⟩
theorem Tryz.sT175 : StructT Tryz.prog 175 [(0, 1), (1, 32), (33, 1), (34, 1), (35, 1), (36, 1)] ([Value.bool false] ++ u8s (List.replicate 32 0) ++ [Value.slice none 0 0, Value.int .i64 0, Value.map none, Value.slice none 0 0]) :=
  ⟨_, Tryz.underlying175, by kernel_rfl, by kernel_rfl⟩
theorem Tryz.ob175 (ps : Array (Nat × Value)) : Instr.build 175 ps = buildS 175 ps := rfl
theorem Tryz.build175 (p : Bool) (D : Bytes) (a : Option Addr) (n c : Nat) (m : Option Nat) (hD : D.length = 32) (w : World) :
    (buildS 175 #[(0, .bool p), (1, .agg (u8s D).toArray), (2, .slice a n c), (4, .map m)]).run Tryz.prog w = .ok (.agg ([Value.bool p] ++ u8s D ++ [Value.slice a n c, Value.int .i64 0, Value.map m, Value.slice none 0 0]).toArray) w := by
  refine Tryz.sT175.build _ _ ?_ w
  have e : ∀ a : Array Value, (Value.agg a).cells = a := fun _ => rfl
  have e2 : ∀ a : Bool, (Value.bool a).cells = #[.bool a] := fun _ => rfl
  have hs : (Value.slice a n c).cells = #[.slice a n c] := rfl
  have hm : (Value.map m).cells = #[.map m] := rfl
  have t34 : List.take 34 (u8s D) = u8s D := List.take_of_length_le (by rw [u8s_length]; omega)
  have d33 : List.drop 33 (u8s D) = [] := List.drop_eq_nil_of_le (by rw [u8s_length]; omega)
  have d35 : List.drop 35 (u8s D) = [] := List.drop_eq_nil_of_le (by rw [u8s_length]; omega)
  simp [cellsOfParts, layL, e, e2, hs, hm, u8s_length, hD, splice, List.take_append, List.drop_append, t34, d33, d35]
attribute [go_sem ↓] Tryz.ob175
attribute [go_sem] Tryz.build175
set_option maxRecDepth 100000 in
theorem Tryz.newO32 (ideal : Bool) (D : Bytes) (w : World) (hD : D.length = 32) : Calls Tryz.prog 32 #[.bool ideal, .agg (u8s D).toArray, .slice none 0 0] w fun e w' => ∃ o, e = .returned (.pointer (some ⟨o, 0, none⟩)) ∧ w.heap.size ≤ o ∧ FreshO w' o ideal ∧ Fr [] w w' := by
  have hmm := @run_makeMap Tryz.prog
  have hu := Tryz.underlying36
  have hi : (Tryz.prog.info? 36).map (·.size) = some (u8s D).length := by rw [u8s_length, hD]; kernel_rfl
  go_enter Tryz.func32, Tryz.ntmps32
  go_wp2
  go_region_held3 (fun W => W.rangeAt w.heap.size 0 (u8s D) ∧ w.heap.size < W.heap.size) (first | exact ⟨range_blk (by go_simp) (by go_simp), by go_simp⟩ | exact ⟨World.rangeAt_alloc (by assumption) _, by go_simp⟩) ((go_at_call 67; refine (Tryz.clone67_nil _).mono ?_; rintro e w' ⟨rfl, rfl⟩))
  all_goals
    go_wp2
    go_ret
    refine ⟨_, rfl, by simp, ⟨by go_simp, D, _, by go_simp; rfl, hD, by go_simp, by go_simp⟩, ?_⟩
    exact (((((Fr.refl [] w).alloc _).drew).alloc _).alloc _)
theorem Tryz.there80 (o m : Nat) (w : World) (hB : isB w o = true) (h : (blk w o)[35]? = some (.map (some m))) : Calls Tryz.prog 80 #[.pointer (some ⟨o, 0, none⟩)] w fun e w' => e = .returned (.bool true) ∧ w = w' := by
  go_enter Tryz.func80, Tryz.ntmps80
  go_wp2
  go_ret
  exact ⟨rfl, rfl⟩
set_option maxRecDepth 100000 in
theorem Tryz.copy44 (o : Nat) (i : Bool) (w : World) (h : FreshO w o i) : Calls Tryz.prog 44 #[.pointer (some ⟨o, 0, none⟩)] w fun e w' => ∃ o', e = .returned (.pointer (some ⟨o', 0, none⟩)) ∧ Fr [] w w' := by
  obtain ⟨hB, D, r, hb, hD, hr, he⟩ := h
  have hol := isB_lt hB
  have c80 := Tryz.there80 o r w hB (by rw [hb]; simp [u8s_length, hD])
  have c32 := fun (W : World) => Tryz.newO32 i D W hD
  obtain ⟨d0, d1, d2, d3, d4, d5, d6, d7, d8, d9, d10, d11, d12, d13, d14, d15, d16, d17, d18, d19, d20, d21, d22, d23, d24, d25, d26, d27, d28, d29, d30, d31, rfl⟩ := len32 hD
  simp only [u8s, List.map_cons, List.map_nil, List.cons_append, List.nil_append] at hb c32
  clear hD
  have c32' := Lib.hid c32
  clear c32
  go_enter Tryz.func44, Tryz.ntmps44
  go_wp2_with (go_at_call 80; refine c80.mono ?_; rintro e w' ⟨rfl, rfl⟩)
  clear c80
  refine wp_region_still_tail 12 (by kernel_rfl) (by kernel_rfl) ?_
  simp only [List.take_succ_cons, List.take_zero, List.drop_succ_cons, List.drop_zero]
  change wpStill _ _ (World.drew _) _ _ _
  repeat still_step
  refine wpStill_nil ?_
  change wpList _ _ _ _ _ (World.drew _)
  go_wp2_with (go_at_call 32; refine (c32'.out _).mono ?_; rintro e w1 ⟨o', rfl, ho', hF, f⟩)
  obtain ⟨hB', D', r', hb', hD', hr', he'⟩ := hF
  obtain ⟨e0, e1, e2, e3, e4, e5, e6, e7, e8, e9, e10, e11, e12, e13, e14, e15, e16, e17, e18, e19, e20, e21, e22, e23, e24, e25, e26, e27, e28, e29, e30, e31, rfl⟩ := len32 hD'
  simp only [u8s, List.map_cons, List.map_nil, List.cons_append, List.nil_append] at hb'
  have hol' := isB_lt hB'
  have hne : o ≠ o' := by simp at ho'; omega
  have hBo : isB w1 o = true := (f.isB o (by simpa using hol) (by simp)).trans hB
  have hbo : blk w1 o = _ := (f.blk o (by simpa using hol) (by simp)).trans hb
  clear hb hB hr he hr' he' c32' hD'
  have k1 : w1.cell? ⟨o, 34, none⟩ = some (.int .i64 0) := by rw [cell_blk hBo, hbo]; rfl
  have k2 : w1.cell? ⟨o, 36, none⟩ = some (.slice none 0 0) := by rw [cell_blk hBo, hbo]; rfl
  have k3 : (blk w1 o').length = 37 := by rw [hb']; rfl
  clear hBo hbo hb'
  go_region_held3 (fun W => W.cell? ⟨o, 34, none⟩ = some (.int .i64 0) ∧ W.cell? ⟨o, 36, none⟩ = some (.slice none 0 0) ∧ isB W o' = true ∧ (blk W o').length = 37) (go_simp) ((go_at_call 81; refine (Tryz.clone81_nil _).mono ?_; rintro e w' ⟨rfl, rfl⟩))
  go_wp2
  have g : Fr [] w (((w1.setCell ⟨o', 34, none⟩ (.int .i64 0)).setCell ⟨o', 36, none⟩ (.slice none 0 0)).drew) :=
    (Fr.setCell (Fr.setCell ((Fr.refl [] w).drew.trans' f) (p := ⟨o', 34, none⟩) (by simp at ho' ⊢; omega) _) (p := ⟨o', 36, none⟩) (by simp at ho' ⊢; omega) _).drew
  go_loopw [42] (fun i wr => i = .int .i64 0 ∧ Fr [] w wr) (fun i _ => 0)
  case atStart => exact ⟨rfl, g⟩
  case round =>
    obtain ⟨rfl, f2⟩ := hrel
    go_wp2
    go_ret
    exact ⟨_, rfl, f2⟩
end Go.Proofs
