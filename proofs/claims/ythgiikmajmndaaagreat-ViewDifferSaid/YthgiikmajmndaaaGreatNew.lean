/- Contracts of what makes the program's memory, rows, tables. -/
import Derived.Test.YthgiikmajmndaaaGreatRow2
import Derived.Test.YthgiikmajmndaaaGreatWire
import Derived.Laws.MakeOwn
namespace Anc
open Go Go.RowKit Go.Instr
theorem flat_get {α : Type} (L : List α) (hk : 0 < L.length) : ∀ N i, i < N * L.length → (List.replicate N L).flatten[i]? = L[i % L.length]?
  | 0, i, h => by omega
  | N + 1, i, h => by
    rw [List.replicate_succ, List.flatten_cons]
    by_cases hi : i < L.length
    · rw [List.getElem?_append_left hi, Nat.mod_eq_of_lt hi]
    · have h2 : i - L.length < N * L.length := by rw [Nat.succ_mul] at h; omega
      rw [List.getElem?_append_right (by omega), flat_get L hk N _ h2, ← Nat.mod_eq_sub_mod (by omega)]
theorem made_list (L : List Value) (hk : 0 < L.length) (N : Nat) : madeCells L.toArray (N * L.length) = ((List.replicate N L).flatten).toArray := by
  apply Array.ext'
  apply List.ext_getElem?
  intro i
  by_cases hi : i < N * L.length
  · have hm : i % L.length < L.length := Nat.mod_lt _ hk
    rw [flat_get L hk N i hi]
    simp [madeCells, hi, hm]
  · rw [List.getElem?_eq_none (by simp [madeCells]; omega), List.getElem?_eq_none (by simp; omega)]
theorem flat_u8s (N k : Nat) : (List.replicate N (u8s (List.replicate k 0))).flatten = u8s (List.replicate (N * k) 0) := by
  induction N with
  | zero => simp [u8s]
  | succ n ih => rw [List.replicate_succ, List.flatten_cons, ih, Nat.succ_mul, Nat.add_comm, ← List.replicate_append_replicate]; simp only [u8s, List.map_append]
theorem flat_rows (N : Nat) (r : RowG) : (List.replicate N r.cells).flatten = rowCells (List.replicate N r) := by
  simp [rowCells, List.flatMap]
end Anc
namespace Go.Proofs
open Go Go.RowKit Anc
theorem Tryz.info30 : (Tryz.prog.info? 30).map (fun i => (i.zero, i.size, i.bytes)) = some (some (.agg Tryz.zeroCells30), 128, 128) := by kernel_rfl
theorem Tryz.info155 : (Tryz.prog.info? 155).map (fun i => (i.zero, i.size, i.bytes)) = some (some (.agg #[.int .i64 0, .int .u64 0, .int .i64 0]), 3, 24) := by kernel_rfl
theorem Tryz.mk24 (N : Nat) (hN : N ≤ 4096) (w : World) : (Instr.makeSlice 24 (.int .i64 N) (.int .i64 N)).run Tryz.prog w =
    .ok (.slice (some ⟨w.heap.size, 0, none⟩) N N) (w.alloc (.cells (u8s (List.replicate (N * 128) 0)).toArray 30)) := by
  obtain ⟨i, hi, hz, hs, hb⟩ := info_parts Tryz.info30
  rw [run_makeSlice w 24 30 i _ Tryz.underlying24 hi hz .i64 .i64 N N (by omega) (by omega) (by rw [hs]; omega) (by rw [hb]; omega) (by omega), hs, Tryz.z30]
  have e := made_list (u8s (List.replicate 128 0)) (by rw [u8s_length, List.length_replicate]; omega) N
  rw [u8s_length, List.length_replicate, flat_u8s] at e
  simp only [Value.cells, Int.toNat_natCast]
  rw [e]
theorem Tryz.mk168 (N : Nat) (hN : N ≤ 4096) (w : World) : (Instr.makeSlice 168 (.int .i64 N) (.int .i64 N)).run Tryz.prog w =
    .ok (.slice (some ⟨w.heap.size, 0, none⟩) N N) (w.alloc (.cells (rowCells (List.replicate N ⟨0, 0, 0⟩)).toArray 155)) := by
  obtain ⟨i, hi, hz, hs, hb⟩ := info_parts Tryz.info155
  rw [run_makeSlice w 168 155 i _ Tryz.underlying168 hi hz .i64 .i64 N N (by omega) (by omega) (by rw [hs]; omega) (by rw [hb]; omega) (by omega), hs]
  have e := made_list (RowG.cells ⟨0, 0, 0⟩) (by simp [RowG.cells]) N
  rw [flat_rows] at e
  simp only [Value.cells, Int.toNat_natCast]
  have e3 : (RowG.cells ⟨0, 0, 0⟩).length = 3 := rfl
  rw [e3] at e
  rw [show (#[Value.int .i64 0, .int .u64 0, .int .i64 0] : Array Value) = (RowG.cells ⟨0, 0, 0⟩).toArray from rfl, e]
theorem Tryz.newMemP (N : Nat) (h1 : 1 ≤ N) (hN : N ≤ 4096) (w : World) : Calls Tryz.prog 30 #[.int .i64 N] w fun e w' => e = .returned (.tuple #[.pointer (some ⟨w.heap.size + 1, 0, none⟩), .int .i64 0]) ∧ MemP w' (w.heap.size + 1) w.heap.size N (List.replicate (N * 128) 0) ∧ Fr [] w w' := by
  have hmk := Tryz.mk24 N hN
  have c1 : (1 : Int) ≤ N := by omega
  have c2 : (N : Int) ≤ 4096 := by omega
  go_enter Tryz.func30, Tryz.ntmps30
  go_wp2
  go_ret2
  refine ⟨rfl, ⟨?_, ?_, ?_, ?_, ?_, h1, hN, ?_, by omega⟩, ((Fr.refl _ _).alloc _).alloc _⟩
  · go_simp
  · go_simp
  · go_simp
  · go_simp
  · simp; omega
  · intro x hx
    simp at hx
    omega
theorem Tryz.newRowsP (N : Nat) (h1 : 1 ≤ N) (hN : N ≤ 4096) (w : World) : Calls Tryz.prog 31 #[.int .i64 N] w fun e w' => e = .returned (.tuple #[.pointer (some ⟨w.heap.size + 1, 0, none⟩), .int .i64 0]) ∧ RowP w' (w.heap.size + 1) w.heap.size (List.replicate N ⟨0, 0, 0⟩) ∧ Fr [] w w' := by
  have hmk := Tryz.mk168 N hN
  have c1 : (1 : Int) ≤ N := by omega
  have c2 : (N : Int) ≤ 4096 := by omega
  go_enter Tryz.func31, Tryz.ntmps31
  go_wp2
  go_ret2
  refine ⟨rfl, ⟨?_, ?_, ?_, ?_, ?_, ?_, ?_, by omega⟩, ((Fr.refl _ _).alloc _).alloc _⟩
  · go_simp
  · go_simp
  · go_simp
  · go_simp
  · simp; omega
  · simpa using hN
  · intro r hr
    obtain ⟨_, rfl⟩ := List.mem_replicate.mp hr
    exact ⟨by decide, by decide, by decide⟩
theorem Tryz.newTabP (m t : Nat) (w : World) : Calls Tryz.prog 33 #[.pointer (some ⟨m, 0, none⟩), .pointer (some ⟨t, 0, none⟩)] w fun e w' => e = .returned (.pointer (some ⟨w.heap.size, 0, none⟩)) ∧ isB w' w.heap.size = true ∧ blk w' w.heap.size = [.pointer (some ⟨m, 0, none⟩), .pointer (some ⟨t, 0, none⟩)] ∧ Fr [] w w' := by
  go_enter Tryz.func33, Tryz.ntmps33
  go_wp2
  go_ret
  exact ⟨rfl, by go_simp, by go_simp, (Fr.refl _ _).alloc _⟩
theorem Tryz.newMemP_no (n : Int) (h : n < 1 ∨ 4096 < n) (w : World) : Calls Tryz.prog 30 #[.int .i64 n] w fun e w' => e = .returned (.tuple #[.pointer none, .int .i64 2]) ∧ w = w' := by
  go_enter Tryz.func30, Tryz.ntmps30
  go_wp2
  all_goals
    go_ret2
    exact ⟨rfl, rfl⟩
theorem Tryz.newRowsP_no (n : Int) (h : n < 1 ∨ 4096 < n) (w : World) : Calls Tryz.prog 31 #[.int .i64 n] w fun e w' => e = .returned (.tuple #[.pointer none, .int .i64 2]) ∧ w = w' := by
  go_enter Tryz.func31, Tryz.ntmps31
  go_wp2
  all_goals
    go_ret2
    exact ⟨rfl, rfl⟩
end Go.Proofs
