/- Contracts of wire.Put at eight bytes. Conditions: the number fits. -/
import Derived.Test.YthgiikmajmndaaaGreatKit
import Derived.Maps.AppendAt
set_option linter.unusedSimpArgs false
set_option linter.unusedVariables false
namespace Anc
open Go Go.RowKit
/-- eight bytes of a number, the lowest first -/
def le8 (n : Int) : Bytes := [n % 256, n / 256 % 256, n / 65536 % 256, n / 16777216 % 256, n / 4294967296 % 256, n / 1099511627776 % 256, n / 281474976710656 % 256, n / 72057594037927936 % 256]
theorem le8_length (n : Int) : (le8 n).length = 8 := rfl
theorem sub_app {α : Type} {l r : List α} {n : Nat} (h : l.length = n) : sub (l ++ r) 0 n = l := by subst h; simp [sub]
attribute [go_sem] le8_length sub_app
theorem le8_bytes (n : Int) : AllB (le8 n) := by
  intro x hx
  simp only [le8, List.mem_cons, List.not_mem_nil, or_false] at hx
  omega
/-- v is a slice of the bytes l -/
def ByAt (w : World) (v : Value) (l : Bytes) : Prop :=
  (l = [] ∧ ∃ a cap, v = .slice a 0 cap) ∨
  ∃ b o cap, v = .slice (some ⟨b, o, none⟩) l.length cap ∧ l.length ≤ cap ∧ isB w b = true ∧ o + cap ≤ (blk w b).length ∧ sub (blk w b) o l.length = u8s l
/-- v is a slice of the bytes l, in a block of its own, from block B on -/
def NewBy (B : Nat) (w : World) (v : Value) (l : Bytes) : Prop :=
  ∃ b rest, v = .slice (some ⟨b, 0, none⟩) l.length (l.length + rest.length) ∧ B ≤ b ∧ isB w b = true ∧ blk w b = u8s l ++ rest
theorem le8_get (k : Nat) (hk : k < 8) (n : Int) : (le8 n)[k]? = some (n / 2 ^ (8 * k) % 256) := by
  match k, hk with
  | 0, _ => simp [le8]
  | 1, _ => rfl
  | 2, _ => rfl
  | 3, _ => rfl
  | 4, _ => rfl
  | 5, _ => rfl
  | 6, _ => rfl
  | 7, _ => rfl
theorem le8_take (k : Nat) (hk : k < 8) (n : Int) : u8s ((le8 n).take (k + 1)) = u8s ((le8 n).take k) ++ [.int .u8 (n / 2 ^ (8 * k) % 256)] := by
  rw [List.take_add_one, le8_get k hk]; simp [u8s]
theorem one_int (k : IntKind) (x : Int) : ∀ u, u ∈ [Value.int k x] → u.oneCell' = true := by
  intro u hu; simp at hu; subst hu; rfl
theorem le_alloc {w : World} {n : Nat} (o : Obj) (h : n ≤ w.heap.size) : n ≤ (w.alloc o).heap.size := by simp; omega
/-- what an owned row of bytes is, read off -/
theorem newBy_of_owns {w : World} {B e : Nat} {v : Value} {l : Bytes} (h : w.ownsRow B e 1 v l.length (u8s l)) (h0 : 0 < l.length) : NewBy B w v l := by
  obtain ⟨_, ⟨_, hn⟩ | ⟨g, cap, cur, rfl, hb, hg, hc, _, hs, ht⟩⟩ := h
  · omega
  · refine ⟨g, cur.toList.drop l.length, ?_, hb, isB_mk hg, ?_⟩
    · have : l.length + (cur.toList.drop l.length).length = cap := by simp [hs]; omega
      rw [this]
    · rw [blk_mk hg]
      rw [Nat.mul_one] at ht
      rw [← ht, List.take_append_drop]
theorem Fr.grown {w w' : World} {S : List Nat} {a : World} {row : Option Nat} (h : Fr S a w) (hg : w.grownBy w' row) (hr : ∀ k, row = some k → k < a.heap.size → k ∈ S) : Fr S a w' :=
  ⟨hg.os.trans h.os, hg.tape.trans h.tape, hg.output.trans h.output, Nat.le_trans h.size hg.size, fun k hk hn =>
    (hg.block k (Nat.lt_of_lt_of_le hk h.size) (fun e => hn (hr k e.symm hk))).trans (h.block k hk hn)⟩
end Anc
namespace Go.Proofs
open Go Go.RowKit Anc
theorem Tryz.info5 : (Tryz.prog.info? 5).map (fun i => (i.zero, i.size, i.bytes)) = some (some (.int .u8 0), 1, 1) := by kernel_rfl
set_option maxRecDepth 100000 in
theorem Tryz.put8 (n : Int) (w : World) (h0 : 0 ≤ n) (h1 : n < 18446744073709551616) :
    Calls Tryz.prog 75 #[.int .u64 n, .int .i64 8] w fun e w' => ∃ v, e = .returned (.tuple #[v, .int .i64 0]) ∧ NewBy w.heap.size w' v (le8 n) ∧ Fr [] w w' := by
  obtain ⟨i0, hi, hz0, hz1, hz2⟩ := info_parts Tryz.info5
  go_enter Tryz.func75, Tryz.ntmps75
  go_wp2
  go_loopw [6, 26] (fun v i wr => ∃ k : Nat, k ≤ 8 ∧ i = .int .i64 k ∧ wr.ownsRow w.heap.size 5 1 v k (u8s ((le8 n).take k)) ∧ Fr [] w wr) (fun _ i _ => 8 - (intOf i).toNat)
  case atStart => exact ⟨0, by omega, rfl, World.ownsRow_nil _ _ _ _, Fr.refl _ _⟩
  case round =>
    obtain ⟨k, hk, rfl, hown, hf⟩ := hrel
    by_cases hlt : k < 8
    · have c3 : k + 1 ≤ maxLen := by unfold maxLen; omega
      have c4 : (k + 1) * 1 ≤ 140737488355328 := by omega
      go_wp2_with (at_builtin; refine wpList_append_own _ rfl _ _ 47 rfl w.heap.size 5 i0 (.int .u8 0) 1 1 Tryz.underlying47 hi hz0 hz1 hz2 rfl Nat.one_pos _ _ _ rfl (hown.alloc _) ⟨wr.heap.size, 0, none⟩ 1 1 [.int .u8 (n / 2 ^ (8 * k) % 256)] rfl rfl (cell_one_new _ _ _) (one_int _ _) c3 c4 (le_alloc _ hf.size) ?_; intro v' w1 hown' hgrow _)
      go_roundw
      case rel => exact ⟨k + 1, by omega, by go_num, by rw [le8_take k hlt]; exact hown', (hf.alloc _).grown hgrow (fun g hg hlt' => by have := (hown.lt g hg).1; omega)⟩
      case measure => simp [intOf]; omega
    · have e : k = 8 := by omega
      subst e
      go_wp2
      go_ret2
      exact ⟨_, rfl, newBy_of_owns (l := le8 n) (by simpa [le8] using hown) (by simp [le8]), hf⟩

theorem Tryz.word149 (n : Int) (w : World) (h0 : 0 ≤ n) (h1 : n < 18446744073709551616) :
    Calls Tryz.prog 205 #[.int .u64 n] w fun e w' => ∃ v, e = .returned v ∧ NewBy w.heap.size w' v (le8 n) ∧ Fr [] w w' := by
  go_enter Tryz.func205, Tryz.ntmps205
  go_wp2_with fail
  refine (Tryz.put8 n _ (by omega) (by omega)).mono ?_
  rintro e w1 ⟨v, rfl, hv, f⟩
  go_wp2
  go_ret
  exact ⟨_, rfl, hv, f⟩

theorem Tryz.word231 (n : Int) (w : World) (h0 : 0 ≤ n) (h1 : n < 18446744073709551616) :
    Calls Tryz.prog 257 #[.int .u64 n] w fun e w' => ∃ v, e = .returned v ∧ NewBy w.heap.size w' v (le8 n) ∧ Fr [] w w' := by
  go_enter Tryz.func257, Tryz.ntmps257
  go_wp2_with fail
  refine (Tryz.put8 n _ (by omega) (by omega)).mono ?_
  rintro e w1 ⟨v, rfl, hv, f⟩
  go_wp2
  go_ret
  exact ⟨_, rfl, hv, f⟩

theorem Tryz.word233 (n : Int) (w : World) (h0 : 0 ≤ n) (h1 : n < 18446744073709551616) :
    Calls Tryz.prog 336 #[.int .u64 n] w fun e w' => ∃ v, e = .returned v ∧ NewBy w.heap.size w' v (le8 n) ∧ Fr [] w w' := by
  go_enter Tryz.func336, Tryz.ntmps336
  go_wp2_with fail
  refine (Tryz.put8 n _ (by omega) (by omega)).mono ?_
  rintro e w1 ⟨v, rfl, hv, f⟩
  go_wp2
  go_ret
  exact ⟨_, rfl, hv, f⟩

theorem Tryz.word302 (n : Int) (w : World) (h0 : 0 ≤ n) (h1 : n < 9223372036854775808) :
    Calls Tryz.prog 283 #[.int .i64 n] w fun e w' => ∃ v, e = .returned v ∧ NewBy w.heap.size w' v (le8 n) ∧ Fr [] w w' := by
  go_enter Tryz.func283, Tryz.ntmps283
  go_wp2_with fail
  refine (Tryz.put8 n _ (by omega) (by omega)).mono ?_
  rintro e w1 ⟨v, rfl, hv, f⟩
  go_wp2
  go_ret
  exact ⟨_, rfl, hv, f⟩
end Go.Proofs
