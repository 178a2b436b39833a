/- The walk's rules over blocks as lists of cells: what steps do to blocks, copies of bytes. Conditions: none. -/
import Derived.Test.YthgiikmajmndaaaGreatTy
import Derived.StillTailTactics
namespace Anc
open Go Go.RowKit
theorem take_all {α : Type} {l : List α} {n : Nat} (h : l.length ≤ n) : l.take n = l := List.take_of_length_le h
theorem lt_succ_of {a b : Nat} (h : a < b) : a < b + 1 := Nat.lt_succ_of_lt h
theorem lt_succ2_of {a b : Nat} (h : a < b) : a < b + 1 + 1 := by omega
theorem ne_of_lt' {a b : Nat} (h : a < b) : a ≠ b := by omega
theorem ne_of_lt2 {a b : Nat} (h : a < b) : b ≠ a := by omega
theorem ne_succ_of {a b : Nat} (h : a < b) : a ≠ b + 1 := by omega
theorem oneL_sub {l : List Value} (h : OneL l) (o n : Nat) : OneL (sub l o n) := oneL_take (oneL_drop h _) _
theorem u64_and127 (x : Int) (h1 : 0 ≤ x) (h2 : x < 18446744073709551616) : bits .and .u64 x 127 = x % 128 := by
  rw [u64_and x 127 h1 h2 (by decide) (by decide)]
  have e : (127 : Int).toNat = 2 ^ 7 - 1 := rfl
  rw [e, Nat.and_two_pow_sub_one_eq_mod]
  omega
/-- a copy of bytes, or of other elements of one cell -/
theorem copy_blk {P : Program} {dT sT ty elem : TypeId} (hu : P.underlying dT = some (.slice elem)) (hs : (P.info? elem).map (·.size) = some 1)
    (w : World) (bd od dLen dCap bs os sLen sCap : Nat) (hBd : isB w bd = true) (hBs : isB w bs = true) (h1 : os + min sLen dLen ≤ (blk w bs).length) (h2 : od + min sLen dLen ≤ (blk w bd).length)
    (h3 : OneL (sub (blk w bs) os (min sLen dLen))) :
    (Builtin.copy_ #[dT, sT] ty #[.slice (some ⟨bd, od, none⟩) dLen dCap, .slice (some ⟨bs, os, none⟩) sLen sCap]).run P w =
      .ok (.int .i64 (min sLen dLen : Nat)) (w.setCells bd od (sub (blk w bs) os (min sLen dLen))) := by
  have hl := sub_length h1
  have := run_copy_cells (P := P) w dT sT ty elem bd od dLen dCap ⟨bs, os, none⟩ sLen sCap (sub (blk w bs) os (min sLen dLen)) hu hs (by rw [hl])
    (fun j v hv => by
      rw [Addr.add_mid, cell_blk hBs]
      have hj : j < min sLen dLen := by have := (List.getElem?_eq_some_iff.1 hv).1; omega
      simpa [sub, List.getElem?_take, List.getElem?_drop, hj] using hv)
    (fun j hj => by
      rw [cell_blk hBd, List.getElem?_eq_getElem (by omega)]; rfl)
    (fun j _ => frozen_blk hBd _) h3
  rw [this, hl]; rfl
attribute [go_sem] cell_blk frozen_blk blk_alloc isB_alloc blk_alloc_at isB_alloc_at blk_drew isB_drew blk_setCell_other isB_setCell blk_setCell_same isB_setCells blk_setCells_other blk_setCells_same
  size_setCells splice_length splice_all sub_length sub_all sub_nil sub_cons sub_u8s splice_u8s oneL_u8s oneL_append oneL_nil oneL_cons oneL_take oneL_drop oneL_sub u8s_length take_all u64_and127
end Anc
namespace Go.Proofs
open Go Anc
theorem Tryz.copyB (w : World) (bd od dLen dCap bs os sLen sCap : Nat) (hBd : isB w bd = true) (hBs : isB w bs = true) (hle : sLen ≤ dLen) (h1 : os + sLen ≤ (blk w bs).length) (h2 : od + sLen ≤ (blk w bd).length)
    (h3 : OneL (sub (blk w bs) os sLen)) :
    (Builtin.copy_ #[47, 47] 3 #[.slice (some ⟨bd, od, none⟩) dLen dCap, .slice (some ⟨bs, os, none⟩) sLen sCap]).run Tryz.prog w =
      .ok (.int .i64 (sLen : Nat)) (w.setCells bd od (sub (blk w bs) os sLen)) := by
  have e : min sLen dLen = sLen := by omega
  have := copy_blk Tryz.underlying47 (by kernel_rfl) w bd od dLen dCap bs os sLen sCap hBd hBs (by rw [e]; exact h1) (by rw [e]; exact h2) (by rw [e]; exact h3) (sT := 47) (ty := 3)
  rw [e] at this; exact this
theorem Tryz.copyG (w : World) (bd od dLen dCap bs os sLen sCap : Nat) (hBd : isB w bd = true) (hBs : isB w bs = true) (hle : dLen < sLen) (h1 : os + dLen ≤ (blk w bs).length) (h2 : od + dLen ≤ (blk w bd).length)
    (h3 : OneL (sub (blk w bs) os dLen)) :
    (Builtin.copy_ #[47, 47] 3 #[.slice (some ⟨bd, od, none⟩) dLen dCap, .slice (some ⟨bs, os, none⟩) sLen sCap]).run Tryz.prog w =
      .ok (.int .i64 (dLen : Nat)) (w.setCells bd od (sub (blk w bs) os dLen)) := by
  have e : min sLen dLen = dLen := by omega
  have := copy_blk Tryz.underlying47 (by kernel_rfl) w bd od dLen dCap bs os sLen sCap hBd hBs (by rw [e]; exact h1) (by rw [e]; exact h2) (by rw [e]; exact h3) (sT := 47) (ty := 3)
  rw [e] at this; exact this
attribute [go_sem] Tryz.copyB Tryz.copyG
end Go.Proofs
