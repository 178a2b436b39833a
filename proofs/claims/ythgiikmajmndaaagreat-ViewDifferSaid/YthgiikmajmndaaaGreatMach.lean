/- Contracts of the program's memory (package machine): what each call returns and what becomes of the bytes. Conditions: the memory lies as 'MemP' says. -/
import Derived.Test.YthgiikmajmndaaaGreatKit
namespace Anc
open Go Go.RowKit
/-- The program's memory: the variable at block m, its granules at block d, N of them, the bytes mem. -/
structure MemP (w : World) (m d N : Nat) (mem : Bytes) : Prop where
  bm : isB w m = true
  bd : isB w d = true
  cm : blk w m = [.slice (some ⟨d, 0, none⟩) N N]
  cd : blk w d = u8s mem
  len : mem.length = 128 * N
  pos : 0 < N
  le : N ≤ 4096
  bytes : AllB mem
  ne : m ≠ d
theorem MemP.fr {w w' : World} {m d N : Nat} {mem : Bytes} {S : List Nat} (h : MemP w m d N mem) (f : Fr S w w') (hm : m ∉ S) (hd : d ∉ S) : MemP w' m d N mem :=
  ⟨(f.isB m (isB_lt h.bm) hm).trans h.bm, (f.isB d (isB_lt h.bd) hd).trans h.bd, (f.blk m (isB_lt h.bm) hm).trans h.cm, (f.blk d (isB_lt h.bd) hd).trans h.cd, h.len, h.pos, h.le, h.bytes, h.ne⟩
/-- the code of a granule's number -/
def wrongC (N : Nat) (g : Int) : Int := if 0 ≤ g ∧ g < N then 0 else 2
/-- a granule's bytes laid into memory -/
def putG (N : Nat) (mem : Bytes) (g : Int) (b : Bytes) : Bytes := if 0 ≤ g ∧ g < N then splice mem (g.toNat * 128) b else mem
/-- a granule's bytes -/
def getG (mem : Bytes) (g : Nat) : Bytes := sub mem (g * 128) 128
end Anc
namespace Go.Proofs
open Go Go.RowKit Anc

theorem Tryz.granulesP (m : Nat) (a : Option Addr) (n c : Nat) (w : World) (hB : isB w m = true) (h : blk w m = [.slice a n c]) : Calls Tryz.prog 57 #[.pointer (some ⟨m, 0, none⟩)] w fun e w' => e = .returned (.int .i64 n) ∧ w = w' := by
  go_enter Tryz.func57, Tryz.ntmps57
  go_wp2
  go_ret
  exact ⟨rfl, rfl⟩
theorem Tryz.granulesP_nil (w : World) : Calls Tryz.prog 57 #[.pointer none] w fun e w' => e = .returned (.int .i64 0) ∧ w = w' := by
  go_enter Tryz.func57, Tryz.ntmps57
  go_wp2
  go_ret
  exact ⟨rfl, rfl⟩

theorem Tryz.wrongP (m : Nat) (a : Option Addr) (n c : Nat) (g : Int) (w : World) (hB : isB w m = true) (h : blk w m = [.slice a n c]) (hn : 0 < n) : Calls Tryz.prog 96 #[.pointer (some ⟨m, 0, none⟩), .int .i64 g] w fun e w' => e = .returned (.int .i64 (wrongC n g)) ∧ w = w' := by
  by_cases hg : 0 ≤ g ∧ g < n
  · have hc : wrongC n g = 0 := if_pos hg
    obtain ⟨h0, h1⟩ := hg
    rw [hc]; clear hc
    go_enter Tryz.func96, Tryz.ntmps96
    go_wp2_with (go_at_call 57; refine (Tryz.granulesP _ _ _ _ _ hB h).mono ?_; rintro e w' ⟨rfl, rfl⟩)
    go_ret
    exact ⟨rfl, rfl⟩
  · have hc : wrongC n g = 2 := if_neg hg
    rw [hc]; clear hc
    go_enter Tryz.func96, Tryz.ntmps96
    go_wp2_with (go_at_call 57; refine (Tryz.granulesP _ _ _ _ _ hB h).mono ?_; rintro e w' ⟨rfl, rfl⟩)
    all_goals (go_ret; exact ⟨rfl, rfl⟩)

set_option maxRecDepth 100000 in
theorem Tryz.getP (m d n : Nat) (mem : Bytes) (g : Nat) (w : World) (hM : MemP w m d n mem) (h1 : g < n) :
    Calls Tryz.prog 63 #[.pointer (some ⟨m, 0, none⟩), .int .i64 g] w fun e w' => e = .returned (.tuple #[.agg (u8s (getG mem g)).toArray, .int .i64 0]) ∧ Fr [] w w' := by
  obtain ⟨bm, bd, cm, cd, hl, hN0, hN, hby, hne⟩ := hM
  have hm := isB_lt bm
  have hd := isB_lt bd
  have g0 : (0 : Int) ≤ g := by omega
  have g1 : (g : Int) < n := by omega
  have hb1 : g * 128 + 128 ≤ mem.length := by omega
  have hw0 : wrongC n g = 0 := if_pos ⟨g0, g1⟩
  clear hl
  have hz : Tryz.zeroCells30.toList.length = 128 := by rw [Array.length_toList]; exact Tryz.zeroCells30_size
  go_enter Tryz.func63, Tryz.ntmps63
  go_wp2_with (go_at_call 96; refine (Tryz.wrongP m (some ⟨d, 0, none⟩) n n _ _ (by go_simp) (by go_simp) hN0).mono ?_; rintro e w' ⟨rfl, rfl⟩)
  refine bodyPost_ret (results_ct Tryz.agg30 rfl rfl (by go_simp) (by go_simp)) rfl ⟨?_, ?_⟩
  · unfold getG
    go_simp
  · exact ((Fr.refl _ _).alloc _).setCells (by simp) _ _

set_option maxRecDepth 100000 in
theorem Tryz.putP_ok (m d n : Nat) (mem b : Bytes) (g : Nat) (w : World) (hM : MemP w m d n mem) (hb : b.length = 128) (h1 : g < n) :
    Calls Tryz.prog 182 #[.pointer (some ⟨m, 0, none⟩), .int .i64 g, .agg (u8s b).toArray] w fun e w' => e = .returned (.int .i64 0) ∧ Fr [d] w w' ∧ isB w' d = true ∧ blk w' d = u8s (splice mem (g * 128) b) := by
  obtain ⟨bm, bd, cm, cd, hl, hN0, hN, hby, hne⟩ := hM
  have hm := isB_lt bm
  have hd := isB_lt bd
  have g0 : (0 : Int) ≤ g := by omega
  have g1 : (g : Int) < n := by omega
  have hb1 : g * 128 + 128 ≤ mem.length := by omega
  have hw0 : wrongC n g = 0 := if_pos ⟨g0, g1⟩
  clear hl
  go_enter Tryz.func182, Tryz.ntmps182
  go_wp2_with (go_at_call 96; refine (Tryz.wrongP m (some ⟨d, 0, none⟩) n n _ _ (by go_simp) (by go_simp) hN0).mono ?_; rintro e w' ⟨rfl, rfl⟩)
  refine wp_region_still_tail 7 (by kernel_rfl) (by kernel_rfl) ?_
  simp only [List.take_succ_cons, List.take_zero, List.drop_succ_cons, List.drop_zero]
  change wpStill _ _ (World.drew _) _ _ _
  repeat still_step
  refine wpStill_nil ?_
  change wpList _ _ _ _ _ (World.drew _)
  go_wp2
  go_ret
  refine ⟨rfl, ?_, ?_, ?_⟩
  · exact ((Fr.refl _ _).alloc _).drew.setCells (by simp) _ _
  · go_simp
  · go_simp

theorem Tryz.putP (m d n : Nat) (mem b : Bytes) (g : Int) (w : World) (hM : MemP w m d n mem) (hb : b.length = 128) (hbb : AllB b) :
    Calls Tryz.prog 182 #[.pointer (some ⟨m, 0, none⟩), .int .i64 g, .agg (u8s b).toArray] w fun e w' => e = .returned (.int .i64 (wrongC n g)) ∧ Fr [d] w w' ∧ MemP w' m d n (putG n mem g b) := by
  by_cases hg : 0 ≤ g ∧ g < n
  · obtain ⟨k, rfl⟩ : ∃ k : Nat, g = k := ⟨g.toNat, by omega⟩
    refine (Tryz.putP_ok m d n mem b k w hM hb (by omega)).mono ?_
    rintro e w' ⟨rfl, f, hB', h⟩
    have e1 : putG n mem k b = splice mem (k * 128) b := by unfold putG; rw [if_pos hg]; rfl
    refine ⟨by unfold wrongC; rw [if_pos hg], f, ?_⟩
    have hm := isB_lt hM.bm
    have hd := isB_lt hM.bd
    have hl := hM.len
    rw [e1]
    refine ⟨(f.isB m hm (by simpa using hM.ne)).trans hM.bm, hB', (f.blk m hm (by simpa using hM.ne)).trans hM.cm, h, ?_, hM.pos, hM.le, ?_, hM.ne⟩
    · rw [splice_length (by omega)]; exact hl
    · intro x hx
      simp only [splice, List.mem_append] at hx
      rcases hx with (hx | hx) | hx
      · exact hM.bytes x (List.mem_of_mem_take hx)
      · exact hbb x hx
      · exact hM.bytes x (List.mem_of_mem_drop hx)
  · have hc : wrongC n g = 2 := if_neg hg
    have e1 : putG n mem g b = mem := if_neg hg
    have hM' := hM
    obtain ⟨bm, bd, cm, cd, hl, hN0, hN, hby, hne⟩ := hM
    have hm := isB_lt bm
    rw [hc, e1]
    clear hg e1
    go_enter Tryz.func182, Tryz.ntmps182
    go_wp2_with (go_at_call 96; refine (Tryz.wrongP m (some ⟨d, 0, none⟩) n n _ _ (by go_simp) (by go_simp) hN0).mono ?_; rintro e w' ⟨rfl, rfl⟩)
    go_ret
    refine ⟨rfl, (Fr.refl _ _).alloc _, hM'.fr ((Fr.refl [] _).alloc _) (by simp) (by simp)⟩

theorem Tryz.z30 : Value.agg Tryz.zeroCells30 = .agg (u8s (List.replicate 128 0)).toArray := by kernel_rfl
set_option maxRecDepth 100000 in
theorem Tryz.scrubP (m d n : Nat) (mem : Bytes) (g : Int) (w : World) (hM : MemP w m d n mem) :
    Calls Tryz.prog 144 #[.pointer (some ⟨m, 0, none⟩), .int .i64 g] w fun e w' => e = .returned (.int .i64 (wrongC n g)) ∧ Fr [d] w w' ∧ MemP w' m d n (putG n mem g (List.replicate 128 0)) := by
  go_enter Tryz.func144, Tryz.ntmps144
  go_wp2_with fail
  rw [Tryz.z30]
  refine (Tryz.putP m d n mem _ g _ hM (by simp) (by intro x hx; simp at hx; omega)).mono ?_
  rintro e w' ⟨rfl, f, hM'⟩
  go_wp2
  go_ret
  exact ⟨rfl, f, hM'⟩

theorem Tryz.withinP (m d N : Nat) (mem : Bytes) (addr n : Int) (w : World) (hM : MemP w m d N mem) (_ha : 0 ≤ addr) (_ha2 : addr < 18446744073709551616) (hn : 0 < n) (hn2 : n ≤ 1048576) (r : Bool) (hr : r = decide (n ≤ N * 128 ∧ addr ≤ N * 128 - n)) :
    Calls Tryz.prog 120 #[.pointer (some ⟨m, 0, none⟩), .int .u64 addr, .int .i64 n] w fun e w' => e = .returned (.bool r) ∧ w = w' := by
  subst hr
  obtain ⟨bm, bd, cm, cd, hl, hN0, hN, hby, hne⟩ := hM
  have h0 : ((n : Int) == 0) = false := by simp; omega
  by_cases h1 : n ≤ N * 128
  · go_enter Tryz.func120, Tryz.ntmps120
    go_wp2_with (go_at_call 57; refine (Tryz.granulesP _ _ _ _ _ bm cm).mono ?_; rintro e w' ⟨rfl, rfl⟩)
    all_goals (go_ret; exact ⟨congrArg (fun b => Ending.returned (.bool b)) (show _ = (_ : Bool) by first | (rw [Bool.eq_iff_iff]; simp; omega) | (simp; omega)), rfl⟩)
  · go_enter Tryz.func120, Tryz.ntmps120
    go_wp2_with (go_at_call 57; refine (Tryz.granulesP _ _ _ _ _ bm cm).mono ?_; rintro e w' ⟨rfl, rfl⟩)
    all_goals (go_ret; exact ⟨congrArg (fun b => Ending.returned (.bool b)) (show _ = (_ : Bool) by first | (rw [Bool.eq_iff_iff]; simp; omega) | (simp; omega)), rfl⟩)

theorem Tryz.ofP (addr : Int) (w : World) (ha : 0 ≤ addr) (ha2 : addr < 18446744073709551616) :
    Calls Tryz.prog 38 #[.int .u64 addr] w fun e w' => e = .returned (.tuple #[.int .i64 (addr / 128), .int .i64 (addr % 128)]) ∧ w = w' := by
  go_enter Tryz.func38, Tryz.ntmps38
  go_wp2
  go_ret2
  exact ⟨rfl, rfl⟩
set_option maxRecDepth 100000 in
theorem Tryz.wordP (m d N : Nat) (mem : Bytes) (addr : Int) (w : World) (hM : MemP w m d N mem) (ha : 0 ≤ addr) (ha2 : addr < 18446744073709551616) (h8 : addr % 8 = 0) (hi : addr + 8 ≤ N * 128) :
    Calls Tryz.prog 72 #[.pointer (some ⟨m, 0, none⟩), .int .u64 addr] w fun e w' => e = .returned (.tuple #[.slice (some ⟨d, addr.toNat, none⟩) 8 (128 - addr.toNat % 128), .int .i64 0]) ∧ w = w' := by
  have hM' := hM
  obtain ⟨bm, bd, cm, cd, hl, hN0, hN, hby, hne⟩ := hM
  have h0 : ((N : Int) == 0) = false := by simp; omega
  have s1 : 0 ≤ addr % 128 := by omega
  have s2 : addr % 128 + 8 ≤ 128 := by omega
  have s3 : addr % 128 ≤ 128 := by omega
  have s4 : 0 ≤ addr / 128 := by omega
  have s5 : addr / 128 < N := by omega
  have s6 : 0 ≤ addr % 128 + 8 := by omega
  have s7 : addr % 128 ≤ addr % 128 + 8 := by omega
  go_enter Tryz.func72, Tryz.ntmps72
  go_wp2_with (first | (go_at_call 57; refine (Tryz.granulesP _ _ _ _ _ bm cm).mono ?_; rintro e w' ⟨rfl, rfl⟩) | (go_at_call 120; refine (Tryz.withinP m d N mem addr 8 _ hM' ha ha2 (by omega) (by omega) true (by simp; omega)).mono ?_; rintro e w' ⟨rfl, rfl⟩) | (go_at_call 38; refine (Tryz.ofP addr _ ha ha2).mono ?_; rintro e w' ⟨rfl, rfl⟩))
  go_ret2
  refine ⟨?_, rfl⟩
  have e1 : (addr / 128).toNat * 128 + (addr % 128).toNat = addr.toNat := by omega
  have e2 : (addr % 128 + 8).toNat - (addr % 128).toNat = 8 := by omega
  have e3 : (addr % 128).toNat = addr.toNat % 128 := by omega
  show Ending.returned (.tuple #[.slice (some ⟨d, (addr / 128).toNat * 128 + (addr % 128).toNat, none⟩) ((addr % 128 + 8).toNat - (addr % 128).toNat) (128 - (addr % 128).toNat), .int .i64 0]) = _
  rw [e1, e2, e3]
end Go.Proofs
