/- Contracts of the program's memory, second part: words and digests written and read. Conditions: the memory lies as 'MemP' says; addresses within. -/
import Derived.Test.YthgiikmajmndaaaGreatMach
import Derived.Test.YthgiikmajmndaaaGreatWire
import Derived.Lib.Hide
namespace Anc
open Go Go.RowKit
theorem AllB.splice {m l : Bytes} (hm : AllB m) (hl : AllB l) (o : Nat) : AllB (splice m o l) := by
  intro x hx
  simp only [Anc.splice, List.mem_append] at hx
  rcases hx with (hx | hx) | hx
  · exact hm x (List.mem_of_mem_take hx)
  · exact hl x hx
  · exact hm x (List.mem_of_mem_drop hx)
theorem AllB.sub {m : Bytes} (hm : AllB m) (o n : Nat) : AllB (sub m o n) := fun x hx => hm x (List.mem_of_mem_drop (List.mem_of_mem_take hx))
theorem MemP.splice {w w' : World} {m d N : Nat} {mem b : Bytes} {S : List Nat} (h : MemP w m d N mem) (f : Fr S w w') (hm : m ∉ S) (hB : isB w' d = true) (o : Nat) (hb : blk w' d = u8s (splice mem o b)) (ho : o + b.length ≤ mem.length) (hbb : AllB b) : MemP w' m d N (splice mem o b) :=
  ⟨(f.isB m (isB_lt h.bm) hm).trans h.bm, hB, (f.blk m (isB_lt h.bm) hm).trans h.cm, hb, by rw [splice_length ho]; exact h.len, h.pos, h.le, h.bytes.splice hbb o, h.ne⟩
theorem owns_n {w : World} {B e k : Nat} {v : Value} {n n' : Nat} {l : List Value} (h : n = n') (ho : w.ownsRow B e k v n ([] ++ l)) : w.ownsRow B e k v n' l := by subst h; simpa using ho
end Anc
namespace Go.Proofs
open Go Go.RowKit Anc
set_option maxRecDepth 100000 in
theorem Tryz.setWordP (m d N : Nat) (mem : Bytes) (addr x : Int) (w : World) (hM : MemP w m d N mem) (ha : 0 ≤ addr) (ha2 : addr < 18446744073709551616) (h8 : addr % 8 = 0) (hi : addr + 8 ≤ N * 128) (hx : 0 ≤ x) (hx2 : x < 18446744073709551616) :
    Calls Tryz.prog 41 #[.pointer (some ⟨m, 0, none⟩), .int .u64 addr, .int .u64 x] w fun e w' => e = .returned (.int .i64 0) ∧ Fr [d] w w' ∧ isB w' d = true ∧ blk w' d = u8s (splice mem addr.toNat (le8 x)) := by
  have hM' := hM
  obtain ⟨bm, bd, cm, cd, hl, hN0, hN, hby, hne⟩ := hM
  have hm := isB_lt bm
  have hd := isB_lt bd
  have hb1 : addr.toNat + 8 ≤ mem.length := by omega
  clear hl hby
  go_enter Tryz.func41, Tryz.ntmps41
  go_wp2_with fail
  refine (Tryz.wordP m d N mem addr _ hM' ha ha2 h8 hi).mono ?_
  rintro e w' ⟨rfl, rfl⟩
  go_wp2_with fail
  refine (Tryz.put8 x _ hx hx2).mono ?_
  rintro e w1 ⟨v, rfl, ⟨b, rest, rfl, hb, hB, hbl⟩, f⟩
  have f1 := f.blk
  have f2 := f.isB
  have f3 := f.ltAll
  have hbd : d ≠ b := by omega
  go_wp2
  go_ret
  refine ⟨rfl, ?_, ?_, ?_⟩
  · exact (f.mono (by simp)).setCells (by simp) _ _
  · go_simp
  · go_simp

set_option maxRecDepth 100000 in
theorem Tryz.read32P (m d N : Nat) (mem : Bytes) (addr : Int) (w : World) (hM : MemP w m d N mem) (ha : 0 ≤ addr) (h8 : addr % 32 = 0) (hi : addr + 32 ≤ N * 128) :
    Calls Tryz.prog 333 #[.pointer (some ⟨m, 0, none⟩), .int .u64 addr, .int .i64 32] w fun e w' => ∃ v, e = .returned (.tuple #[v, .int .i64 0]) ∧ NewBy w.heap.size w' v (sub mem addr.toNat 32) ∧ Fr [] w w' := by
  have hM' := hM
  obtain ⟨bm, bd, cm, cd, hl, hN0, hN, hby, hne⟩ := hM
  have hm := isB_lt bm
  have hd := isB_lt bd
  have hb1 : addr.toNat + 32 ≤ mem.length := by omega
  obtain ⟨i0, hi5, hz0, hz1, hz2⟩ := info_parts Tryz.info5
  clear hl hby
  have h0 : ((N : Int) == 0) = false := by simp; omega
  go_enter Tryz.func333, Tryz.ntmps333
  go_wp2_with (first | (go_at_call 57; refine (Tryz.granulesP _ _ _ _ _ bm cm).mono ?_; rintro e w' ⟨rfl, rfl⟩) | (go_at_call 120; refine (Tryz.withinP m d N mem addr 32 _ hM' ha (by omega) (by omega) (by omega) true (by simp; omega)).mono ?_; rintro e w' ⟨rfl, rfl⟩))
  have s1 : 0 ≤ addr % 128 := by omega
  have s4 : 0 ≤ addr / 128 := by omega
  have s5 : addr / 128 < N := by omega
  have s2 : addr % 128 + 32 ≤ 128 := by omega
  have s3 : addr % 128 ≤ addr % 128 + 32 := by omega
  have s6 : 0 ≤ addr % 128 + 32 := by omega
  have s7 : addr % 128 ≤ 128 := by omega
  have hsub : (sub mem addr.toNat 32).length = 32 := sub_length hb1
  have hcells : ∀ j u, (u8s (sub mem addr.toNat 32))[j]? = some u → w.cell? ((⟨d, (addr / 128).toNat * 128 + (addr % 128).toNat, none⟩ : Addr).add j) = some u := by
    intro j u hu
    have e1 : (addr / 128).toNat * 128 + (addr % 128).toNat = addr.toNat := by omega
    rw [e1, Addr.add_mid, cell_blk bd, cd]
    rw [← sub_u8s] at hu
    have hj : j < 32 := by
      have := (List.getElem?_eq_some_iff.1 hu).1
      rw [sub_length (by rw [u8s_length]; exact hb1)] at this; exact this
    simpa [sub, List.getElem?_take, List.getElem?_drop, hj] using hu
  go_loopw [8] (fun v wr => (v = .slice none 0 0 ∧ wr = w) ∨ NewBy w.heap.size wr v (sub mem addr.toNat 32) ∧ Fr [] w wr) (fun v _ => match v with | .slice none _ _ => 1 | _ => 0)
  case atStart => exact .inl ⟨rfl, rfl⟩
  case round =>
    rcases hrel with ⟨rfl, rfl⟩ | ⟨⟨b, rest, rfl, hb, hB, hbl⟩, f⟩
    · by_cases h96 : addr % 128 + 32 = 128
      · have q1 : (128 : Int) ≤ addr % 128 + 32 := by omega
        have e96 := Lib.hid h96
        clear h96
        go_wp2_with (first | (go_at_call 38; refine (Tryz.ofP addr _ ha (by omega)).mono ?_; rintro e w' ⟨rfl, rfl⟩) | (at_builtin; refine wpList_append_own _ rfl _ _ 47 rfl wr.heap.size 5 i0 (.int .u8 0) 1 1 Tryz.underlying47 hi5 hz0 hz1 hz2 rfl Nat.one_pos _ _ _ rfl (World.ownsRow_nil _ _ _ _) ⟨d, (addr / 128).toNat * 128 + (addr % 128).toNat, none⟩ _ _ (u8s (sub mem addr.toNat 32)) rfl ?x1 hcells ?x2 ?x3 ?x4 (Nat.le_refl _) ?xmain))
        case x1 => rw [u8s_length, hsub]; have := e96.out; omega
        case x2 => exact (oneL_u8s _).2 trivial
        case x3 => unfold maxLen; omega
        case x4 => omega
        case xmain =>
          intro v' w1 hown' hgrow _
          go_wp2
          go_roundw
          case rel => exact .inr ⟨newBy_of_owns (by rw [hsub]; exact (owns_n (by have := e96.out; omega) hown')) (by rw [hsub]; omega), (Fr.refl _ _).grown hgrow (fun g hg _ => by cases hg)⟩
          case measure =>
            obtain ⟨_, ⟨rfl, hn⟩ | ⟨g, cap, cur, rfl, _⟩⟩ := hown'
            · exfalso; have := e96.out; omega
            · simp
      · have q1 : addr % 128 + 32 < 128 := by omega
        go_wp2_with (first | (go_at_call 38; refine (Tryz.ofP addr _ ha (by omega)).mono ?_; rintro e w' ⟨rfl, rfl⟩) | (at_builtin; refine wpList_append_own _ rfl _ _ 47 rfl wr.heap.size 5 i0 (.int .u8 0) 1 1 Tryz.underlying47 hi5 hz0 hz1 hz2 rfl Nat.one_pos _ _ _ rfl (World.ownsRow_nil _ _ _ _) ⟨d, (addr / 128).toNat * 128 + (addr % 128).toNat, none⟩ _ _ (u8s (sub mem addr.toNat 32)) rfl ?y1 hcells ?y2 ?y3 ?y4 (Nat.le_refl _) ?ymain))
        case y1 => rw [u8s_length, hsub]; omega
        case y2 => exact (oneL_u8s _).2 trivial
        case y3 => unfold maxLen; omega
        case y4 => omega
        case ymain =>
          intro v' w1 hown' hgrow _
          go_wp2
          go_roundw
          case rel => exact .inr ⟨newBy_of_owns (by rw [hsub]; exact (owns_n (by omega) hown')) (by rw [hsub]; omega), (Fr.refl _ _).grown hgrow (fun g hg _ => by cases hg)⟩
          case measure =>
            obtain ⟨_, ⟨rfl, hn⟩ | ⟨g, cap, cur, rfl, _⟩⟩ := hown'
            · exfalso; omega
            · simp
    · go_wp2
      go_ret2
      exact ⟨_, rfl, ⟨b, rest, rfl, hb, hB, hbl⟩, f⟩
end Go.Proofs
