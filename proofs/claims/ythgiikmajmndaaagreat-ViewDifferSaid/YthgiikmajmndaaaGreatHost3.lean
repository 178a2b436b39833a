/- What the host sees, 3: view.Host. Conditions: the monitor lies as 'MonP' says. -/
import Derived.Test.YthgiikmajmndaaaGreatHostReg
import Derived.Test.YthgiikmajmndaaaGreatMach2
set_option linter.unusedSimpArgs false
set_option linter.unusedVariables false
namespace Anc
open Go Go.RowKit
/-- the state of view.Host's loop -/
structure HI (w wr : World) (b2 b3 b4 : Nat) (parts : List Value) (vS vH vB : Value) (V : VW) : Prop where
  f : Fr [] w wr
  i2 : isB wr b2 = true
  c2 : blk wr b2 = [.slice none 0 0, .slice none 0 0, .slice none 0 0]
  i3 : isB wr b3 = true
  c3 : blk wr b3 = [vS, vH, vB]
  i4 : isB wr b4 = true
  c4 : blk wr b4 = parts
  o : Own3 wr (b4 + 1) vS vH vB V.S V.H V.B
  lt : b2 < b3 ∧ b3 < b4 ∧ b4 < wr.heap.size
theorem wp_world {P : Program} {c : Code} {Q : Exit → Act → World → Prop} {a : Act} {w : World} (R : World → Prop) (h : R w) (k : ∀ w, R w → c.wp P Q a w) : c.wp P Q a w := k w h
/-- the same in a round, a row and a granule laid beside -/
structure HJ (w V : World) (b2 b3 b4 t6 : Nat) (parts : List Value) (vS vH vB : Value) (X : VW) (r : RowG) (G : Bytes) : Prop where
  hi : HI w V b2 b3 b4 parts vS vH vB X
  i6 : isB V t6 = true
  c6 : blk V t6 = r.cells
  i8 : isB V (t6 + 1) = true
  c8 : blk V (t6 + 1) = u8s G
  lt : b4 < t6
  rS : ∀ g, vS.ownBlock = some g → g < t6
  rH : ∀ g, vH.ownBlock = some g → g < t6
  rB : ∀ g, vB.ownBlock = some g → g < t6
theorem HJ.toHX {w V : World} {b2 b3 b4 t6 : Nat} {parts : List Value} {vS vH vB : Value} {X : VW} {r : RowG} {G : Bytes} (h : HJ w V b2 b3 b4 t6 parts vS vH vB X r G) :
    HX w V.drew b2 b4 t6 [.slice none 0 0, .slice none 0 0, .slice none 0 0] parts r.cells (u8s G) vS vH vB X.S X.H X.B :=
  ⟨h.hi.f.drew, ⟨h.hi.i2, h.hi.c2⟩, ⟨h.hi.i4, h.hi.c4⟩, ⟨h.i6, h.c6⟩, ⟨h.i8, h.c8⟩, h.hi.o.fr0 (Fr.refl _ _).drew⟩
theorem HX.toHI {w W : World} {b2 b3 b4 t6 : Nat} {c4 c6 c8 : List Value} {sS sH sB : Value} {S H : List Int} {Bs : List Bytes} {X : VW} (h : HX w W b2 b4 t6 [.slice none 0 0, .slice none 0 0, .slice none 0 0] c4 c6 c8 sS sH sB S H Bs) (hB : NW W b3 [sS, sH, sB])
    (h23 : b2 < b3) (h34 : b3 < b4) (e : X = ⟨S, H, Bs⟩) : HI w W b2 b3 b4 c4 sS sH sB X := by
  subst e
  exact ⟨h.f, h.n2.1, h.n2.2, hB.1, hB.2, h.n4.1, h.n4.2, h.o, h23, h34, h.n4.lt⟩
theorem hostK_succ (mem : Bytes) (l : List RowG) (k : Nat) (q : RowG) (h : l[k]? = some q) : hostK mem l (k + 1) = ⟨(hostK mem l k).S ++ [q.st], (hostK mem l k).H ++ [q.hd], (hostK mem l k).B ++ [Anc.seen mem l k]⟩ := by
  unfold hostK
  simp only [List.range_succ, List.map_append, List.map_cons, List.map_nil, List.take_add_one, h, Option.toList_some]
theorem hostK_lens (mem : Bytes) (l : List RowG) (k : Nat) : (hostK mem l k).S.length ≤ k ∧ (hostK mem l k).H.length ≤ k ∧ (hostK mem l k).B.length ≤ k := by
  unfold hostK
  simp only [List.length_map, List.length_take, List.length_range]
  omega
theorem own_form {w : World} {B e k n : Nat} {v : Value} {l : List Value} (h : w.ownsRow B e k v n l) : ∃ a n c, v = .slice a n c := by
  obtain ⟨_, ⟨rfl, _⟩ | ⟨g, cap, cur, rfl, _⟩⟩ := h
  · exact ⟨_, _, _, rfl⟩
  · exact ⟨_, _, _, rfl⟩
theorem seen_all {mem : Bytes} {l : List RowG} {g : Nat} (h : AllB mem) : AllB (Anc.seen mem l g) := by
  unfold Anc.seen
  split
  · exact AllB.sub h _ _
  · exact g0_all
theorem seen_length {mem : Bytes} {l : List RowG} {g N : Nat} (h : mem.length = 128 * N) (hg : g < N) : (Anc.seen mem l g).length = 128 := by
  unfold Anc.seen
  split
  · unfold getG; rw [sub_length]; omega
  · exact g0_length
theorem grownBy_setCells (b : Nat) : ∀ (l : List Value) (o : Nat) (W : World), W.grownBy (W.setCells b o l) (some b)
  | [], _, _ => ⟨rfl, rfl, rfl, Nat.le_refl _, fun _ _ _ => rfl⟩
  | v :: l, o, W => by
    have h1 := grownBy_setCell W b o v
    have h2 := grownBy_setCells b l (o + 1) (W.setCell ⟨b, o, none⟩ v)
    rw [World.setCells]
    exact ⟨h2.os.trans h1.os, h2.tape.trans h1.tape, h2.output.trans h1.output, Nat.le_trans h1.size h2.size, fun k hk hn => (h2.block k (Nat.lt_of_lt_of_le hk h1.size) hn).trans (h1.block k hk hn)⟩
theorem HI.view {w wr : World} {b2 b3 b4 N k m d : Nat} {parts : List Value} {vS vH vB : Value} {mem : Bytes} {l : List RowG} (h : HI w wr b2 b3 b4 parts vS vH vB (hostK mem l k)) (hM : MemP w m d N mem) (hk : k ≤ N) {W : World} {b : Nat} (hg : wr.grownBy W (some b)) (hb : b ≤ b4) : ViewV W vS vH vB (hostK mem l k) := by
  obtain ⟨e1, e2, e3⟩ := hostK_lens mem l k
  have hN := hM.le
  refine ⟨slI_of_owns (kept_of h.o.s hg fun g h1 e => by have := (h.o.s.lt g h1).1; injection e with e; omega), slI_of_owns (kept_of h.o.h hg fun g h1 e => by have := (h.o.h.lt g h1).1; injection e with e; omega), slG_of_owns (kept_of h.o.b hg fun g h1 e => by have := (h.o.b.lt g h1).1; injection e with e; omega) ?_, by omega, by omega, by omega, ?_⟩
  all_goals
    intro x hx
    simp only [hostK, List.mem_map, List.mem_range] at hx
    obtain ⟨g, hg, rfl⟩ := hx
    exact ⟨seen_length hM.len (by omega), seen_all hM.bytes⟩
end Anc
namespace Go.Proofs
open Go Go.RowKit Anc
set_option maxRecDepth 100000 in
theorem Tryz.host21 (p m d N : Nat) (mem : Bytes) (t e : Nat) (l : List RowG) (w : World) (h : MonP w p m d N mem t e l) :
    Calls Tryz.prog 21 #[.pointer (some ⟨p, 0, none⟩)] w fun e w' => ∃ s hh b, e = .returned (.agg #[s, hh, b]) ∧ ViewV w' s hh b (hostK mem l N) ∧ Fr [] w w' ∧ (∀ g, s.ownBlock = some g → w.heap.size ≤ g) ∧ (∀ g, hh.ownBlock = some g → w.heap.size ≤ g) ∧ (∀ g, b.ownBlock = some g → w.heap.size ≤ g) := by
  have hN := h.mp.le
  have hN0 := h.mp.pos
  have hnl := h.nl
  have hM := h.mp
  have hR := h.rp
  have hp18 := fun W (f : Fr [] w W) => Tryz.parts18 p m d N mem t e l W (h.fr0 f)
  have hp := Lib.hid hp18
  have hnl' := Lib.hid hnl
  clear hp18 h hnl
  go_enter Tryz.func21, Tryz.ntmps21
  go_wp2_with (first
    | (go_at_call 18; refine (hp.out _ (((Fr.refl [] w).alloc _).alloc _)).mono ?_; rintro e w1 ⟨o, x, r, rfl, f1⟩; obtain ⟨_, _, _, _⟩ := keep4 f1 (b := w.heap.size) (by go_simp) (by simp) (by go_simp; rfl); obtain ⟨_, _, _, _⟩ := keep4 f1 (b := w.heap.size + 1) (by go_simp) (by simp) (by go_simp; rfl))
    | (go_at_call 57; refine (Tryz.granulesP _ _ _ _ _ ((hM.fr0 ((((((Fr.refl [] w).alloc _).alloc _).trans' f1).alloc _).setCells (by have := f1.size; simp at this; omega) _ _)).bm) ((hM.fr0 ((((((Fr.refl [] w).alloc _).alloc _).trans' f1).alloc _).setCells (by have := f1.size; simp at this; omega) _ _)).cm)).mono ?_; rintro e w' ⟨rfl, rfl⟩))
  have z1 := f1.size
  simp at z1
  have fA : Fr [] w w1 := (((Fr.refl [] w).alloc _).alloc _).trans' f1
  clear hp
  go_loopw [14] (fun i wr => ∃ k vS vH vB, k ≤ N ∧ i = .int .i64 (k : Nat) ∧ HI w wr w.heap.size (w.heap.size + 1) w1.heap.size [.pointer (some ⟨o, 0, none⟩), .pointer (some ⟨m, 0, none⟩), .pointer (some ⟨t, 0, none⟩), .pointer (some ⟨x, 0, none⟩), .pointer (some ⟨r, 0, none⟩)] vS vH vB (hostK mem l k)) (fun i _ => N - (intOf i).toNat)
  case atStart =>
    refine ⟨0, _, _, _, by omega, rfl, ⟨((fA.alloc _).setCells (by omega) _ _), by go_simp, by go_simp, by go_simp, by go_simp, by go_simp, by go_simp, Own3.nil _ _, by omega, by omega, by go_simp⟩⟩
  case round =>
    obtain ⟨k, vS, vH, vB, hk, rfl, hI⟩ := hrel
    have i2 := hI.i2
    have i3 := hI.i3
    have i4 := hI.i4
    have c2 := hI.c2
    have c3 := hI.c3
    have c4 := hI.c4
    have hlt4 := hI.lt
    have rS := fun g hg => (hI.o.s.lt g hg).2
    have rH := fun g hg => (hI.o.h.lt g hg).2
    have rB := fun g hg => (hI.o.b.lt g hg).2
    have hI' := Lib.hid hI
    have rS' := Lib.hid rS
    have rH' := Lib.hid rH
    have rB' := Lib.hid rB
    clear hI rS rH rB
    by_cases hkN : k < N
    · have hkl : k < l.length := by rw [hnl'.out]; exact hkN
      obtain ⟨q, hq⟩ : ∃ q, q = l[k] := ⟨_, rfl⟩
      have hq2 : l[k]? = some q := by rw [hq]; exact List.getElem?_eq_getElem hkl
      have hat : atI l k = some q := by unfold atI; simp [hq2]
      have hr : rowR l k = .tuple #[.agg #[.int .i64 q.st, .int .u64 q.ow, .int .i64 q.hd], .int .i64 0] := by unfold rowR; rw [hat]; rfl
      have hh : hostR l k = decide (q.st = 0) := by unfold hostR; rw [hat]
      have hseen : Anc.seen mem l k = if q.st = 0 then getG mem k else g0 := by unfold Anc.seen; rw [List.getD_eq_getElem?_getD, hq2]; rfl
      clear hat hq
      have k0 : (k : Int) < N := by omega
      have hzz : Tryz.zeroCells30.toList = u8s g0 := by
        have := Tryz.z30
        simp only [Value.agg.injEq] at this
        rw [this]; rfl
      have hzl : Tryz.zeroCells30.toList.length = 128 := by rw [Array.length_toList]; exact Tryz.zeroCells30_size
      have hG : (getG mem k).length = 128 := by unfold getG; rw [sub_length]; have := hM.len; omega
      by_cases hst : q.st = 0
      · have hd : decide (q.st = 0) = true := by simpa using hst
        rw [hd] at hh
        rw [if_pos hst] at hseen
        have hst' := Lib.hid hst
        clear hd hst
        go_wp2_with (first
          | (go_at_call 63; refine (Tryz.getP m d N mem k _ (hM.fr0 ((fC.alloc (.cells Tryz.zeroCells30 30)))) hkN).mono ?_; rintro e w3 ⟨rfl, f3⟩; obtain ⟨_, _, _, _⟩ := keep4 f3 (b := w.heap.size) (by go_simp) (by simp) (by go_simp; rfl); obtain ⟨_, _, _, _⟩ := keep4 f3 (b := w.heap.size + 1) (by go_simp) (by simp) (by go_simp; rfl); obtain ⟨_, _, _, _⟩ := keep4 f3 (b := w1.heap.size) (by go_simp) (by simp) (by go_simp; rfl); obtain ⟨_, _, _, _⟩ := keep4 f3 (b := w2.heap.size) (by go_simp) (by simp) (by go_simp; rfl); obtain ⟨_, _, _, _⟩ := keep4 f3 (b := w2.heap.size + 1) (by go_simp) (by simp) (by go_simp; rfl))
          | (go_at_call 40; refine (Tryz.hostRP t _ l k _ (hR.fr0 (fC.alloc (.cells Tryz.zeroCells30 30)))).mono ?_; rw [hh]; rintro e w' ⟨rfl, rfl⟩)
          | (go_at_call 62; refine (Tryz.rowRP t _ l k _ (hR.fr0 hI'.out.f)).mono ?_; rw [hr]; rintro e w2 ⟨rfl, f2⟩; obtain ⟨_, _, _, _⟩ := keep4 f2 (b := w.heap.size) (by go_simp) (by simp) (by go_simp; rfl); obtain ⟨_, _, _, _⟩ := keep4 f2 (b := w.heap.size + 1) (by go_simp) (by simp) (by go_simp; rfl); obtain ⟨_, _, _, _⟩ := keep4 f2 (b := w1.heap.size) (by go_simp) (by simp) (by go_simp; rfl); have fC := ((hI'.out.f.trans' f2).alloc (.cells #[Value.int .i64 0, Value.int .u64 0, Value.int .i64 0] 155)).setCells (b := w2.heap.size) (by have := (hI'.out.f.trans' f2).size; omega) [Value.int .i64 q.st, .int .u64 q.ow, .int .i64 q.hd] 0))
        have fD := (fC.alloc (.cells Tryz.zeroCells30 30)).trans' f3
        refine wp_world (fun V => HJ w V w.heap.size (w.heap.size + 1) w1.heap.size w2.heap.size [.pointer (some ⟨o, 0, none⟩), .pointer (some ⟨m, 0, none⟩), .pointer (some ⟨t, 0, none⟩), .pointer (some ⟨x, 0, none⟩), .pointer (some ⟨r, 0, none⟩)] vS vH vB (hostK mem l k) q (Anc.seen mem l k)) ?_ ?_
        · have z2 := f2.size
          have fE := (((f2.alloc (.cells #[Value.int .i64 0, Value.int .u64 0, Value.int .i64 0] 155)).setCells (b := w2.heap.size) (by omega) [Value.int .i64 q.st, .int .u64 q.ow, .int .i64 q.hd] 0).alloc (.cells Tryz.zeroCells30 30)).trans' f3
          refine ⟨⟨fD.setCells (by omega) _ _, by go_simp, by go_simp, by go_simp, by go_simp, by go_simp, by go_simp, hI'.out.o.fr0 (fE.setCells (by omega) _ _), by omega, by omega, by go_simp⟩, by go_simp, by go_simp; rfl, by go_simp, by rw [hseen]; go_simp, by omega, fun g hg => Nat.lt_of_lt_of_le (rS'.out g hg) z2, fun g hg => Nat.lt_of_lt_of_le (rH'.out g hg) z2, fun g hg => Nat.lt_of_lt_of_le (rB'.out g hg) z2⟩
        rintro V hJ
        have hX := hJ.toHX
        have hB : NW V.drew (w.heap.size + 1) [vS, vH, vB] := ⟨hJ.hi.i3, hJ.hi.c3⟩
        have q3 := hJ.hi.lt
        have q4 := hJ.lt
        obtain ⟨e1, e2, e3⟩ := hostK_lens mem l k
        refine Tryz.hostReg _ _ _ _ _ _ _ _ _ _ _ _ _ _ _ _ _ _ _ _ _ _ _ _ _ _ _ _ _ _ _ _ _ _ _ _ _ _ _ _ _ _ _ _ _ _ _ _ _ _ _ _ _ _ w V w.heap.size (w.heap.size + 1) w1.heap.size w2.heap.size _ _ q (Anc.seen mem l k) vS vH vB (hostK mem l k).S (hostK mem l k).H (hostK mem l k).B _ (fun c a d v w h => by cases d <;> exact h) hX hB (by omega) (by omega) q4 (by omega)
          (fun g hg => ⟨(hJ.hi.o.s.lt g hg).1, hJ.rS g hg⟩) (fun g hg => ⟨(hJ.hi.o.h.lt g hg).1, hJ.rH g hg⟩) (fun g hg => ⟨(hJ.hi.o.b.lt g hg).1, hJ.rB g hg⟩) (seen_length hM.len hkN) (by omega) (by omega) (by omega) ?_
        intro _ _ _ _ _ _ _ _ _ _ _ _ _ _ _ _ _ _ _ _ W g5 c5 g11 c11 g16 c16 hX2 hB2
        clear hX hB hJ
        go_wp2
        go_roundw
        case rel => exact ⟨k + 1, _, _, _, by omega, by go_num, hX2.toHI hB2 (by omega) (by omega) (hostK_succ mem l k q hq2)⟩
        case measure => simp [intOf]; omega
      · have hd : decide (q.st = 0) = false := by simpa using hst
        rw [hd] at hh
        rw [if_neg hst] at hseen
        have hst' := Lib.hid hst
        clear hd hst
        go_wp2_with (first
          | (go_at_call 40; refine (Tryz.hostRP t _ l k _ (hR.fr0 (fC.alloc (.cells Tryz.zeroCells30 30)))).mono ?_; rw [hh]; rintro e w' ⟨rfl, rfl⟩)
          | (go_at_call 62; refine (Tryz.rowRP t _ l k _ (hR.fr0 hI'.out.f)).mono ?_; rw [hr]; rintro e w2 ⟨rfl, f2⟩; obtain ⟨_, _, _, _⟩ := keep4 f2 (b := w.heap.size) (by go_simp) (by simp) (by go_simp; rfl); obtain ⟨_, _, _, _⟩ := keep4 f2 (b := w.heap.size + 1) (by go_simp) (by simp) (by go_simp; rfl); obtain ⟨_, _, _, _⟩ := keep4 f2 (b := w1.heap.size) (by go_simp) (by simp) (by go_simp; rfl); have fC := ((hI'.out.f.trans' f2).alloc (.cells #[Value.int .i64 0, Value.int .u64 0, Value.int .i64 0] 155)).setCells (b := w2.heap.size) (by have := (hI'.out.f.trans' f2).size; omega) [Value.int .i64 q.st, .int .u64 q.ow, .int .i64 q.hd] 0))
        have fD := fC.alloc (.cells Tryz.zeroCells30 30)
        refine wp_world (fun V => HJ w V w.heap.size (w.heap.size + 1) w1.heap.size w2.heap.size [.pointer (some ⟨o, 0, none⟩), .pointer (some ⟨m, 0, none⟩), .pointer (some ⟨t, 0, none⟩), .pointer (some ⟨x, 0, none⟩), .pointer (some ⟨r, 0, none⟩)] vS vH vB (hostK mem l k) q (Anc.seen mem l k)) ?_ ?_
        · have z2 := f2.size
          have fE := (((f2.alloc (.cells #[Value.int .i64 0, Value.int .u64 0, Value.int .i64 0] 155)).setCells (b := w2.heap.size) (by omega) [Value.int .i64 q.st, .int .u64 q.ow, .int .i64 q.hd] 0).alloc (.cells Tryz.zeroCells30 30))
          refine ⟨⟨fD, by go_simp, by go_simp, by go_simp, by go_simp, by go_simp, by go_simp, hI'.out.o.fr0 fE, by omega, by omega, by go_simp⟩, by go_simp, by go_simp; rfl, by go_simp, by rw [hseen]; go_simp, by omega, fun g hg => Nat.lt_of_lt_of_le (rS'.out g hg) z2, fun g hg => Nat.lt_of_lt_of_le (rH'.out g hg) z2, fun g hg => Nat.lt_of_lt_of_le (rB'.out g hg) z2⟩
        rintro V hJ
        have hX := hJ.toHX
        have hB : NW V.drew (w.heap.size + 1) [vS, vH, vB] := ⟨hJ.hi.i3, hJ.hi.c3⟩
        have q3 := hJ.hi.lt
        have q4 := hJ.lt
        obtain ⟨e1, e2, e3⟩ := hostK_lens mem l k
        refine Tryz.hostReg _ _ _ _ _ _ _ _ _ _ _ _ _ _ _ _ _ _ _ _ _ _ _ _ _ _ _ _ _ _ _ _ _ _ _ _ _ _ _ _ _ _ _ _ _ _ _ _ _ _ _ _ _ _ w V w.heap.size (w.heap.size + 1) w1.heap.size w2.heap.size _ _ q (Anc.seen mem l k) vS vH vB (hostK mem l k).S (hostK mem l k).H (hostK mem l k).B _ (fun c a d v w h => by cases d <;> exact h) hX hB (by omega) (by omega) q4 (by omega)
          (fun g hg => ⟨(hJ.hi.o.s.lt g hg).1, hJ.rS g hg⟩) (fun g hg => ⟨(hJ.hi.o.h.lt g hg).1, hJ.rH g hg⟩) (fun g hg => ⟨(hJ.hi.o.b.lt g hg).1, hJ.rB g hg⟩) (seen_length hM.len hkN) (by omega) (by omega) (by omega) ?_
        intro _ _ _ _ _ _ _ _ _ _ _ _ _ _ _ _ _ _ _ _ W g5 c5 g11 c11 g16 c16 hX2 hB2
        clear hX hB hJ
        go_wp2
        go_roundw
        case rel => exact ⟨k + 1, _, _, _, by omega, by go_num, hX2.toHI hB2 (by omega) (by omega) (hostK_succ mem l k q hq2)⟩
        case measure => simp [intOf]; omega
    · obtain rfl : k = N := by omega
      obtain ⟨aS, nS, cS, rfl⟩ := own_form hI'.out.o.s
      obtain ⟨aH, nH, cH, rfl⟩ := own_form hI'.out.o.h
      obtain ⟨aB, nB, cB, rfl⟩ := own_form hI'.out.o.b
      have hv := fun c => hI'.out.view hM (Nat.le_refl _) (grownBy_setCells w.heap.size c 0 wr) (by omega)
      have hff := hI'.out.f
      have fG : ∀ c, Fr [w.heap.size] wr (wr.setCells w.heap.size 0 c) := fun c => (Fr.refl _ _).setCells (by simp) _ _
      go_wp2
      refine bodyPost_ret (results_c Tryz.agg26 rfl rfl (by go_simp) (by go_simp)) rfl ⟨.slice aS nS cS, .slice aH nH cH, .slice aB nB cB, ?_, ?_, ?_, ?_, ?_, ?_⟩
      · go_simp
      · exact hv _
      · exact hff.setCells (by omega) _ _
      · intro g hg; have := (hI'.out.o.s.lt g hg).1; omega
      · intro g hg; have := (hI'.out.o.h.lt g hg).1; omega
      · intro g hg; have := (hI'.out.o.b.lt g hg).1; omega
end Go.Proofs
