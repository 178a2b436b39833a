/- Contracts of what makes a monitor, 2. Conditions: no draws, no words of entropy. -/
import Derived.Test.YthgiikmajmndaaaGreatMon
namespace Anc
open Go Go.RowKit
theorem Fr.cellF {w W : World} (f : Fr [] w W) {b o : Nat} (hb : b < w.heap.size) {v : Value} (h : w.cell? ⟨b, o, none⟩ = some v) : W.cell? ⟨b, o, none⟩ = some v :=
  (World.cell?_of_block (a := ⟨b, o, none⟩) (f.block b hb (by simp))).trans h
theorem FreshO.fr0 {w w' : World} {o : Nat} {i : Bool} (h : FreshO w o i) (f : Fr [] w w') : FreshO w' o i := h.fr f (by simp)
theorem RowP.fr0 {w w' : World} {t d : Nat} {l : List RowG} (h : RowP w t d l) (f : Fr [] w w') : RowP w' t d l := h.fr f (by simp) (by simp)
theorem MemP.fr0 {w w' : World} {m d N : Nat} {mem : Bytes} (h : MemP w m d N mem) (f : Fr [] w w') : MemP w' m d N mem := h.fr f (by simp) (by simp)
/-- a monitor: its block p, memory m (bytes in d), rows t (in e) -/
structure MonP (w : World) (p m d N : Nat) (mem : Bytes) (t e : Nat) (l : List RowG) : Prop where
  bp : isB w p = true
  cp : ∃ o x r q en us ins rel, blk w p = [.pointer (some ⟨o, 0, none⟩), .pointer (some ⟨m, 0, none⟩), .pointer (some ⟨t, 0, none⟩), .pointer (some ⟨x, 0, none⟩), .pointer (some ⟨r, 0, none⟩), .map (some q), en, us, ins, rel]
  mp : MemP w m d N mem
  rp : RowP w t e l
  nl : l.length = N
  apart : p ≠ m ∧ p ≠ d ∧ p ≠ t ∧ p ≠ e ∧ m ≠ t ∧ m ≠ e ∧ d ≠ t ∧ d ≠ e
theorem mon_apart {w : World} {p m d N t e : Nat} {mem : Bytes} {l : List RowG} {c : List Value} (h : blk w p = c) (hc : c.length = 10) (mp : MemP w m d N mem) (rp : RowP w t e l) : p ≠ m ∧ p ≠ d ∧ p ≠ t ∧ p ≠ e := by
  refine ⟨?_, ?_, ?_, ?_⟩
  · rintro rfl
    rw [mp.cm] at h
    subst h
    simp at hc
  · rintro rfl
    rw [mp.cd] at h
    subst h
    rw [u8s_length] at hc
    have := mp.len
    omega
  · rintro rfl
    rw [rp.ct] at h
    subst h
    simp at hc
  · rintro rfl
    rw [rp.cd] at h
    subst h
    rw [rowCells_length] at hc
    omega
theorem mkMon {w3 W : World} {p m d N t e o x r q : Nat} {mem : Bytes} {l : List RowG} {en us ins rel : Value} (hM : MemP w3 m d N mem) (hR : RowP w3 t e l) (f : Fr [] w3 W) (hb : isB W p = true)
    (hc : blk W p = [.pointer (some ⟨o, 0, none⟩), .pointer (some ⟨m, 0, none⟩), .pointer (some ⟨t, 0, none⟩), .pointer (some ⟨x, 0, none⟩), .pointer (some ⟨r, 0, none⟩), .map (some q), en, us, ins, rel])
    (hl : l.length = N) (n1 : m ≠ t) (n2 : m ≠ e) (n3 : d ≠ t) (n4 : d ≠ e) : MonP W p m d N mem t e l := by
  obtain ⟨a1, a2, a3, a4⟩ := mon_apart hc rfl (hM.fr0 f) (hR.fr0 f)
  exact ⟨hb, ⟨_, _, _, _, _, _, _, _, hc⟩, hM.fr0 f, hR.fr0 f, hl, a1, a2, a3, a4, n1, n2, n3, n4⟩
end Anc
namespace Go.Proofs
open Go Go.RowKit Anc
theorem Tryz.realmNew34 (o : Nat) (i : Bool) (w : World) (h : FreshO w o i) : Calls Tryz.prog 34 #[.pointer (some ⟨o, 0, none⟩)] w fun e w' => ∃ x, e = .returned (.pointer (some ⟨x, 0, none⟩)) ∧ Fr [] w w' := by
  have hmm := @run_makeMap Tryz.prog
  go_enter Tryz.func34, Tryz.ntmps34
  go_wp2_with (go_at_call 44; refine (Tryz.copy44 o i _ h).mono ?_; rintro e w1 ⟨o', rfl, f⟩)
  go_ret
  exact ⟨_, rfl, (f.alloc _).alloc _⟩
set_option maxRecDepth 100000 in
set_option maxHeartbeats 1000000 in
theorem Tryz.newMon11 (N : Nat) (i : Bool) (D : Bytes) (w : World) (h1 : 1 ≤ N) (h2 : N ≤ 4096) (hD : D.length = 32) :
    Calls Tryz.prog 11 #[.agg ([Value.int .i64 N, .bool i] ++ u8s D ++ [Value.slice none 0 0, Value.slice none 0 0]).toArray] w fun e w' => ∃ p m d t e', e = .returned (.tuple #[.pointer (some ⟨p, 0, none⟩), .int .i64 0]) ∧
      MonP w' p m d N (List.replicate (N * 128) 0) t e' (List.replicate N ⟨0, 0, 0⟩) ∧ Fr [] w w' := by
  have hmm := @run_makeMap Tryz.prog
  have c32 := fun (W : World) => Tryz.newO32 i D W hD
  obtain ⟨e0, e1, e2, e3, e4, e5, e6, e7, e8, e9, e10, e11, e12, e13, e14, e15, e16, e17, e18, e19, e20, e21, e22, e23, e24, e25, e26, e27, e28, e29, e30, e31, rfl⟩ := len32 hD
  simp only [u8s, List.map_cons, List.map_nil, List.cons_append, List.nil_append] at c32 ⊢
  have c32' := Lib.hid c32
  clear c32
  go_enter Tryz.func11, Tryz.ntmps11
  go_wp2_with (first
    | (go_at_call 30; refine (Tryz.newMemP N h1 h2 _).mono ?_; rintro e w1 ⟨rfl, hM, f1⟩; obtain ⟨_, _, _, _⟩ := keep4 f1 (b := w.heap.size) (by go_simp) (by simp) (by go_simp; rfl))
    | (go_at_call 31; refine (Tryz.newRowsP N h1 h2 _).mono ?_; rintro e w2 ⟨rfl, hR, f2⟩; obtain ⟨_, _, _, _⟩ := keep4 f2 (b := w.heap.size) (by go_simp) (by simp) (by go_simp; rfl))
    | (go_at_call 32; refine (c32'.out _).mono ?_; rintro e w3 ⟨o, rfl, ho, hF, f3⟩; obtain ⟨_, _, _, _⟩ := keep4 f3 (b := w.heap.size) (by go_simp) (by simp) (by go_simp; rfl)))
  have hM3 := (hM.fr0 f2).fr0 f3
  have hsz : ∀ o, (w.alloc o).heap.size = w.heap.size + 1 := fun o => by simp
  rw [hsz] at hM3
  have zm := isB_lt hM.bm
  rw [hsz] at zm
  clear hsz
  have hR3 := hR.fr0 f3
  have fw : Fr [] w w3 := (((((Fr.refl [] w).alloc _).trans' f1).trans' f2).trans' f3)
  have zz1 := f1.size
  have zz2 := f2.size
  have zz3 := f3.size
  have q1 : w.heap.size < w3.heap.size := by simp at zz1; omega
  have c35 : w3.cell? ⟨w.heap.size, 35, none⟩ = some (.slice none 0 0) := by go_simp
  have hS : ∀ W, Fr [] w3 W → W.cell? ⟨w.heap.size, 35, none⟩ = some (.slice none 0 0) ∧ Fr [] w3 W := fun W f => ⟨f.cellF q1 c35, f⟩
  have n1 : w.heap.size + 1 + 1 ≠ w1.heap.size + 1 := by omega
  have n2 : w.heap.size + 1 + 1 ≠ w1.heap.size := by omega
  have n3 : w.heap.size + 1 ≠ w1.heap.size + 1 := by omega
  have n4 : w.heap.size + 1 ≠ w1.heap.size := by omega
  have hS' := Lib.hid hS
  have hF' := Lib.hid hF
  clear hS hF c32'
  go_region_held3 (fun W => W.cell? ⟨w.heap.size, 35, none⟩ = some (.slice none 0 0) ∧ Fr [] w3 W)
    (first | with_reducible exact hS'.out _ (Fr.drew (Fr.refl _ _)) | with_reducible exact hS'.out _ (And.right (by assumption)) | with_reducible exact hS'.out _ (Fr.alloc (And.right (by assumption)) _) | with_reducible exact hS'.out _ (Fr.alloc (by assumption) _) | with_reducible exact hS'.out _ (Fr.trans' (And.right (by assumption)) fq) | with_reducible exact hS'.out _ (Fr.trans' (by assumption) fq))
    (first
      | (go_at_call 33; refine (Tryz.newTabP _ _ _).mono ?_; rintro e w4 ⟨rfl, _, _, fq⟩)
      | (go_at_call 34; refine (Tryz.realmNew34 o i _ (hF'.out.fr0 (And.right (by assumption)))).mono ?_; rintro e w4 ⟨x, rfl, fq⟩)
      | (go_at_call 35; refine (Tryz.clone35_nil _).mono ?_; rintro e w' ⟨rfl, rfl⟩))
  all_goals
    go_wp2
    go_ret2
    exact ⟨_, _, _, _, _, rfl, mkMon hM3 hR3 (And.right (by assumption)) (by go_simp) (blk_alloc_at (by simp)) (by simp) n1 n2 n3 n4, fw.trans' (And.right (by assumption))⟩
end Go.Proofs
