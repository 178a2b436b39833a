/- What the host sees, 2b: what is known in the region that grows three lists. Conditions: none. -/
import Derived.Test.YthgiikmajmndaaaGreatHost2
namespace Anc
open Go Go.RowKit
/-- block X holds c -/
def NW (W : World) (X : Nat) (c : List Value) : Prop := isB W X = true ∧ blk W X = c
theorem NW.alloc {W : World} {X : Nat} {c : List Value} (h : NW W X c) (o : Obj) : NW (W.alloc o) X c := ⟨(isB_alloc o (isB_lt h.1)).trans h.1, (blk_alloc o (isB_lt h.1)).trans h.2⟩
theorem NW.grown {W W' : World} {row : Option Nat} {X : Nat} {c : List Value} (h : NW W X c) (hg : W.grownBy W' row) (hn : row ≠ some X) : NW W' X c := grown_keep hg h.1 hn h.2
theorem NW.new (W : World) (c : Array Value) (T : TypeId) : NW (W.alloc (.cells c T (0, 0))) W.heap.size c.toList := ⟨isB_alloc_new W c T, blk_alloc_new W c T⟩
theorem NW.lt {W : World} {X : Nat} {c : List Value} (h : NW W X c) : X < W.heap.size := isB_lt h.1
theorem NW.news {W : World} {X : Nat} {c : List Value} (h : NW W X c) : ∀ (j : Nat) (u : Value), c[j]? = some u → W.cell? ((⟨X, 0, none⟩ : Addr).add j) = some u := by
  intro j u hu
  rw [Addr.add_mid, cell_blk h.1, h.2]
  simpa using hu
theorem grownBy_setCell (W : World) (b o : Nat) (v : Value) : W.grownBy (W.setCell ⟨b, o, none⟩ v) (some b) :=
  ⟨rfl, rfl, rfl, by simp [World.setCell], fun k _ hk => Below.heap_setCell _ _ _ _ (fun e => hk (by rw [e]))⟩
/-- what is known of the world in the region: from w on, beside the block b3 -/
structure HX (w W : World) (b2 b4 t6 : Nat) (c2 c4 c6 c8 : List Value) (sS sH sB : Value) (S H : List Int) (Bs : List Bytes) : Prop where
  f : Fr [] w W
  n2 : NW W b2 c2
  n4 : NW W b4 c4
  n6 : NW W t6 c6
  n8 : NW W (t6 + 1) c8
  o : Own3 W (b4 + 1) sS sH sB S H Bs
section
variable {w W W' : World} {b2 b4 t6 : Nat} {c2 c4 c6 c8 : List Value} {sS sH sB : Value} {S H : List Int} {Bs : List Bytes}
theorem HX.r (h : HX w W b2 b4 t6 c2 c4 c6 c8 sS sH sB S H Bs) : NW W t6 c6 ∧ NW W (t6 + 1) c8 := ⟨h.n6, h.n8⟩
theorem HX.alloc (h : HX w W b2 b4 t6 c2 c4 c6 c8 sS sH sB S H Bs) (o : Obj) : HX w (W.alloc o) b2 b4 t6 c2 c4 c6 c8 sS sH sB S H Bs :=
  ⟨h.f.alloc o, h.n2.alloc o, h.n4.alloc o, h.n6.alloc o, h.n8.alloc o, h.o.alloc o⟩
/-- a row between b4 and t6 -/
def RowB (b4 t6 : Nat) (v : Value) : Prop := ∀ g, v.ownBlock = some g → b4 < g ∧ g < t6
theorem RowB.lo {v : Value} (h : RowB b4 t6 v) {b : Nat} (hb : b ≤ b4) : v.ownBlock ≠ some b := fun e => by have := h b e; omega
theorem RowB.hi {v : Value} (h : RowB b4 t6 v) {b : Nat} (hb : t6 ≤ b) : v.ownBlock ≠ some b := fun e => by have := h b e; omega
theorem HX.grownF (h : HX w W b2 b4 t6 c2 c4 c6 c8 sS sH sB S H Bs) {v : Value} (hg : W.grownBy W' v.ownBlock) (hr : RowB b4 t6 v) (h2 : b2 < b4) (hw : w.heap.size ≤ b4) :
    Fr [] w W' ∧ NW W' b2 c2 ∧ NW W' b4 c4 ∧ NW W' t6 c6 ∧ NW W' (t6 + 1) c8 :=
  ⟨h.f.grown hg (fun g hg' hlt => by have := (hr g hg').1; omega), h.n2.grown hg (hr.lo (by omega)), h.n4.grown hg (hr.lo (by omega)), h.n6.grown hg (hr.hi (by omega)), h.n8.grown hg (hr.hi (by omega))⟩
theorem HX.appS (h : HX w W b2 b4 t6 c2 c4 c6 c8 sS sH sB S H Bs) (h2 : b2 < b4) (hw : w.heap.size ≤ b4) (hr : RowB b4 t6 sS) {g c : Nat} {x : Int}
    (ho : W'.ownsRow (b4 + 1) 28 1 (.slice (some ⟨g, 0, none⟩) (S.length + 1) c) (S.length + 1) (i64s S ++ [.int .i64 x])) (hg : W.grownBy W' sS.ownBlock) (hat : sS.ownBlock = some g ∨ g = W.heap.size) :
    HX w W' b2 b4 t6 c2 c4 c6 c8 (.slice (some ⟨g, 0, none⟩) (S.length + 1) c) sH sB (S ++ [x]) H Bs :=
  let ⟨a, b, c, d, e⟩ := h.grownF hg hr h2 hw
  ⟨a, b, c, d, e, h.o.appS ho hg hat⟩
theorem HX.appH (h : HX w W b2 b4 t6 c2 c4 c6 c8 sS sH sB S H Bs) (h2 : b2 < b4) (hw : w.heap.size ≤ b4) (hr : RowB b4 t6 sH) {g c : Nat} {x : Int}
    (ho : W'.ownsRow (b4 + 1) 3 1 (.slice (some ⟨g, 0, none⟩) (H.length + 1) c) (H.length + 1) (i64s H ++ [.int .i64 x])) (hg : W.grownBy W' sH.ownBlock) (hat : sH.ownBlock = some g ∨ g = W.heap.size) :
    HX w W' b2 b4 t6 c2 c4 c6 c8 sS (.slice (some ⟨g, 0, none⟩) (H.length + 1) c) sB S (H ++ [x]) Bs :=
  let ⟨a, b, c, d, e⟩ := h.grownF hg hr h2 hw
  ⟨a, b, c, d, e, h.o.appH ho hg hat⟩
theorem HX.appB (h : HX w W b2 b4 t6 c2 c4 c6 c8 sS sH sB S H Bs) (h2 : b2 < b4) (hw : w.heap.size ≤ b4) (hr : RowB b4 t6 sB) {g c : Nat} {x : Bytes}
    (ho : W'.ownsRow (b4 + 1) 30 128 (.slice (some ⟨g, 0, none⟩) (Bs.length + 1) c) (Bs.length + 1) ((Bs.map u8s).flatten ++ u8s x)) (hg : W.grownBy W' sB.ownBlock) (hat : sB.ownBlock = some g ∨ g = W.heap.size) :
    HX w W' b2 b4 t6 c2 c4 c6 c8 sS sH (.slice (some ⟨g, 0, none⟩) (Bs.length + 1) c) S H (Bs ++ [x]) :=
  let ⟨a, b, c, d, e⟩ := h.grownF hg hr h2 hw
  ⟨a, b, c, d, e, h.o.appB ho hg hat⟩
/-- a store into b3 -/
theorem HX.set (h : HX w W b2 b4 t6 c2 c4 c6 c8 sS sH sB S H Bs) {b3 : Nat} (h2 : b2 < b3) (h4 : b3 < b4) (h6 : b4 < t6) (hw : w.heap.size ≤ b3) (o : Nat) (v : Value) : HX w (W.setCell ⟨b3, o, none⟩ v) b2 b4 t6 c2 c4 c6 c8 sS sH sB S H Bs := by
  have hg := grownBy_setCell W b3 o v
  have hn : ∀ b, b ≠ b3 → (some b3 : Option Nat) ≠ some b := fun b hb e => hb (by injection e with e; exact e.symm)
  refine ⟨h.f.setCell (by simp; omega) v, h.n2.grown hg (hn _ (by omega)), h.n4.grown hg (hn _ (by omega)), h.n6.grown hg (hn _ (by omega)), h.n8.grown hg (hn _ (by omega)), ?_⟩
  exact ⟨kept_of h.o.s hg (fun g h1 => hn g (by have := (h.o.s.lt g h1).1; omega)), kept_of h.o.h hg (fun g h1 => hn g (by have := (h.o.h.lt g h1).1; omega)), kept_of h.o.b hg (fun g h1 => hn g (by have := (h.o.b.lt g h1).1; omega)), h.o.sh, h.o.sb, h.o.hb⟩
end
theorem NW.set {W : World} {X : Nat} {c : List Value} (h : NW W X c) (o : Nat) (v : Value) : NW (W.setCell ⟨X, o, none⟩ v) X (c.set o v) := ⟨(isB_setCell _ _).trans h.1, by rw [blk_setCell_same, h.2]⟩
end Anc
