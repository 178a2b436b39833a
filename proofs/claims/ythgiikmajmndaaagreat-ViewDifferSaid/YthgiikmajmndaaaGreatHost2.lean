/- What the host sees, 2: lists that are grown side by side. Conditions: none. -/
import Derived.Test.YthgiikmajmndaaaGreatHost
import Derived.Test.YthgiikmajmndaaaGreatReg
import Derived.Deep.AppendLies
namespace Anc
open Go Go.RowKit
theorem flat_sub {α : Type} (k : Nat) : ∀ (L : List (List α)) (i : Nat) (x : List α), (∀ y ∈ L, y.length = k) → L[i]? = some x → sub L.flatten (i * k) k = x
  | [], i, x, _, h => by simp at h
  | y :: L, 0, x, hl, h => by
    simp at h
    subst h
    rw [List.flatten_cons, Nat.zero_mul]
    have hy := hl y (List.mem_cons_self ..)
    exact sub_app hy
  | y :: L, i + 1, x, hl, h => by
    have hy := hl y (List.mem_cons_self ..)
    have ih := flat_sub k L i x (fun z hz => hl z (List.mem_cons_of_mem _ hz)) (by simpa using h)
    rw [← ih, List.flatten_cons]
    unfold sub
    rw [Nat.add_mul, Nat.one_mul, Nat.add_comm, ← List.drop_drop, ← hy, List.drop_left]
theorem slG_of_owns {w : World} {B e : Nat} {v : Value} {l : List Bytes} (h : w.ownsRow B e 128 v l.length (l.map u8s).flatten) (hg : GrL l) : SlG w v l := by
  have hlen : ∀ y ∈ l.map u8s, y.length = 128 := by
    intro y hy
    obtain ⟨x, hx, rfl⟩ := List.mem_map.1 hy
    rw [u8s_length]; exact (hg x hx).1
  obtain ⟨_, ⟨rfl, hn⟩ | ⟨g, cap, cur, rfl, hb, hgr, hc, _, hs, ht⟩⟩ := h
  · have : l = [] := List.length_eq_zero_iff.1 hn
    subst this
    exact ⟨none, 0, rfl, fun i x hx => by simp at hx⟩
  · refine ⟨some ⟨g, 0, none⟩, cap, by simp, fun i x hx => ⟨g, 0, rfl, by simp [isR, hgr], ?_, ?_⟩⟩
    · have hi : i < l.length := by simpa using (List.getElem?_eq_some_iff.1 hx).1
      have e1 : Anc.rd w g = cur.toList := by simp [Anc.rd, hgr]
      rw [e1]
      have : cur.size = cap * 128 := by omega
      simp only [Array.length_toList]
      have : i * 128 + 128 ≤ l.length * 128 := by omega
      have : l.length * 128 ≤ cap * 128 := by omega
      omega
    · have hi : i < l.length := by simpa using (List.getElem?_eq_some_iff.1 hx).1
      have e1 : Anc.rd w g = cur.toList := by simp [Anc.rd, hgr]
      rw [e1, Nat.zero_add]
      have h2 := flat_sub 128 _ i x hlen hx
      rw [← ht] at h2
      rw [← h2]
      unfold sub
      rw [List.drop_take, List.take_take]
      congr 1
      have : i * 128 + 128 ≤ l.length * 128 := by omega
      omega
/-- no block in common -/
def disj (u v : Value) : Prop := ∀ g, u.ownBlock = some g → v.ownBlock ≠ some g
theorem disj.symm {u v : Value} (h : disj u v) : disj v u := fun g h1 h2 => h g h2 h1
theorem kept_of {W W' : World} {row : Option Nat} {B e k n : Nat} {v : Value} {l : List Value} (h : W.ownsRow B e k v n l) (hg : W.grownBy W' row) (hd : ∀ g, v.ownBlock = some g → row ≠ some g) : W'.ownsRow B e k v n l := by
  refine h.kept hg ?_
  cases hv : v.ownBlock with
  | none => exact .inl rfl
  | some g => exact .inr fun e => hd g hv e.symm
theorem disj_new {W : World} {v u : Value} {g n c B e k n' : Nat} {l : List Value} (hd : disj v u) (hat : v.ownBlock = some g ∨ g = W.heap.size) (hu : W.ownsRow B e k u n' l) : disj (.slice (some ⟨g, 0, none⟩) n c) u := by
  intro g' hg' h
  simp [Value.ownBlock] at hg'
  subst hg'
  rcases hat with h1 | h1
  · exact hd g h1 h
  · have := (hu.lt g h).2
    omega
/-- three lists, each with a row of its own, from block B on -/
structure Own3 (W : World) (B : Nat) (vS vH vB : Value) (S H : List Int) (Bs : List Bytes) : Prop where
  s : W.ownsRow B 28 1 vS S.length (i64s S)
  h : W.ownsRow B 3 1 vH H.length (i64s H)
  b : W.ownsRow B 30 128 vB Bs.length (Bs.map u8s).flatten
  sh : disj vS vH
  sb : disj vS vB
  hb : disj vH vB
theorem Own3.nil (W : World) (B : Nat) : Own3 W B (.slice none 0 0) (.slice none 0 0) (.slice none 0 0) [] [] [] :=
  ⟨World.ownsRow_nil _ _ _ _, World.ownsRow_nil _ _ _ _, World.ownsRow_nil _ _ _ _, fun g h => by simp [Value.ownBlock] at h, fun g h => by simp [Value.ownBlock] at h, fun g h => by simp [Value.ownBlock] at h⟩
section
variable {W W' : World} {B : Nat} {vS vH vB : Value} {S H : List Int} {Bs : List Bytes}
theorem Own3.alloc (h : Own3 W B vS vH vB S H Bs) (o : Obj) : Own3 (W.alloc o) B vS vH vB S H Bs := ⟨h.s.alloc o, h.h.alloc o, h.b.alloc o, h.sh, h.sb, h.hb⟩
theorem Own3.fr0 (h : Own3 W B vS vH vB S H Bs) (f : Fr [] W W') : Own3 W' B vS vH vB S H Bs := ⟨owns_fr h.s f, owns_fr h.h f, owns_fr h.b f, h.sh, h.sb, h.hb⟩
theorem Own3.appS (h : Own3 W B vS vH vB S H Bs) {g c : Nat} {x : Int} (ho : W'.ownsRow B 28 1 (.slice (some ⟨g, 0, none⟩) (S.length + 1) c) (S.length + 1) (i64s S ++ [.int .i64 x])) (hg : W.grownBy W' vS.ownBlock) (hat : vS.ownBlock = some g ∨ g = W.heap.size) :
    Own3 W' B (.slice (some ⟨g, 0, none⟩) (S.length + 1) c) vH vB (S ++ [x]) H Bs :=
  ⟨by rw [i64s_snoc, List.length_append]; exact ho, kept_of h.h hg (fun g h1 h2 => h.sh g h2 h1), kept_of h.b hg (fun g h1 h2 => h.sb g h2 h1), disj_new h.sh hat h.h, disj_new h.sb hat h.b, h.hb⟩
theorem Own3.appH (h : Own3 W B vS vH vB S H Bs) {g c : Nat} {x : Int} (ho : W'.ownsRow B 3 1 (.slice (some ⟨g, 0, none⟩) (H.length + 1) c) (H.length + 1) (i64s H ++ [.int .i64 x])) (hg : W.grownBy W' vH.ownBlock) (hat : vH.ownBlock = some g ∨ g = W.heap.size) :
    Own3 W' B vS (.slice (some ⟨g, 0, none⟩) (H.length + 1) c) vB S (H ++ [x]) Bs :=
  ⟨kept_of h.s hg (fun g h1 h2 => h.sh g h1 h2), by rw [i64s_snoc, List.length_append]; exact ho, kept_of h.b hg (fun g h1 h2 => h.hb g h2 h1), (disj_new h.sh.symm hat h.s).symm, h.sb, disj_new h.hb hat h.b⟩
theorem Own3.appB (h : Own3 W B vS vH vB S H Bs) {g c : Nat} {x : Bytes} (ho : W'.ownsRow B 30 128 (.slice (some ⟨g, 0, none⟩) (Bs.length + 1) c) (Bs.length + 1) ((Bs.map u8s).flatten ++ u8s x)) (hg : W.grownBy W' vB.ownBlock) (hat : vB.ownBlock = some g ∨ g = W.heap.size) :
    Own3 W' B vS vH (.slice (some ⟨g, 0, none⟩) (Bs.length + 1) c) S H (Bs ++ [x]) :=
  ⟨kept_of h.s hg (fun g h1 h2 => h.sb g h1 h2), kept_of h.h hg (fun g h1 h2 => h.hb g h1 h2), by rw [List.length_append, List.map_append, List.flatten_append]; simpa using ho, h.sh, (disj_new h.sb.symm hat h.s).symm, (disj_new h.hb.symm hat h.h).symm⟩
end
/-- what the host sees of a granule -/
def seen (mem : Bytes) (l : List RowG) (g : Nat) : Bytes := if (l.getD g ⟨0, 0, 0⟩).st = 0 then getG mem g else g0
/-- what the host sees of the first k granules -/
def hostK (mem : Bytes) (l : List RowG) (k : Nat) : VW := ⟨(l.take k).map (·.st), (l.take k).map (·.hd), (List.range k).map (seen mem l)⟩
end Anc
