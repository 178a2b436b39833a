/- When two values of an array or a struct type are the same, as the model finds it, in terms of the lists of their cells. Conditions: the cells are numbers of their kinds, bools, strings. -/
import Derived.Test.YthgiikmajmndaaaGreatKit
import Derived.DeepKeys
namespace Anc
open Go Go.RowKit
theorem mapM_some {α β : Type} (f : α → Option β) (g : α → β) : ∀ (l : List α), (∀ i, i ∈ l → f i = some (g i)) → l.mapM f = some (l.map g)
  | [], _ => rfl
  | a :: l, h => by
    rw [List.mapM_cons, h a (List.mem_cons_self ..), mapM_some f g l fun i hi => h i (List.mem_cons_of_mem _ hi)]
    rfl
section
variable {P : Program}
/-- an array of numbers, read as literals -/
theorem keyLits_ints {T n e : Nat} {q : IntKind} (hT : P.underlying T = some (.array n e)) (he : P.underlying e = some (.int q)) (hc : P.cellsOf e = 1) (hcT : P.cellsOf T = n) (l : List Int) (hl : l.length = n)
    (hw : ∀ x, x ∈ l → (Lit.int q x).wf = true) : P.keyLits 2 T (l.map (Value.int q)) = some (l.map (Lit.int q)) := by
  have h1 : ∀ i, i ∈ List.range n → P.keyLits 1 e (((l.map (Value.int q)).drop (i * 1)).take 1) = some [Lit.int q (l.getD i 0)] := by
    intro i hi
    have hi' : i < l.length := by rw [hl]; exact List.mem_range.1 hi
    have e1 : ((l.map (Value.int q)).drop (i * 1)).take 1 = [Value.int q (l.getD i 0)] := by
      rw [Nat.mul_one, List.drop_eq_getElem_cons (by simpa using hi')]
      simp [hi']
    rw [e1]
    have : (Lit.int q (l.getD i 0)).wf = true := hw _ (by simp [List.getD, hi'])
    simp only [Program.keyLits, he, this, and_self, if_true]
  have h2 : (List.range n).mapM (fun i => P.keyLits 1 e (((l.map (Value.int q)).drop (i * P.cellsOf e)).take (P.cellsOf e))) = some ((List.range n).map fun i => [Lit.int q (l.getD i 0)]) := by
    rw [hc]; exact mapM_some _ _ _ h1
  have h3 : ((List.range n).map fun i => [Lit.int q (l.getD i 0)]).flatten = l.map (Lit.int q) := by
    rw [show ((List.range n).map fun i => [Lit.int q (l.getD i 0)]) = ((List.range n).map fun i => Lit.int q (l.getD i 0)).map (fun x => [x]) by simp]
    rw [← List.flatMap_def, List.flatMap_singleton']
    apply List.ext_getElem?
    intro i
    simp only [List.getElem?_map]
    by_cases hi : i < n
    · simp [hi, show i < l.length by omega]
    · simp [hi, show ¬ i < l.length by omega]
  unfold Program.keyLits
  simp only [hT, List.length_map, hl, hcT, if_true]
  rw [h2]
  exact congrArg some h3
/-- two lists of numbers as literals -/
theorem lits_inj (q : IntKind) : ∀ (a b : List Int), a.map (Lit.int q) = b.map (Lit.int q) ↔ a = b
  | [], [] => by simp
  | [], _ :: _ => by simp
  | _ :: _, [] => by simp
  | x :: a, y :: b => by simp [lits_inj q a b]
/-- an array of n numbers of kind q -/
structure ArrT (P : Program) (T n : Nat) (q : IntKind) : Prop where
  ex : ∃ e, P.underlying T = some (.array n e) ∧ P.underlying e = some (.int q) ∧ P.cellsOf e = 1
  cells : P.cellsOf T = n
  key : P.keyTypeAt 2 T = true
theorem equal_arr {T n : Nat} {q : IntKind} (h : ArrT P T n q) (w : World) (d : Nat) (a b : List Int) (ha : a.length = n) (hb : b.length = n) (wa : ∀ x, x ∈ a → (Lit.int q x).wf = true) (wb : ∀ x, x ∈ b → (Lit.int q x).wf = true) :
    (Op.equalIn (d + 2) T (.agg (a.map (Value.int q)).toArray) (.agg (b.map (Value.int q)).toArray)).run P w = .ok (decide (a = b)) w := by
  obtain ⟨⟨e, hT, he, hc⟩, hcT, hk⟩ := h
  have f : ∀ l : List Int, l.length = n → (Value.agg (l.map (Value.int q)).toArray).formed P T = true := by
    intro l hl; simp [Value.formed, hT, hcT, hl]
  obtain ⟨r, hr, hiff⟩ := run_equalIn_deep (P := P) d 2 T hk w 2 2 (.agg (a.map (Value.int q)).toArray) (.agg (b.map (Value.int q)).toArray) _ _ (f a ha) (f b hb)
    (by simpa [Value.cells] using keyLits_ints hT he hc hcT a ha wa) (by simpa [Value.cells] using keyLits_ints hT he hc hcT b hb wb)
  rw [hr]
  congr 1
  rw [lits_inj] at hiff
  cases r <;> simp_all
theorem wf_u8 {l : Bytes} (h : AllB l) : ∀ x, x ∈ l → (Lit.int .u8 x).wf = true := fun x hx => by
  have := h x hx
  exact WalkArith.wf_u8 (by omega)
end
/-- '==' and '!=' on arrays of bytes, as one operation -/
def eqlBlk (T : TypeId) (x y : Value) : Sem Value := binOp .eql T x y
def neqBlk (T : TypeId) (x y : Value) : Sem Value := binOp .neq T x y
theorem eqlBlk_run {P : Program} {T n : Nat} (h : ArrT P T n .u8) (w : World) (a b : Bytes) (ha : a.length = n) (hb : b.length = n) (wa : AllB a) (wb : AllB b) :
    (eqlBlk T (.agg (u8s a).toArray) (.agg (u8s b).toArray)).run P w = .ok (.bool (decide (a = b))) w := by
  have := equal_arr h w 9998 a b ha hb (wf_u8 wa) (wf_u8 wb)
  unfold eqlBlk
  simp only [binOp, Op.equal, Op.maxDepth, u8s, Sem.run_bind, this, Result.andThen_ok, Sem.run_pure]
theorem neqBlk_run {P : Program} {T n : Nat} (h : ArrT P T n .u8) (w : World) (a b : Bytes) (ha : a.length = n) (hb : b.length = n) (wa : AllB a) (wb : AllB b) :
    (neqBlk T (.agg (u8s a).toArray) (.agg (u8s b).toArray)).run P w = .ok (.bool (!decide (a = b))) w := by
  have := equal_arr h w 9998 a b ha hb (wf_u8 wa) (wf_u8 wb)
  unfold neqBlk
  simp only [binOp, Op.equal, Op.maxDepth, u8s, Sem.run_bind, this, Result.andThen_ok, Sem.run_pure]
end Anc
namespace Go.Proofs
open Go Anc
theorem Tryz.arr36 : ArrT Tryz.prog 36 32 .u8 := ⟨⟨_, Tryz.underlying36, Tryz.underlying5, by kernel_rfl⟩, by kernel_rfl, by kernel_rfl⟩
theorem Tryz.arr30 : ArrT Tryz.prog 30 128 .u8 := ⟨⟨_, Tryz.underlying30, Tryz.underlying5, by kernel_rfl⟩, by kernel_rfl, by kernel_rfl⟩
theorem Tryz.arr405 : ArrT Tryz.prog 405 8 .u8 := ⟨⟨_, Tryz.underlying405, Tryz.underlying5, by kernel_rfl⟩, by kernel_rfl, by kernel_rfl⟩
theorem Tryz.oe36 (x y : Value) : binOp .eql 36 x y = eqlBlk 36 x y := rfl
theorem Tryz.on36 (x y : Value) : binOp .neq 36 x y = neqBlk 36 x y := rfl
theorem Tryz.oe30 (x y : Value) : binOp .eql 30 x y = eqlBlk 30 x y := rfl
theorem Tryz.on30 (x y : Value) : binOp .neq 30 x y = neqBlk 30 x y := rfl
theorem Tryz.oe405 (x y : Value) : binOp .eql 405 x y = eqlBlk 405 x y := rfl
theorem Tryz.on405 (x y : Value) : binOp .neq 405 x y = neqBlk 405 x y := rfl
theorem Tryz.eql36 (w : World) (a b : Bytes) (ha : a.length = 32) (hb : b.length = 32) (wa : AllB a) (wb : AllB b) : (eqlBlk 36 (.agg (u8s a).toArray) (.agg (u8s b).toArray)).run Tryz.prog w = .ok (.bool (decide (a = b))) w := eqlBlk_run Tryz.arr36 w a b ha hb wa wb
theorem Tryz.neq36 (w : World) (a b : Bytes) (ha : a.length = 32) (hb : b.length = 32) (wa : AllB a) (wb : AllB b) : (neqBlk 36 (.agg (u8s a).toArray) (.agg (u8s b).toArray)).run Tryz.prog w = .ok (.bool (!decide (a = b))) w := neqBlk_run Tryz.arr36 w a b ha hb wa wb
theorem Tryz.eql30 (w : World) (a b : Bytes) (ha : a.length = 128) (hb : b.length = 128) (wa : AllB a) (wb : AllB b) : (eqlBlk 30 (.agg (u8s a).toArray) (.agg (u8s b).toArray)).run Tryz.prog w = .ok (.bool (decide (a = b))) w := eqlBlk_run Tryz.arr30 w a b ha hb wa wb
theorem Tryz.neq30 (w : World) (a b : Bytes) (ha : a.length = 128) (hb : b.length = 128) (wa : AllB a) (wb : AllB b) : (neqBlk 30 (.agg (u8s a).toArray) (.agg (u8s b).toArray)).run Tryz.prog w = .ok (.bool (!decide (a = b))) w := neqBlk_run Tryz.arr30 w a b ha hb wa wb
theorem Tryz.eql405 (w : World) (a b : Bytes) (ha : a.length = 8) (hb : b.length = 8) (wa : AllB a) (wb : AllB b) : (eqlBlk 405 (.agg (u8s a).toArray) (.agg (u8s b).toArray)).run Tryz.prog w = .ok (.bool (decide (a = b))) w := eqlBlk_run Tryz.arr405 w a b ha hb wa wb
theorem Tryz.neq405 (w : World) (a b : Bytes) (ha : a.length = 8) (hb : b.length = 8) (wa : AllB a) (wb : AllB b) : (neqBlk 405 (.agg (u8s a).toArray) (.agg (u8s b).toArray)).run Tryz.prog w = .ok (.bool (!decide (a = b))) w := neqBlk_run Tryz.arr405 w a b ha hb wa wb
attribute [go_sem ↓] Tryz.oe36 Tryz.on36 Tryz.oe30 Tryz.on30 Tryz.oe405 Tryz.on405
attribute [go_sem] Tryz.eql36 Tryz.neq36 Tryz.eql30 Tryz.neq30 Tryz.eql405 Tryz.neq405
end Go.Proofs
