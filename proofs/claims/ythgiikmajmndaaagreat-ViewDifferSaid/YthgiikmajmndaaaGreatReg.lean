/- A region that draws its order, of which a forced store ends what is read: a condition on the world that is asked till that store comes up ('S false'), and another one from there on ('S true'). After the law 'wpAnyH_first' of Derived/OrdersHeld.lean. Conditions: none. -/
import Derived.Test.YthgiikmajmndaaaGreatBld
import Derived.Great.BuildSlice
import Derived.WalkKit
import Derived.Deep.RegionHeld3
namespace Anc
open Go Go.RowKit
section
variable {P : Program} {ops : Array Oper} {Q : Exit → Act → World → Prop} {md : Region.Mode} {S : Bool → World → Prop} {p : Nat}
def wpAnyP (P : Program) (md : Region.Mode) (ops : Array Oper) (Q : Exit → Act → World → Prop) (S : Bool → World → Prop) (p : Nat) : Nat → Array Bool → Act → World → Prop
  | 0, listed, a, w => Region.ready md ops listed = [] ∧ Q .normal a w
  | fuel + 1, listed, a, w =>
    (Region.ready md ops listed = [] → Q .normal a w) ∧
    ∀ i ∈ Region.ready md ops listed, wpOp P ops Q i (fun a' w' => S ((listed.setIfInBounds i true).getD p true) w' ∧ wpAnyP P md ops Q S p fuel (listed.setIfInBounds i true) a' w') a w
theorem wpAny_of_P : ∀ (fuel : Nat) (listed : Array Bool) (a : Act) (w : World), wpAnyP P md ops Q S p fuel listed a w → wpAny P md ops Q fuel listed a w
  | 0, _, _, _, h => h
  | fuel + 1, _, _, _, h => ⟨h.1, fun i hi => wpOp_mono (fun a' w' h' => wpAny_of_P fuel _ a' w' h'.2) (h.2 i hi)⟩
/-- does p wait for i at once? -/
def waitsB (md : Region.Mode) (ops : Array Oper) (p i : Nat) : Bool :=
  match ops[p]? with
  | some o => o.after.any fun e => Region.binds md e && e.on == i
  | none => false
theorem not_ready {listed : Array Bool} {i : Nat} (hw : waitsB md ops p i = true) (hu : listed.getD i true = false) : p ∉ Region.ready md ops listed := by
  intro h
  obtain ⟨_, o, ho, hall⟩ := mem_ready.1 h
  unfold waitsB at hw
  rw [ho] at hw
  obtain ⟨e, he, hb⟩ := Array.any_eq_true'.1 hw
  simp only [Bool.and_eq_true, beq_iff_eq] at hb
  have := hall e he hb.1
  rw [hb.2] at this
  rcases Nat.lt_or_ge i listed.size with h' | h'
  · simp [h'] at this hu; rw [hu] at this; cases this
  · simp [Array.getElem?_eq_none h'] at this
/-- an operation that reads may be taken first -/
theorem wpAnyP_first {i : Nat} {oi : Oper} {v : Value} {T : World → Prop} (hi : ops[i]? = some oi) (hsel : ∀ (j : Nat) (o : Oper) cs b, ops[j]? = some o → o.op ≠ .select cs b)
    (hQ : ∀ c a w, Q (.panic c) (a.put oi.dst v) w → Q (.panic c) a w) (hpi : p ≠ i) (hT : ∀ b w, S b w → (b = true → waitsB md ops p i = false) → T w) :
    ∀ (fuel : Nat) (listed : Array Bool) (a : Act) (w : World),
      (∀ j oj, ops[j]? = some oj → j ≠ i → listed.getD j true = false → (∀ e ∈ oj.after, Region.binds md e = true → e.on ≠ i) → oi.apart ops oj = true) →
      i ∈ Region.ready md ops listed → YieldsIf P ops T oi v a → (waitsB md ops p i = true → listed.getD p true = false) → S (listed.getD p true) w →
      wpAnyP P md ops Q S p fuel (listed.setIfInBounds i true) (a.put oi.dst v) w → wpAnyP P md ops Q S p (fuel + 1) listed a w := by
  intro fuel
  induction fuel with
  | zero =>
    intro listed a w _ hr hy hp hS H
    have hTw : T w := hT _ w hS (fun e => by
      cases hw : waitsB md ops p i with
      | false => rfl
      | true => rw [hp hw] at e; cases e)
    refine ⟨fun h => (by rw [h] at hr; cases hr), fun j hj => ?_⟩
    by_cases hji : j = i
    · subst hji
      exact hy.wpOp hi hTw ⟨by rw [getD_set_ne true (Ne.symm hpi)]; exact hS, H⟩
    · have := ready_mono hj hji
      rw [H.1] at this
      cases this
  | succ fuel ih =>
    intro listed a w hfree hr hy hp hS H
    have hTw : T w := hT _ w hS (fun e => by
      cases hw : waitsB md ops p i with
      | false => rfl
      | true => rw [hp hw] at e; cases e)
    refine ⟨fun h => (by rw [h] at hr; cases hr), fun j hj => ?_⟩
    by_cases hji : j = i
    · subst hji
      exact hy.wpOp hi hTw ⟨by rw [getD_set_ne true (Ne.symm hpi)]; exact hS, H⟩
    · have h1 := H.2 j (ready_mono hj hji)
      obtain ⟨hjun, oj, hoj, hall⟩ := mem_ready.1 hj
      have hiun := (mem_ready.1 hr).1
      have hnot : ∀ e ∈ oj.after, Region.binds md e = true → e.on ≠ i := fun e he hb heq => by
        have h1 := hall e he hb
        rw [heq] at h1
        rcases Nat.lt_or_ge i listed.size with h' | h'
        · simp [h'] at hiun h1; rw [hiun] at h1; cases h1
        · simp [Array.getElem?_eq_none h'] at h1
      have h2 := wpOp_putIf hoj (hfree j oj hoj hji hjun hnot) (fun cs b => hsel i oi cs b hi) (fun cs b => hsel j oj cs b hoj) hQ hy h1
      have hfree' : ∀ k ok, ops[k]? = some ok → k ≠ i → (listed.setIfInBounds j true).getD k true = false →
          (∀ e ∈ ok.after, Region.binds md e = true → e.on ≠ i) → oi.apart ops ok = true := fun k ok hk hki hun hno => by
        refine hfree k ok hk hki ?_ hno
        by_cases hjk : j = k
        · subst hjk; exact hjun
        · rw [getD_set_ne true hjk] at hun; exact hun
      have hp' : waitsB md ops p i = true → (listed.setIfInBounds j true).getD p true = false := fun hw => by
        have : j ≠ p := fun e => not_ready hw hiun (e ▸ hj)
        rw [getD_set_ne true this]; exact hp hw
      refine wpOp_mono (fun a' w' h3 => ?_) h2
      have h4 := h3.2.1
      have h5 := h3.2.2
      rw [Array.setIfInBounds_comm _ _ (Ne.symm hji)] at h4 h5
      have h6 : S ((listed.setIfInBounds j true).getD p true) w' := by
        rw [getD_set_ne true (Ne.symm hpi)] at h4; exact h4
      exact ⟨h6, ih (listed.setIfInBounds j true) a' w' hfree' (ready_mono hr (Ne.symm hji)) h3.1 hp' h6 h5⟩
theorem wpAnyP_takeR {i : Nat} {oi : Oper} {v : Value} {R B : World → Prop} {fuel : Nat} {listed : Array Bool} {a : Act} {w : World} (hi : ops[i]? = some oi)
    (hs : Region.noSelect ops = true) (hf : Region.free md ops listed i = true) (hr : (Region.ready md ops listed).contains i = true) (hpi : p ≠ i) (hp : waitsB md ops p i = true → listed.getD p true = false)
    (hQ : ∀ c a w, Q (.panic c) (a.put oi.dst v) w → Q (.panic c) a w) (hw : Region.wanted oi (yielded ops a.tmps) = true) (hS : R w ∧ (listed.getD p true = false → B w)) (hy : ∀ w, R w → (execOp a.eval oi).run P w = .ok (.value v) w)
    (h : wpAnyP P md ops Q (fun b w => R w ∧ (b = false → B w)) p fuel (listed.setIfInBounds i true) (a.put oi.dst v) w) : wpAnyP P md ops Q (fun b w => R w ∧ (b = false → B w)) p (fuel + 1) listed a w :=
  wpAnyP_first (T := R) hi (Region.noSelect_spec hs) hQ hpi (fun _ _ h _ => h.1) fuel listed a w (Region.free_spec hi hf) (by simpa using hr) (.inl ⟨hw, hy⟩) hp hS h
theorem wpAnyP_takeB {i : Nat} {oi : Oper} {v : Value} {R B : World → Prop} {fuel : Nat} {listed : Array Bool} {a : Act} {w : World} (hi : ops[i]? = some oi)
    (hs : Region.noSelect ops = true) (hf : Region.free md ops listed i = true) (hr : (Region.ready md ops listed).contains i = true) (hpi : p ≠ i) (hwt : waitsB md ops p i = true) (hp : listed.getD p true = false)
    (hQ : ∀ c a w, Q (.panic c) (a.put oi.dst v) w → Q (.panic c) a w) (hw : Region.wanted oi (yielded ops a.tmps) = true) (hS : R w ∧ (listed.getD p true = false → B w)) (hy : ∀ w, R w → B w → (execOp a.eval oi).run P w = .ok (.value v) w)
    (h : wpAnyP P md ops Q (fun b w => R w ∧ (b = false → B w)) p fuel (listed.setIfInBounds i true) (a.put oi.dst v) w) : wpAnyP P md ops Q (fun b w => R w ∧ (b = false → B w)) p (fuel + 1) listed a w :=
  wpAnyP_first (T := fun w => R w ∧ B w) hi (Region.noSelect_spec hs) hQ hpi (fun b w h hb => ⟨h.1, h.2 (by
    cases b with
    | false => rfl
    | true => rw [hb rfl] at hwt; cases hwt)⟩) fuel listed a w (Region.free_spec hi hf) (by simpa using hr) (.inl ⟨hw, fun w h => hy w h.1 h.2⟩) (fun _ => hp) hS h
def AllReadyP (P : Program) (md : Region.Mode) (ops : Array Oper) (Q : Exit → Act → World → Prop) (S : Bool → World → Prop) (p fuel : Nat) (listed : Array Bool) (a : Act) (w : World) (rs : List Nat) : Prop :=
  ∀ i ∈ rs, wpOp P ops Q i (fun a' w' => S ((listed.setIfInBounds i true).getD p true) w' ∧ wpAnyP P md ops Q S p fuel (listed.setIfInBounds i true) a' w') a w
theorem AllReadyP.nil {fuel : Nat} {listed : Array Bool} {a : Act} {w : World} : AllReadyP P md ops Q S p fuel listed a w [] := fun _ h => by cases h
theorem AllReadyP.cons {fuel : Nat} {listed : Array Bool} {a : Act} {w : World} {i : Nat} {o : Oper} {rs : List Nat} (ho : ops[i]? = some o)
    (h : ∀ K' : Act → World → Prop, Shut (∀ a w, S ((listed.setIfInBounds i true).getD p true) w → wpAnyP P md ops Q S p fuel (listed.setIfInBounds i true) a w → K' a w) → if Region.wanted o (yielded ops a.tmps) = true then Oper.wp P o a w K' Q else K' (a.put o.dst undef) w)
    (hs : AllReadyP P md ops Q S p fuel listed a w rs) : AllReadyP P md ops Q S p fuel listed a w (i :: rs) := fun j hj => by
  rcases List.mem_cons.1 hj with rfl | hj
  · exact wpOp_step ho (fun K' hK => h K' (fun a w hS hW => hK a w ⟨hS, hW⟩))
  · exact hs j hj
theorem wpAnyP_ready {rs : List Nat} {fuel : Nat} {listed : Array Bool} {a : Act} {w : World} (hr : Region.ready md ops listed = rs) (hne : rs ≠ [])
    (h : AllReadyP P md ops Q S p fuel listed a w rs) : wpAnyP P md ops Q S p (fuel + 1) listed a w := ⟨fun h0 => absurd (hr ▸ h0) hne, hr ▸ h⟩
theorem wpAnyP_done {listed : Array Bool} {a : Act} {w : World} (hr : Region.ready md ops listed = []) (h : Q .normal a w) : ∀ fuel, wpAnyP P md ops Q S p fuel listed a w
  | 0 => ⟨hr, h⟩
  | _ + 1 => ⟨fun _ => h, by rw [hr]; simp⟩
theorem wp_region_P {id : Nat} {a : Act} {w : World} {R B : World → Prop} (hm : P.follows .mixedOrders = true) (h : wpAnyP P .any ops Q (fun b w => R w ∧ (b = false → B w)) p ops.size (Array.replicate ops.size false) a w.drew) : (Code.region id ops true).wp P Q a w :=
  wp_region_any hm (wpAny_of_P _ _ _ _ h)
end
theorem splice_all' {α : Type} {m l : List α} {k : Nat} (h : m.length = l.length) : splice m (0 * k) l = l := by rw [Nat.zero_mul]; exact splice_all h.symm
/-- one value as a slice of its own -/
theorem buildSlice_one {P : Program} {t e : TypeId} {k : Nat} {l : List Value} (ht : P.underlying t = some (.slice e)) (hi : (P.info? e).map (fun i => (i.size, i.zero.map fun z => z.cells.size)) = some (k, some k)) (hk : 0 < k) (hk2 : k ≤ 10000) (v : Value) (hv : v.cells = l.toArray) (hl : l.length = k) (w : World) :
    (Instr.buildSlice t 1 #[(0, v)]).run P w = .ok (.slice (some ⟨w.heap.size, 0, none⟩) 1 1) (w.alloc (.cells l.toArray e)) := by
  cases hie : P.info? e with
  | none => simp [hie] at hi
  | some ie =>
    cases hz : ie.zero with
    | none => simp [hie, hz] at hi
    | some z =>
      simp only [hie, hz, Option.map_some, Option.some.injEq, Prod.mk.injEq] at hi
      obtain ⟨h1, h2⟩ := hi
      subst h1
      have q1 : ¬ 1 * ie.size > 2 ^ 24 := by omega
      have q2 : ¬ 1 * ie.size = 0 := by omega
      refine run_buildSlice w t e 1 _ _ ie z ht hie hz q1 q2 ?_
      have hlen : ((Array.range (1 * ie.size)).map (fun x => z.cells[x % z.cells.size]!)).toList.length = ie.size := by simp
      have := fill_cons (fun i => some (i * ie.size, ie.size)) ((Array.range (1 * ie.size)).map (fun x => z.cells[x % z.cells.size]!)).toList l 0 (0 * ie.size) ie.size v [] rfl hv hl (by rw [hlen]; omega)
      rw [splice_all' (by rw [hlen, hl]), Array.toArray_toList] at this
      exact this
end Anc
