/- Maps as lists of entries: look-ups and stores as laws on these lists. Conditions: the keys are good for their type. -/
import Derived.Test.YthgiikmajmndaaaGreatEq
namespace Anc
open Go Go.RowKit Go.Instr
/-- a map's entries; is it one; its clock -/
def ents (w : World) (r : Nat) : List MapEntry := match w.heap[r]? with | some (.map es _) => es.toList | _ => []
def clk (w : World) (r : Nat) : Nat := match w.heap[r]? with | some (.map _ c) => c | _ => 0
def isM (w : World) (r : Nat) : Bool := match w.heap[r]? with | some (.map _ _) => true | _ => false
/-- a block set -/
def putO (w : World) (r : Nat) (o : Obj) : World := { w with heap := w.heap.setIfInBounds r o }
theorem isM_spec {w : World} {r : Nat} (h : isM w r = true) : w.heap[r]? = some (.map (ents w r).toArray (clk w r)) := by
  unfold isM at h
  split at h
  · rename_i es c hb; simp [ents, clk, hb]
  · cases h
theorem isM_lt {w : World} {r : Nat} (h : isM w r = true) : r < w.heap.size := lt_of_block (isM_spec h)
theorem isM_mk {w : World} {r : Nat} {es : Array MapEntry} {c : Nat} (h : w.heap[r]? = some (.map es c)) : isM w r = true := by simp [isM, h]
theorem ents_mk {w : World} {r : Nat} {es : Array MapEntry} {c : Nat} (h : w.heap[r]? = some (.map es c)) : ents w r = es.toList := by simp [ents, h]
theorem clk_mk {w : World} {r : Nat} {es : Array MapEntry} {c : Nat} (h : w.heap[r]? = some (.map es c)) : clk w r = c := by simp [clk, h]
section
variable {w w' : World} {r : Nat}
theorem ents_of_heap (h : w'.heap[r]? = w.heap[r]?) : ents w' r = ents w r := by simp [ents, h]
theorem clk_of_heap (h : w'.heap[r]? = w.heap[r]?) : clk w' r = clk w r := by simp [clk, h]
theorem isM_of_heap (h : w'.heap[r]? = w.heap[r]?) : isM w' r = isM w r := by simp [isM, h]
theorem ents_alloc (o : Obj) (h : r < w.heap.size) : ents (w.alloc o) r = ents w r := ents_of_heap (Below.heap_alloc _ _ _ h)
theorem clk_alloc (o : Obj) (h : r < w.heap.size) : clk (w.alloc o) r = clk w r := clk_of_heap (Below.heap_alloc _ _ _ h)
theorem isM_alloc (o : Obj) (h : r < w.heap.size) : isM (w.alloc o) r = isM w r := isM_of_heap (Below.heap_alloc _ _ _ h)
theorem ents_drew : ents w.drew r = ents w r := ents_of_heap rfl
theorem clk_drew : clk w.drew r = clk w r := clk_of_heap rfl
theorem isM_drew : isM w.drew r = isM w r := isM_of_heap rfl
theorem heap_setCell_of {a : Addr} {v : Value} (h : r ≠ a.block) : (w.setCell a v).heap[r]? = w.heap[r]? := Below.heap_setCell _ _ _ _ h
theorem heap_setCells_of {b : Nat} (h : r ≠ b) : ∀ (l : List Value) (o : Nat) (w : World), (w.setCells b o l).heap[r]? = w.heap[r]?
  | [], _, _ => rfl
  | v :: l, o, w => by rw [World.setCells, heap_setCells_of h l, heap_setCell_of (by simpa using h)]
theorem ents_setCell {a : Addr} {v : Value} (h : r ≠ a.block) : ents (w.setCell a v) r = ents w r := ents_of_heap (heap_setCell_of h)
theorem clk_setCell {a : Addr} {v : Value} (h : r ≠ a.block) : clk (w.setCell a v) r = clk w r := clk_of_heap (heap_setCell_of h)
theorem isM_setCell {a : Addr} {v : Value} (h : r ≠ a.block) : isM (w.setCell a v) r = isM w r := isM_of_heap (heap_setCell_of h)
theorem ents_setCells {b o : Nat} {l : List Value} (h : r ≠ b) : ents (w.setCells b o l) r = ents w r := ents_of_heap (heap_setCells_of h _ _ _)
theorem clk_setCells {b o : Nat} {l : List Value} (h : r ≠ b) : clk (w.setCells b o l) r = clk w r := clk_of_heap (heap_setCells_of h _ _ _)
theorem isM_setCells {b o : Nat} {l : List Value} (h : r ≠ b) : isM (w.setCells b o l) r = isM w r := isM_of_heap (heap_setCells_of h _ _ _)
theorem ents_new (es : Array MapEntry) (c : Nat) : ents (w.alloc (.map es c)) w.heap.size = es.toList := ents_mk (heap_alloc_new w _)
theorem clk_new (es : Array MapEntry) (c : Nat) : clk (w.alloc (.map es c)) w.heap.size = c := clk_mk (heap_alloc_new w _)
theorem isM_new (es : Array MapEntry) (c : Nat) : isM (w.alloc (.map es c)) w.heap.size = true := isM_mk (heap_alloc_new w _)
theorem ents_at {es : Array MapEntry} {c : Nat} (h : w.heap.size = r) : ents (w.alloc (.map es c)) r = es.toList := by subst h; exact ents_new es c
theorem clk_at {es : Array MapEntry} {c : Nat} (h : w.heap.size = r) : clk (w.alloc (.map es c)) r = c := by subst h; exact clk_new es c
theorem isM_at {es : Array MapEntry} {c : Nat} (h : w.heap.size = r) : isM (w.alloc (.map es c)) r = true := by subst h; exact isM_new es c
theorem heap_putO (o : Obj) (h : r < w.heap.size) : (putO w r o).heap[r]? = some o := by simp [putO, h]
theorem heap_putO_of {k : Nat} (o : Obj) (h : k ≠ r) : (putO w r o).heap[k]? = w.heap[k]? := by
  simp only [putO, Array.getElem?_setIfInBounds]
  rw [if_neg (fun e => h e.symm)]
theorem size_putO (o : Obj) : (putO w r o).heap.size = w.heap.size := by simp [putO]
theorem size_drew : w.drew.heap.size = w.heap.size := by have : w.drew.heap = w.heap := rfl
                                                         rw [this]
theorem ents_putO (es : Array MapEntry) (c : Nat) (h : r < w.heap.size) : ents (putO w r (.map es c)) r = es.toList := ents_mk (heap_putO _ h)
theorem clk_putO (es : Array MapEntry) (c : Nat) (h : r < w.heap.size) : clk (putO w r (.map es c)) r = c := clk_mk (heap_putO _ h)
theorem isM_putO (es : Array MapEntry) (c : Nat) (h : r < w.heap.size) : isM (putO w r (.map es c)) r = true := isM_mk (heap_putO _ h)
theorem ents_putO_of {k : Nat} (o : Obj) (h : k ≠ r) : ents (putO w r o) k = ents w k := ents_of_heap (heap_putO_of o h)
theorem clk_putO_of {k : Nat} (o : Obj) (h : k ≠ r) : clk (putO w r o) k = clk w k := clk_of_heap (heap_putO_of o h)
theorem isM_putO_of {k : Nat} (o : Obj) (h : k ≠ r) : isM (putO w r o) k = isM w k := isM_of_heap (heap_putO_of o h)
theorem blk_putO_of {k : Nat} (o : Obj) (h : k ≠ r) : blk (putO w r o) k = blk w k := blk_of_heap (heap_putO_of o h)
theorem isB_putO_of {k : Nat} (o : Obj) (h : k ≠ r) : isB (putO w r o) k = isB w k := isB_of_heap (heap_putO_of o h)
theorem drew_putO (o : Obj) : (putO w r o).drew = putO w.drew r o := rfl
end
theorem Fr.putO {S : List Nat} {a w : World} (h : Fr S a w) {r : Nat} (hp : r < a.heap.size → r ∈ S) (o : Obj) : Fr S a (putO w r o) :=
  h.trans (T := [r]) ⟨rfl, rfl, rfl, by simp [Anc.putO], fun _ _ hn => heap_putO_of o (by simpa using hn)⟩ (by simpa using hp)
theorem Fr.ents {S : List Nat} {w w' : World} (h : Fr S w w') : ∀ b, b < w.heap.size → b ∉ S → ents w' b = ents w b := fun b hb hn => ents_of_heap (h.block b hb hn)
theorem Fr.clk {S : List Nat} {w w' : World} (h : Fr S w w') : ∀ b, b < w.heap.size → b ∉ S → clk w' b = clk w b := fun b hb hn => clk_of_heap (h.block b hb hn)
theorem Fr.isM {S : List Nat} {w w' : World} (h : Fr S w w') : ∀ b, b < w.heap.size → b ∉ S → isM w' b = isM w b := fun b hb hn => isM_of_heap (h.block b hb hn)

/-- the entry at a key -/
def findL (eq : Value → Value → Bool) (k : Value) : List MapEntry → Nat → Option (Nat × Value)
  | [], _ => none
  | e :: es, i => if eq k e.key then some (i, e.val) else findL eq k es (i + 1)
/-- what a key's type asks: which keys are good, when two are the same -/
structure KeyT (P : Program) (K : TypeId) (good : Value → Prop) (eq : Value → Value → Bool) : Prop where
  find : ∀ (w : World) (k : Value) (es : List MapEntry), good k → (∀ e, e ∈ es → good e.key) → (findKey K k es).run P w = .ok (findL eq k es 0) w
  check : ∀ (w : World) (b : Bool) (k : Value), good k → (checkKey b 10000 K k).run P w = .ok () w
  bits : ∀ a b, good a → good b → eq a b = true → sameBits 10000 b a = true
theorem findL_at {eq : Value → Value → Bool} {k : Value} {v : Value} : ∀ {es : List MapEntry} {i j : Nat}, findL eq k es i = some (j, v) → ∃ e, es[j - i]? = some e ∧ i ≤ j ∧ eq k e.key = true ∧ e.val = v
  | [], _, _, h => by simp [findL] at h
  | e :: es, i, j, h => by
    unfold findL at h
    by_cases he : eq k e.key = true
    · simp [he] at h
      obtain ⟨rfl, rfl⟩ := h
      exact ⟨e, by simp, Nat.le_refl _, he, rfl⟩
    · simp [he] at h
      obtain ⟨e', h1, h2, h3, h4⟩ := findL_at h
      refine ⟨e', ?_, by omega, h3, h4⟩
      rw [show j - i = (j - (i + 1)) + 1 by omega]
      simpa using h1
section
variable {P : Program} {K E T : TypeId} {good : Value → Prop} {eq : Value → Value → Bool}
theorem lookup_run (hu : P.underlying T = some (.map K E)) (hk : KeyT P K good eq) (z : Value) (hz : ∀ w, (zeroValue E).run P w = .ok z w) (w : World) (r : Nat) (k : Value) (ok : Bool) (hM : isM w r = true) (hg : good k) (hes : ∀ e, e ∈ ents w r → good e.key) :
    (lookup T (.map (some r)) k ok).run P w = .ok (match findL eq k (ents w r) 0 with | some (_, v) => if ok then .tuple #[v, .bool true] else v | none => if ok then .tuple #[z, .bool false] else z) w := by
  unfold lookup
  simp only [Sem.run_bind, run_underlying hu, Result.andThen_ok]
  rw [run_getObj_map w r _ _ (isM_spec hM)]
  simp only [Result.andThen_ok, Sem.run_bind, Sem.run_pure, hk.check w _ k hg, hk.find w k _ hg hes]
  cases findL eq k (ents w r) 0 with
  | none => cases ok <;> simp [hz]
  | some p => cases ok <;> simp
theorem mapUpdate_run (hu : P.underlying T = some (.map K E)) (hk : KeyT P K good eq) (w : World) (r : Nat) (k v : Value) (hM : isM w r = true) (hg : good k) (hes : ∀ e, e ∈ ents w r → good e.key) :
    (mapUpdate T (.map (some r)) k v).run P w = .ok () (putO w r (match findL eq k (ents w r) 0 with
      | some (i, _) => .map ((ents w r).toArray.modify i fun e => { e with key := k, val := v }) (clk w r)
      | none => .map ((ents w r).toArray.push { key := k, val := v, born := clk w r }) (clk w r + 1))) := by
  have hset : ∀ o, (setObj r o).run P w = .ok () (putO w r o) := by
    intro o
    show (Sem.setObj r o (Sem.pure ())).run P w = _
    simp only [Sem.run, isM_spec hM, putO]
  unfold mapUpdate
  simp only [Sem.run_bind, run_underlying hu, Result.andThen_ok]
  rw [run_getObj_map w r _ _ (isM_spec hM)]
  simp only [Result.andThen_ok, Sem.run_bind, hk.check w _ k hg, hk.find w k _ hg hes]
  cases hf : findL eq k (ents w r) 0 with
  | none => simp only [hset]
  | some p =>
    obtain ⟨i, u⟩ := p
    obtain ⟨e, h1, _, h3, _⟩ := findL_at hf
    have hmem : e ∈ ents w r := List.mem_of_getElem? h1
    have hb := hk.bits k e.key hg (hes e hmem) h3
    have h1' : (ents w r).toArray[i]? = some e := by simpa using h1
    have hks : (keyThatStays (((ents w r).toArray[i]?.map (·.key)).getD k) k).run P w = .ok k w := by
      rw [h1']
      simp [keyThatStays, hb]
    simp only [Sem.run_bind, hks, Result.andThen_ok, hset]
end
end Anc
namespace Anc
open Go Go.RowKit Go.Instr
theorem findAsking_run {P : Program} {K : TypeId} {good : Value → Prop} {eq : Value → Value → Bool} (heq : ∀ w a b, good a → good b → (Op.equal K a b).run P w = .ok (eq a b) w) (w : World) (k : Value) (hg : good k) :
    ∀ (es : List MapEntry) (i : Nat), (∀ e, e ∈ es → good e.key) → (findAsking K k es i).run P w = .ok (findL eq k es i) w
  | [], _, _ => rfl
  | e :: es, i, h => by
    unfold findAsking findL
    simp only [Sem.run_bind, heq w k e.key hg (h e (List.mem_cons_self ..)), Result.andThen_ok]
    by_cases he : eq k e.key = true
    · simp [he]
    · simp only [Bool.not_eq_true] at he
      simp only [he, Bool.false_eq_true, if_false]
      exact findAsking_run heq w k hg es (i + 1) fun e' h' => h e' (List.mem_cons_of_mem _ h')
/-- a key's type that is an array or a struct -/
theorem keyT_agg {P : Program} {K : TypeId} {m : Nat} {d : TypeDesc} {good : Value → Prop} {eq : Value → Value → Bool} (hu : P.underlying K = some d) (hd : d.isRow = true) (hm : m ≤ 10000) (hk : P.keyTypeAt m K = true)
    (hgood : ∀ v, good v → ∃ cs D la, v = .agg cs ∧ v.formed P K = true ∧ P.keyLits D K cs.toList = some la)
    (heq : ∀ w a b, good a → good b → (Op.equal K a b).run P w = .ok (eq a b) w) (hbits : ∀ a b, good a → good b → eq a b = true → sameBits 10000 b a = true) : KeyT P K good eq := by
  refine ⟨fun w k es hg hes => ?_, fun w b k hg => ?_, hbits⟩
  · obtain ⟨cs, _, _, rfl, _⟩ := hgood k hg
    unfold findKey
    simp only [Sem.run_bind, run_underlying hu, Result.andThen_ok]
    cases es with
    | nil => simp [findNow, findL]
    | cons e es =>
      have : findNow d (.agg cs) (e :: es) 0 = none := by
        unfold findNow
        cases d <;> simp_all [sameNow, TypeDesc.isRow]
      simp only [this]
      exact findAsking_run heq w _ hg _ _ hes
  · obtain ⟨cs, D, la, rfl, hf, hl⟩ := hgood k hg
    have := run_checkKey_deep (P := P) b (10000 - m) m K hk w D (.agg cs) la hf hl
    rwa [show 10000 - m + m = 10000 by omega] at this
/-- an array of numbers as a key -/
def intsOf : Value → List Int
  | .agg cs => cs.toList.map fun | .int _ n => n | _ => 0
  | _ => []
theorem intsOf_mk (q : IntKind) (l : List Int) : intsOf (.agg (l.map (Value.int q)).toArray) = l := by
  simp only [intsOf, List.map_map]
  exact List.map_id l
def goodArr (q : IntKind) (n : Nat) (v : Value) : Prop := ∃ l : List Int, v = .agg (l.map (Value.int q)).toArray ∧ l.length = n ∧ ∀ x, x ∈ l → (Lit.int q x).wf = true
/-- two keys are the same if what a function says of them is -/
def eqBy (f : Value → List Int) (a b : Value) : Bool := decide (f a = f b)
def eqInts : Value → Value → Bool := eqBy intsOf
theorem sameBits_ints (q : IntKind) (l : List Int) : sameBits 10000 (.agg (l.map (Value.int q)).toArray) (.agg (l.map (Value.int q)).toArray) = true := by
  have : ∀ l : List Int, ((l.map (Value.int q)).zip (l.map (Value.int q))).all (fun (x, y) => sameBits 9999 x y) = true := by
    intro l
    induction l with
    | nil => rfl
    | cons x l ih => simp only [List.map_cons, List.zip_cons_cons, List.all_cons, ih, Bool.and_true]; simp [sameBits]
  unfold sameBits
  simpa using this l
theorem keyT_arr {P : Program} {T n : Nat} {q : IntKind} (h : ArrT P T n q) : KeyT P T (goodArr q n) eqInts := by
  have h' := h
  obtain ⟨⟨e, hT, he, hc⟩, hcT, hk⟩ := h
  refine keyT_agg (m := 2) hT rfl (by decide) hk ?_ ?_ ?_
  · rintro v ⟨l, rfl, hl, hw⟩
    exact ⟨_, 2, _, rfl, by simp [Value.formed, hT, hcT, hl], by simpa using keyLits_ints hT he hc hcT l hl hw⟩
  · rintro w a b ⟨l, rfl, hl, hw⟩ ⟨l', rfl, hl', hw'⟩
    unfold eqInts eqBy
    rw [intsOf_mk, intsOf_mk]
    exact equal_arr h' w 9998 l l' hl hl' hw hw'
  · rintro a b ⟨l, rfl, hl, hw⟩ ⟨l', rfl, hl', hw'⟩ he
    unfold eqInts eqBy at he
    rw [intsOf_mk, intsOf_mk] at he
    have : l = l' := by simpa using he
    subst this
    exact sameBits_ints q l
/-- an int as a key -/
def goodInt (q : IntKind) (v : Value) : Prop := ∃ n, v = .int q n
def intOfV : Value → List Int
  | .int _ n => [n]
  | _ => []
def eqInt : Value → Value → Bool := eqBy intOfV
theorem keyT_int {P : Program} {T : Nat} {q : IntKind} (hT : P.underlying T = some (.int q)) : KeyT P T (goodInt q) eqInt := by
  have hf : ∀ (k : Int) (es : List MapEntry) (i : Nat), (∀ e, e ∈ es → goodInt q e.key) → findNow (.int q) (.int q k) es i = some (findL eqInt (.int q k) es i) := by
    intro k es
    induction es with
    | nil => intro i _; rfl
    | cons e es ih =>
      intro i h
      obtain ⟨n, hn⟩ := h e (List.mem_cons_self ..)
      have ih' := ih (i + 1) fun e' h' => h e' (List.mem_cons_of_mem _ h')
      unfold findNow findL
      rw [hn]
      by_cases hkn : k = n
      · subst hkn; simp [sameNow, eqInt, eqBy, intOfV]
      · simp [sameNow, eqInt, eqBy, intOfV, hkn, ih', beq_eq_false_iff_ne.2 hkn]
  refine ⟨fun w k es hg hes => ?_, fun w b k hg => ?_, ?_⟩
  · obtain ⟨n, rfl⟩ := hg
    unfold findKey
    simp only [Sem.run_bind, run_underlying hT, Result.andThen_ok, hf n es 0 hes]
    rfl
  · obtain ⟨n, rfl⟩ := hg
    exact MapKept.run_checkKey hT (by simp [MapKept.IsKey]) b 9999
  · rintro a b ⟨n, rfl⟩ ⟨n', rfl⟩ he
    have : n = n' := by simpa [intOfV] using (of_decide_eq_true he : intOfV (.int q n) = intOfV (.int q n'))
    subst this
    simp [sameBits]
end Anc

namespace Anc
open Go Go.RowKit Go.Instr
/-- are all keys good? -/
def GoodE (good : Value → Prop) (es : List MapEntry) : Prop := ∀ e, e ∈ es → good e.key
theorem goodE_nil (good : Value → Prop) : GoodE good [] ↔ True := ⟨fun _ => trivial, fun _ e h => by cases h⟩
theorem goodE_cons (good : Value → Prop) (e : MapEntry) (es : List MapEntry) : GoodE good (e :: es) ↔ good e.key ∧ GoodE good es :=
  ⟨fun h => ⟨h e (List.mem_cons_self ..), fun x hx => h x (List.mem_cons_of_mem _ hx)⟩, fun ⟨h, hs⟩ x hx => by
    cases hx with
    | head => exact h
    | tail _ h => exact hs x h⟩
/-- the value at a key -/
def lookV (eq : Value → Value → Bool) (k : Value) : List MapEntry → Option Value
  | [] => none
  | e :: es => if eq k e.key then some e.val else lookV eq k es
theorem lookV_find (eq : Value → Value → Bool) (k : Value) : ∀ (es : List MapEntry) (i : Nat), (findL eq k es i).map (·.2) = lookV eq k es
  | [], _ => rfl
  | e :: es, i => by
    unfold findL lookV
    by_cases h : eq k e.key = true
    · simp [h]
    · simp [h, lookV_find eq k es (i + 1)]
/-- what a map becomes by a store -/
def updE (eq : Value → Value → Bool) (k v : Value) (es : List MapEntry) (c : Nat) : Obj :=
  match findL eq k es 0 with
  | some (i, _) => .map (es.toArray.modify i fun e => { e with key := k, val := v }) c
  | none => .map (es.toArray.push { key := k, val := v, born := c }) (c + 1)
def updL (eq : Value → Value → Bool) (k v : Value) (c : Nat) : List MapEntry → List MapEntry
  | [] => [{ key := k, val := v, born := c }]
  | e :: es => if eq k e.key then { e with key := k, val := v } :: es else e :: updL eq k v c es
theorem updL_find (eq : Value → Value → Bool) (k v : Value) (c : Nat) : ∀ (es : List MapEntry) (j : Nat), (match findL eq k es j with | some (i, _) => es.modify (i - j) (fun e => { e with key := k, val := v }) | none => es ++ [{ key := k, val := v, born := c }]) = updL eq k v c es
  | [], _ => rfl
  | e :: es, j => by
    unfold findL updL
    by_cases h : eq k e.key = true
    · simp [h]
    · simp only [h, Bool.false_eq_true, if_false]
      have ih := updL_find eq k v c es (j + 1)
      cases hf : findL eq k es (j + 1) with
      | none => rw [hf] at ih; simpa using ih
      | some p =>
        obtain ⟨i, u⟩ := p
        rw [hf] at ih
        obtain ⟨_, _, h2, _, _⟩ := findL_at hf
        simp only at ih ⊢
        rw [show i - j = (i - (j + 1)) + 1 by omega, List.modify_succ_cons, ih]
theorem updE_eq (eq : Value → Value → Bool) (k v : Value) (es : List MapEntry) (c : Nat) : ∃ c', updE eq k v es c = .map (updL eq k v c es).toArray c' := by
  have := updL_find eq k v c es 0
  unfold updE
  cases hf : findL eq k es 0 with
  | none => rw [hf] at this; exact ⟨c + 1, by simp only [← this]; simp⟩
  | some p =>
    obtain ⟨i, u⟩ := p
    rw [hf] at this
    refine ⟨c, ?_⟩
    simp only [← this, Nat.sub_zero]
    congr 1
    simp
theorem ents_upd {w : World} {r : Nat} (eq : Value → Value → Bool) (k v : Value) (es : List MapEntry) (c : Nat) (h : r < w.heap.size) : ents (putO w r (updE eq k v es c)) r = updL eq k v c es := by
  obtain ⟨c', e⟩ := updE_eq eq k v es c
  rw [e, ents_putO _ _ h]
theorem isM_upd {w : World} {r : Nat} (eq : Value → Value → Bool) (k v : Value) (es : List MapEntry) (c : Nat) (h : r < w.heap.size) : isM (putO w r (updE eq k v es c)) r = true := by
  obtain ⟨c', e⟩ := updE_eq eq k v es c
  rw [e, isM_putO _ _ h]
theorem lookV_upd (f : Value → List Int) (k v k' : Value) (c : Nat) : ∀ es : List MapEntry, lookV (eqBy f) k' (updL (eqBy f) k v c es) = if eqBy f k' k then some v else lookV (eqBy f) k' es
  | [] => by simp [updL, lookV]
  | e :: es => by
    unfold updL
    by_cases h : eqBy f k e.key = true
    · have hk : f k = f e.key := of_decide_eq_true h
      simp only [h, if_true, lookV]
      by_cases h2 : eqBy f k' k = true
      · simp [h2]
      · have h3 : eqBy f k' e.key = eqBy f k' k := by simp [eqBy, hk]
        simp [h2, h3]
    · simp only [h, Bool.false_eq_true, if_false, lookV]
      by_cases h2 : eqBy f k' e.key = true
      · have hk : f k' = f e.key := of_decide_eq_true h2
        have h3 : eqBy f k' k = false := by
          simp only [eqBy, decide_eq_false_iff_not]
          intro hc
          apply h
          simp [eqBy, ← hc, hk]
        simp [h2, h3]
      · simp [h2, lookV_upd f k v k' c es]
theorem goodE_upd {good : Value → Prop} {eq : Value → Value → Bool} {k : Value} (v : Value) (c : Nat) (hk : good k) : ∀ {es : List MapEntry}, GoodE good es → GoodE good (updL eq k v c es)
  | [], _ => by simp [updL, goodE_cons, goodE_nil, hk]
  | e :: es, h => by
    have h1 := (goodE_cons good e es).1 h
    unfold updL
    by_cases hh : eq k e.key = true
    · simp only [hh, if_true]; exact (goodE_cons ..).2 ⟨hk, h1.2⟩
    · simp only [hh, Bool.false_eq_true, if_false]; exact (goodE_cons ..).2 ⟨h1.1, goodE_upd v c hk h1.2⟩
end Anc

namespace Anc
open Go Go.RowKit Go.Instr
theorem updL_nil (eq : Value → Value → Bool) (k v : Value) (c : Nat) : updL eq k v c [] = [{ key := k, val := v, born := c }] := by simp only [updL]
theorem goodE_upd2 {good : Value → Prop} {eq : Value → Value → Bool} {k : Value} {v : Value} {c : Nat} {es : List MapEntry} (h : good k ∧ GoodE good es) : GoodE good (updL eq k v c es) := goodE_upd v c h.1 h.2
attribute [go_sem] updL_nil goodE_upd2 goodE_nil goodE_cons ents_upd isM_upd size_drew ents_alloc clk_alloc isM_alloc ents_drew clk_drew isM_drew ents_setCell clk_setCell isM_setCell ents_setCells clk_setCells isM_setCells ents_at clk_at isM_at size_putO ents_putO clk_putO isM_putO ents_putO_of clk_putO_of isM_putO_of blk_putO_of isB_putO_of
end Anc
