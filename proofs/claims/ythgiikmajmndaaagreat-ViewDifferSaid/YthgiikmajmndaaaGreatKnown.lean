/- The chapter's rows of layer 24: 'known' answers true. Conditions: none. -/
import Derived.Test.YthgiikmajmndaaaGreatDo
import Derived.Test.YthgiikmajmndaaaGreatMon3
set_option linter.unusedSimpArgs false
set_option linter.unusedVariables false
namespace Anc
open Go Go.RowKit
theorem SlK.frS {w w' : World} {S : List Nat} {v : Value} {k : Nat} {L : List (List Value)} (h : SlK w v k L) (f : Fr S w w') (hS : ∀ g, v.ownBlock = some g → g ∉ S) : SlK w' v k L := by
  obtain ⟨a, c, rfl, h⟩ := h
  refine ⟨a, c, rfl, fun i x hx => ?_⟩
  obtain ⟨b, o, rfl, hR, h1, h2⟩ := h i x hx
  have hb := isR_lt hR
  have hn := hS b rfl
  rw [← f.rd hb hn] at h1 h2
  exact ⟨b, o, rfl, (f.isR hb hn).trans hR, h1, h2⟩
theorem ViewV.frS {w w' : World} {S : List Nat} {s h b : Value} {V : VW} (k : ViewV w s h b V) (f : Fr S w w') (h1 : ∀ g, s.ownBlock = some g → g ∉ S) (h2 : ∀ g, h.ownBlock = some g → g ∉ S) (h3 : ∀ g, b.ownBlock = some g → g ∉ S) : ViewV w' s h b V :=
  ⟨SlK.frS k.s f h1, SlK.frS k.h f h2, SlK.frS k.b f h3, k.ls, k.lh, k.lb, k.g⟩
/-- two granules of noughts, and what is stored -/
def km : Bytes := List.replicate (2 * 128) 0
def kr : List RowG := List.replicate 2 ⟨0, 0, 0⟩
def gX : Bytes := 7 :: List.replicate 127 0
theorem kv0 : hostK km kr 2 = ⟨[0, 0], [0, 0], [g0, g0]⟩ := by rfl
theorem kv1 : hostK (splice km (128 : Int).toNat (le8 7)) kr 2 = ⟨[0, 0], [0, 0], [g0, gX]⟩ := by rfl
theorem kdif : VW.difs ⟨[0, 0], [0, 0], [g0, g0]⟩ ⟨[0, 0], [0, 0], [g0, gX]⟩ (maxLens ⟨[0, 0], [0, 0], [g0, g0]⟩ ⟨[0, 0], [0, 0], [g0, gX]⟩) = [1] := by rfl
theorem khost : hostR kr 1 = true := by rfl
end Anc
namespace Go.Proofs
open Go Go.RowKit Anc
set_option maxRecDepth 100000 in
set_option maxHeartbeats 1000000 in
theorem Tryz.known6 (w : World) : Calls Tryz.prog 6 #[] w fun e w' => e = .returned (.bool true) ∧ Fr [] w w' := by
  have c11 := fun W => Tryz.newMon11b 2 true (List.replicate 32 0) W (by omega) (by omega) (by simp)
  have c11' := Lib.hid c11
  clear c11
  go_enter Tryz.func6, Tryz.ntmps6
  go_wp2_with fail
  refine (c11'.out _).mono ?_
  rintro e w1 ⟨p, m, d, t, e', rfl, hM, f1, hp, hd⟩
  go_wp2_with fail
  refine (Tryz.host21 p m d 2 _ t e' _ _ hM).mono ?_
  rintro e w2 ⟨s, h, b, rfl, hV, f2, ns, nh, nb⟩
  have hV' : ViewV w2 s h b (hostK km kr 2) := hV
  rw [kv0] at hV'
  clear hV
  obtain ⟨gs, os, cs, rfl, qs, _⟩ := SlK.ints hV'.s (by simp)
  obtain ⟨gh, oh, ch, rfl, qh, _⟩ := SlK.ints hV'.h (by simp)
  obtain ⟨gb, ob, cb, rfl, qb, _⟩ := hV'.b.has (by simp)
  have ls := isR_lt qs
  have lh := isR_lt qh
  have lb := isR_lt qb
  have ms := ns gs rfl
  have mh := nh gh rfl
  have mb := nb gb rfl
  clear qs qh qb
  simp only [List.length_cons, List.length_nil, Nat.zero_add] at *
  have ns' := Lib.hid ns
  have nh' := Lib.hid nh
  have nb' := Lib.hid nb
  clear ns nh nb
  go_wp2_with fail
  have fa := ((f2.alloc (.cells #[Value.slice none 0 0, Value.slice none 0 0, Value.slice none 0 0] 26))).setCells (b := w2.heap.size) (by have := f2.size; omega) [Value.slice (some ⟨gs, os, none⟩) 2 cs, Value.slice (some ⟨gh, oh, none⟩) 2 ch, Value.slice (some ⟨gb, ob, none⟩) 2 cb] 0
  refine (Tryz.doStore12 p m d 2 km t e' kr 128 7 _ (hM.fr0 fa) (by omega) (by omega) (by omega) (by omega) (by omega) (by omega) khost).mono ?_
  rintro e w3 ⟨rfl, hM3, f3⟩
  have zp := isB_lt hM.bp
  have zd := isB_lt hM.mp.bd
  have z2 := f2.size
  obtain ⟨b1, b2, b3, b4⟩ := keep4 f3 (b := w2.heap.size) (by go_simp) (by simp; omega) (by go_simp; rfl)
  have hV3 : ViewV w3 (.slice (some ⟨gs, os, none⟩) 2 cs) (.slice (some ⟨gh, oh, none⟩) 2 ch) (.slice (some ⟨gb, ob, none⟩) 2 cb) ⟨[0, 0], [0, 0], [g0, g0]⟩ := by
    have hk := ((hV'.fr0 ((Fr.refl [] w2).alloc (.cells #[Value.slice none 0 0, Value.slice none 0 0, Value.slice none 0 0] 26))).frS ((Fr.refl [w2.heap.size] _).setCells (b := w2.heap.size) (by simp) [Value.slice (some ⟨gs, os, none⟩) 2 cs, Value.slice (some ⟨gh, oh, none⟩) 2 ch, Value.slice (some ⟨gb, ob, none⟩) 2 cb] 0) ?_ ?_ ?_).frS f3 ?_ ?_ ?_
    · exact hk
    all_goals
      intro g hg
      simp only [Value.ownBlock, Option.some.injEq] at hg
      subst hg
      simp
      omega
  go_wp2_with fail
  have hS : ∀ W, Fr [] w3 W → (isB W w2.heap.size = true ∧ blk W w2.heap.size = [Value.slice (some ⟨gs, os, none⟩) 2 cs, Value.slice (some ⟨gh, oh, none⟩) 2 ch, Value.slice (some ⟨gb, ob, none⟩) 2 cb] ∧ Fr [] w3 W) := fun W g => ⟨(g.isB _ b3 (by simp)).trans b1, (g.blk _ b3 (by simp)).trans b2, g⟩
  have hS' := Lib.hid hS
  have hV3' := Lib.hid hV3
  clear hS hV3
  go_region_held3 (fun W => isB W w2.heap.size = true ∧ blk W w2.heap.size = [Value.slice (some ⟨gs, os, none⟩) 2 cs, Value.slice (some ⟨gh, oh, none⟩) 2 ch, Value.slice (some ⟨gb, ob, none⟩) 2 cb] ∧ Fr [] w3 W)
    (first | with_reducible exact hS'.out _ (Fr.drew (Fr.refl _ _)) | with_reducible exact hS'.out _ fq | assumption)
    (first
      | (go_at_call 21; refine (Tryz.host21 p m d 2 _ t e' kr _ (hM3.fr0 (And.right (And.right (by assumption))))).mono ?_; rintro e w4 ⟨s2, h2, v2, rfl, hV4, f4, n1, n2, n3⟩; have fq := Fr.trans' (Fr.drew (Fr.refl _ _)) f4)
      | (go_at_call 7; refine (Tryz.differ7 _ _ _ _ _ _ _ _ _ (hV3'.out.fr0 fq) hV4).mono ?_; rintro e w5 ⟨v, rfl, hd5, f5⟩; have fq := Fr.trans' fq f5))
  have hd6 : SlI w5 v [1] := by
    have h1 : VW.difs ⟨[0, 0], [0, 0], [g0, g0]⟩ (hostK (splice km (128 : Int).toNat (le8 7)) kr 2) (maxLens ⟨[0, 0], [0, 0], [g0, g0]⟩ (hostK (splice km (128 : Int).toNat (le8 7)) kr 2)) = [1] := by rw [kv1, kdif]
    rw [← h1]; exact hd5
  have hV5 := hV3'.out.fr0 fq
  obtain ⟨y1, y2, _⟩ := hS'.out _ fq
  obtain ⟨gd, od, cd, rfl, r1, r2⟩ := SlK.ints hd6 (by simp)
  have r3 := r2 0 (by simp)
  obtain ⟨gs', os', cs', es, s1, s2'⟩ := SlK.ints hV5.s (by simp)
  obtain ⟨gb', ob', cb', eb, u1, u2⟩ := hV5.b.has (by simp)
  simp only [Value.slice.injEq, Option.some.injEq, Addr.mk.injEq] at es eb
  obtain ⟨⟨rfl, rfl, _⟩, ex, rfl⟩ := es
  clear ex
  obtain ⟨⟨rfl, rfl, _⟩, ex, rfl⟩ := eb
  clear ex
  have s3 := s2' 0 (by simp)
  obtain ⟨u3, u4⟩ := u2 1 (by simp)
  simp only [List.getD_cons_zero, List.getD_cons_succ, Nat.add_zero] at r3 s3 u4
  have fFin : Fr [] w w5 := ((f1.trans' fa).trans f3 (by simp; omega)).trans' fq
  clear r2 s2' u2 hd6 hd5 hV4 hV5 hV' hM hM3 f1 f2 f3 f4 f5 hS' hV3' c11' ns' nh' nb' fa
  have zb := Tryz.z30
  have hg0 : List.replicate 128 (0 : Int) = g0 := rfl
  rw [hg0] at zb
  have hq : (eqlBlk 30 (.agg (u8s g0).toArray) (.agg Tryz.zeroCells30)).run Tryz.prog w5 = .ok (.bool true) w5 := by rw [zb, Tryz.eql30 w5 g0 g0 g0_length g0_length g0_all g0_all]; simp
  clear hg0 zb
  go_wp2
  go_ret
  exact ⟨rfl, fFin⟩
end Go.Proofs
