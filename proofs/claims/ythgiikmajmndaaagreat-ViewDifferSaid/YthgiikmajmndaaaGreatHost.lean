/- What the host sees: view.Host. Conditions: the monitor lies as 'MonP' says. -/
import Derived.Test.YthgiikmajmndaaaGreatMon2
namespace Anc
open Go Go.RowKit
theorem MonP.fr0 {w w' : World} {p m d N : Nat} {mem : Bytes} {t e : Nat} {l : List RowG} (h : MonP w p m d N mem t e l) (f : Fr [] w w') : MonP w' p m d N mem t e l := by
  obtain ⟨bp, ⟨o, x, r, q, en, us, ins, rel, cp⟩, mp, rp, nl, ap⟩ := h
  have hl := isB_lt bp
  exact ⟨(f.isB p hl (by simp)).trans bp, ⟨o, x, r, q, en, us, ins, rel, (f.blk p hl (by simp)).trans cp⟩, mp.fr0 f, rp.fr0 f, nl, ap⟩
end Anc
namespace Go.Proofs
open Go Go.RowKit Anc
theorem Tryz.there37 (p m d N : Nat) (mem : Bytes) (t e : Nat) (l : List RowG) (w : World) (h : MonP w p m d N mem t e l) : Calls Tryz.prog 37 #[.pointer (some ⟨p, 0, none⟩)] w fun e w' => e = .returned (.bool true) ∧ w = w' := by
  obtain ⟨bp, ⟨o, x, r, q, en, us, ins, rel, cp⟩, mp, rp, nl, ap⟩ := h
  go_enter Tryz.func37, Tryz.ntmps37
  go_wp2
  go_ret
  exact ⟨rfl, rfl⟩
theorem Tryz.parts18 (p m d N : Nat) (mem : Bytes) (t e : Nat) (l : List RowG) (w : World) (h : MonP w p m d N mem t e l) : Calls Tryz.prog 18 #[.pointer (some ⟨p, 0, none⟩)] w fun e w' => ∃ o x r, e = .returned (.agg #[.pointer (some ⟨o, 0, none⟩), .pointer (some ⟨m, 0, none⟩), .pointer (some ⟨t, 0, none⟩), .pointer (some ⟨x, 0, none⟩), .pointer (some ⟨r, 0, none⟩)]) ∧ Fr [] w w' := by
  have h' := fun W (f : Fr [] w W) => Tryz.there37 p m d N mem t e l W (h.fr0 f)
  obtain ⟨bp, ⟨o, x, r, q, en, us, ins, rel, cp⟩, mp, rp, nl, ap⟩ := h
  have hl := isB_lt bp
  have h'' := Lib.hid h'
  clear h'
  go_enter Tryz.func18, Tryz.ntmps18
  go_wp2_with (go_at_call 37; refine (h''.out _ ((Fr.refl [] w).alloc _)).mono ?_; rintro e w' ⟨rfl, rfl⟩)
  refine bodyPost_ret (results_c Tryz.agg64 rfl rfl (by go_simp) (by go_simp)) rfl ⟨o, x, r, ?_, ?_⟩
  · go_simp
  · exact (((Fr.refl [] w).alloc _).setCells (by simp) _ _)
end Go.Proofs
