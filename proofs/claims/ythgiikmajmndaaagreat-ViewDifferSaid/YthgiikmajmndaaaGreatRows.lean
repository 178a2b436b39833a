/-
  No cell of these rows narrows 'for every input' (looked for: loops, veiled, ifaces, maps, wideKeys, modest, calm, conditions, laid).
  DERIVED. THE GIVEN ROWS OF THIS SEAT. 3 by the template 'for every input the law returns true; each argument reads behind the call as it read before'; 0 by the template 'total and deterministic' (their statements: YthgiikmajmndaaaGreatTotals.lean).
  GIVEN WITH THE SEED: the statements are not yours to turn. If you find one false, say at which input.
  Laid BY PROGRAM, IN A SANDBOX (cutbox-rows.mjs): the forced cells as the released guide's own fill.sh prints them over the translation a08285442bf56ed8… (all of the seat's roots in one cut). By AI agents, Wed Nov 11 2026. No macro, syntax, notation, axiom, sorry.
-/
import Derived.Test.YthgiikmajmndaaaGreatChecked
import GoSem.Claim
import GoSem.ClaimJoined
import GoSem.ClaimMapViews
import Derived.JoinedTies
import Derived.KernelRfl
namespace Go.Proofs.YthgiikmajmndaaaGreat
/- THE CELL 'sum', in the pinned program and in every row, IS THE sha256 OF THE DUMP (.gsa) THAT YthgiikmajmndaaaGreatProg.lean LOADS. Nothing in Lean hashes anything: it is a label: what it is worth is what the hold of that sum in a sandbox is worth. -/
noncomputable def Tryz.pinned : Pinned := { name := "ythgiikmajmndaaagreat", sum := "a08285442bf56ed8dd364b995cbb88ed0be071759a53c62477b0b03345a04157", checked := Tryz.checked }
namespace Rows
def none {H : Type} : Left H := { results := [], args := [] }

/-- 'anchoritelaw24.ViewDiffer': WHATEVER THE INPUT: true; the input reads as it did. -/
def viewDifferSpec : ChangeSpec := { name := "viewDiffer", fn := fun _ => fun
  | [d1, d2] => { results := [.lit (.bool true)], args := [d1, d2] }
  | _ => none }
def viewDifferRow : OpenClaim := { program := "ythgiikmajmndaaagreat", sum := "a08285442bf56ed8dd364b995cbb88ed0be071759a53c62477b0b03345a04157", func := "anchorite/anchoritelaw24.ViewDiffer", spec := "viewDiffer", inPlace := ["math/bits.Add64", "internal/bytealg.IndexByteString", "internal/bytealg.IndexString"], unfollowed := true, recurses := true, named := ["internal/bytealg.MaxLen"], plainKeys := false, apart := false }
def ViewDifferSaid : Prop := viewDifferRow.holds Tryz.pinned (OpenSpec.ofChange viewDifferSpec)

/-- ITS FALSE NEIGHBOUR: 'it returns false'. Refute it at one input. -/
def viewDifferWrong : ChangeSpec := { name := "viewDiffer", fn := fun _ => fun
  | [d1, d2] => { results := [.lit (.bool false)], args := [d1, d2] }
  | _ => none }
def ViewDifferWrongFalsely : Prop := viewDifferRow.holds Tryz.pinned (OpenSpec.ofChange viewDifferWrong)

/-- 'anchoritelaw24.ViewOwn': WHATEVER THE INPUT: true; the input reads as it did. -/
def viewOwnSpec : ChangeSpec := { name := "viewOwn", fn := fun _ => fun
  | [d1, d2] => { results := [.lit (.bool true)], args := [d1, d2] }
  | _ => none }
def viewOwnRow : OpenClaim := { program := "ythgiikmajmndaaagreat", sum := "a08285442bf56ed8dd364b995cbb88ed0be071759a53c62477b0b03345a04157", func := "anchorite/anchoritelaw24.ViewOwn", spec := "viewOwn", inPlace := ["math/bits.Add64", "internal/bytealg.IndexByteString", "internal/bytealg.IndexString"], unfollowed := true, recurses := true, named := ["internal/bytealg.MaxLen"], plainKeys := false, apart := false }
def ViewOwnSaid : Prop := viewOwnRow.holds Tryz.pinned (OpenSpec.ofChange viewOwnSpec)

/-- ITS FALSE NEIGHBOUR: 'it returns false'. Refute it at one input. -/
def viewOwnWrong : ChangeSpec := { name := "viewOwn", fn := fun _ => fun
  | [d1, d2] => { results := [.lit (.bool false)], args := [d1, d2] }
  | _ => none }
def ViewOwnWrongFalsely : Prop := viewOwnRow.holds Tryz.pinned (OpenSpec.ofChange viewOwnWrong)

/-- 'anchoritelaw23.MonitorNil': WHATEVER THE INPUT: true; the input reads as it did. -/
def monitorNilSpec : ChangeSpec := { name := "monitorNil", fn := fun _ => fun
  | [d1, d2] => { results := [.lit (.bool true)], args := [d1, d2] }
  | _ => none }
def monitorNilRow : OpenClaim := { program := "ythgiikmajmndaaagreat", sum := "a08285442bf56ed8dd364b995cbb88ed0be071759a53c62477b0b03345a04157", func := "anchorite/anchoritelaw23.MonitorNil", spec := "monitorNil", inPlace := ["math/bits.Add64", "internal/bytealg.IndexByteString", "internal/bytealg.IndexString", "maps.clone"], unfollowed := true, recurses := true, named := ["internal/bytealg.MaxLen"], plainKeys := false, apart := false }
def MonitorNilSaid : Prop := monitorNilRow.holds Tryz.pinned (OpenSpec.ofChange monitorNilSpec)

/-- ITS FALSE NEIGHBOUR: 'it returns false'. Refute it at one input. -/
def monitorNilWrong : ChangeSpec := { name := "monitorNil", fn := fun _ => fun
  | [d1, d2] => { results := [.lit (.bool false)], args := [d1, d2] }
  | _ => none }
def MonitorNilWrongFalsely : Prop := monitorNilRow.holds Tryz.pinned (OpenSpec.ofChange monitorNilWrong)

/- THE SECOND FORM. 'bulk': how many values and letters a reading holds, each counted each time it is reached (what is shared counts as often as it is met; a slice's spare places count too). A statement '..UptoSaid' is the law's where the arguments, and the package variables that the reading takes, are together of bulk at most 1048576: NARROWER than '..Said'. Prove '..Said' where nothing that the law and all that it calls make is longer than what came in: it says more and counts as full. Else prove '..UptoSaid'. A law counts once. -/
mutual
def uptoBulk {H : Type} : DataW H → Nat
  | .lit (.string bytes) => bytes.length + 1
  | .lit _ => 1
  | .nil => 1
  | .ptr d => uptoBulk d + 1
  | .slice elems spare => uptoBulkAll elems + uptoBulkAll spare + 1
  | .agg parts => uptoBulkAll parts + 1
  | .iface _ d => uptoBulk d + 1
  | .map entries => uptoBulkEntries entries + 1
  | .held _ => 1
def uptoBulkAll {H : Type} : List (DataW H) → Nat
  | [] => 0
  | d :: r => uptoBulk d + uptoBulkAll r
def uptoBulkEntries {H : Type} : List (Lit × DataW H) → Nat
  | [] => 0
  | x :: r => uptoBulkEntry x + uptoBulkEntries r
def uptoBulkEntry {H : Type} : Lit × DataW H → Nat
  | (.string bytes, d) => bytes.length + uptoBulk d + 1
  | (_, d) => uptoBulk d + 1
 end
def uptoSmall : (H : Type) → List (DataW H) → Bool := fun _ ds => decide (uptoBulkAll ds ≤ 1048576)
def OpenSpec.upto (s : _root_.Go.ChangeSpec) : _root_.Go.OpenSpec := { _root_.Go.OpenSpec.ofChange s with cond := some uptoSmall }

/-- 'anchoritelaw24.ViewDiffer', WHERE WHAT IT READS IS OF BULK AT MOST 1048576: true; the input reads as it did. -/
def viewDifferUptoRow : OpenClaim := { program := "ythgiikmajmndaaagreat", sum := "a08285442bf56ed8dd364b995cbb88ed0be071759a53c62477b0b03345a04157", func := "anchorite/anchoritelaw24.ViewDiffer", spec := "viewDiffer", inPlace := ["math/bits.Add64", "internal/bytealg.IndexByteString", "internal/bytealg.IndexString"], unfollowed := true, recurses := true, named := ["internal/bytealg.MaxLen"], plainKeys := false, apart := false, narrowed := true }
def ViewDifferUptoSaid : Prop := viewDifferUptoRow.holds Tryz.pinned (OpenSpec.upto viewDifferSpec)

/-- 'anchoritelaw24.ViewOwn', WHERE WHAT IT READS IS OF BULK AT MOST 1048576: true; the input reads as it did. -/
def viewOwnUptoRow : OpenClaim := { program := "ythgiikmajmndaaagreat", sum := "a08285442bf56ed8dd364b995cbb88ed0be071759a53c62477b0b03345a04157", func := "anchorite/anchoritelaw24.ViewOwn", spec := "viewOwn", inPlace := ["math/bits.Add64", "internal/bytealg.IndexByteString", "internal/bytealg.IndexString"], unfollowed := true, recurses := true, named := ["internal/bytealg.MaxLen"], plainKeys := false, apart := false, narrowed := true }
def ViewOwnUptoSaid : Prop := viewOwnUptoRow.holds Tryz.pinned (OpenSpec.upto viewOwnSpec)

/-- 'anchoritelaw23.MonitorNil', WHERE WHAT IT READS IS OF BULK AT MOST 1048576: true; the input reads as it did. -/
def monitorNilUptoRow : OpenClaim := { program := "ythgiikmajmndaaagreat", sum := "a08285442bf56ed8dd364b995cbb88ed0be071759a53c62477b0b03345a04157", func := "anchorite/anchoritelaw23.MonitorNil", spec := "monitorNil", inPlace := ["math/bits.Add64", "internal/bytealg.IndexByteString", "internal/bytealg.IndexString", "maps.clone"], unfollowed := true, recurses := true, named := ["internal/bytealg.MaxLen"], plainKeys := false, apart := false, narrowed := true }
def MonitorNilUptoSaid : Prop := monitorNilUptoRow.holds Tryz.pinned (OpenSpec.upto monitorNilSpec)

end Rows
end Go.Proofs.YthgiikmajmndaaaGreat
