/- Laws on loads and stores of this program's arrays and structs, a row a type, out of the general laws. Made by a program (gentypes.py). Conditions: the block's cells are there. -/
import Derived.Test.YthgiikmajmndaaaGreatProg
import Derived.Test.YthgiikmajmndaaaGreatBlk
namespace Go.Proofs
open Go Go.RowKit Anc

-- api.View: 3 cells
theorem Tryz.agg26 : AggT Tryz.prog 26 3 := ⟨_, Tryz.underlying26, rfl, by kernel_rfl⟩
theorem Tryz.opl26 (p : Value) : Instr.loadAt 26 p = loadBlk 26 p := rfl
theorem Tryz.ops26 (p v : Value) : Instr.storeAt 26 p v = storeBlk 26 p v := rfl
theorem Tryz.opv26 (a : Addr) : loadVar 26 a = loadBlkA 26 a := rfl
theorem Tryz.lv26 (w : World) (b o : Nat) (hB : isB w b = true) (hn : o + 3 ≤ (blk w b).length) : (loadBlkA 26 ⟨b, o, none⟩).run Tryz.prog w = .ok (.agg (sub (blk w b) o 3).toArray) w :=
  loadBlkA_run Tryz.underlying26 rfl (by kernel_rfl) w b o hB hn
theorem Tryz.ld26 (w : World) (b o : Nat) (hB : isB w b = true) (hn : o + 3 ≤ (blk w b).length) : (loadBlk 26 (.pointer (some ⟨b, o, none⟩))).run Tryz.prog w = .ok (.agg (sub (blk w b) o 3).toArray) w :=
  loadBlk_run Tryz.underlying26 rfl (by kernel_rfl) w b o hB hn
theorem Tryz.st26 (w : World) (b o : Nat) (l : List Value) (hB : isB w b = true) (hn : o + 3 ≤ (blk w b).length) (hs : l.length = 3) (h1 : OneL l) : (storeBlk 26 (.pointer (some ⟨b, o, none⟩)) (.agg l.toArray)).run Tryz.prog w = .ok () (w.setCells b o l) :=
  storeBlk_run (by kernel_rfl) w b o l hB hn hs h1
attribute [go_sem ↓] Tryz.opl26 Tryz.ops26 Tryz.opv26
attribute [go_sem] Tryz.ld26 Tryz.st26 Tryz.lv26

-- api.Granule: 128 cells
theorem Tryz.agg30 : AggT Tryz.prog 30 128 := ⟨_, Tryz.underlying30, rfl, by kernel_rfl⟩
theorem Tryz.opl30 (p : Value) : Instr.loadAt 30 p = loadBlk 30 p := rfl
theorem Tryz.ops30 (p v : Value) : Instr.storeAt 30 p v = storeBlk 30 p v := rfl
theorem Tryz.opv30 (a : Addr) : loadVar 30 a = loadBlkA 30 a := rfl
theorem Tryz.lv30 (w : World) (b o : Nat) (hB : isB w b = true) (hn : o + 128 ≤ (blk w b).length) : (loadBlkA 30 ⟨b, o, none⟩).run Tryz.prog w = .ok (.agg (sub (blk w b) o 128).toArray) w :=
  loadBlkA_run Tryz.underlying30 rfl (by kernel_rfl) w b o hB hn
theorem Tryz.ld30 (w : World) (b o : Nat) (hB : isB w b = true) (hn : o + 128 ≤ (blk w b).length) : (loadBlk 30 (.pointer (some ⟨b, o, none⟩))).run Tryz.prog w = .ok (.agg (sub (blk w b) o 128).toArray) w :=
  loadBlk_run Tryz.underlying30 rfl (by kernel_rfl) w b o hB hn
theorem Tryz.st30 (w : World) (b o : Nat) (l : List Value) (hB : isB w b = true) (hn : o + 128 ≤ (blk w b).length) (hs : l.length = 128) (h1 : OneL l) : (storeBlk 30 (.pointer (some ⟨b, o, none⟩)) (.agg l.toArray)).run Tryz.prog w = .ok () (w.setCells b o l) :=
  storeBlk_run (by kernel_rfl) w b o l hB hn hs h1
attribute [go_sem ↓] Tryz.opl30 Tryz.ops30 Tryz.opv30
attribute [go_sem] Tryz.ld30 Tryz.st30 Tryz.lv30

-- api.Digest: 32 cells
theorem Tryz.agg36 : AggT Tryz.prog 36 32 := ⟨_, Tryz.underlying36, rfl, by kernel_rfl⟩
theorem Tryz.opl36 (p : Value) : Instr.loadAt 36 p = loadBlk 36 p := rfl
theorem Tryz.ops36 (p v : Value) : Instr.storeAt 36 p v = storeBlk 36 p v := rfl
theorem Tryz.opv36 (a : Addr) : loadVar 36 a = loadBlkA 36 a := rfl
theorem Tryz.lv36 (w : World) (b o : Nat) (hB : isB w b = true) (hn : o + 32 ≤ (blk w b).length) : (loadBlkA 36 ⟨b, o, none⟩).run Tryz.prog w = .ok (.agg (sub (blk w b) o 32).toArray) w :=
  loadBlkA_run Tryz.underlying36 rfl (by kernel_rfl) w b o hB hn
theorem Tryz.ld36 (w : World) (b o : Nat) (hB : isB w b = true) (hn : o + 32 ≤ (blk w b).length) : (loadBlk 36 (.pointer (some ⟨b, o, none⟩))).run Tryz.prog w = .ok (.agg (sub (blk w b) o 32).toArray) w :=
  loadBlk_run Tryz.underlying36 rfl (by kernel_rfl) w b o hB hn
theorem Tryz.st36 (w : World) (b o : Nat) (l : List Value) (hB : isB w b = true) (hn : o + 32 ≤ (blk w b).length) (hs : l.length = 32) (h1 : OneL l) : (storeBlk 36 (.pointer (some ⟨b, o, none⟩)) (.agg l.toArray)).run Tryz.prog w = .ok () (w.setCells b o l) :=
  storeBlk_run (by kernel_rfl) w b o l hB hn hs h1
attribute [go_sem ↓] Tryz.opl36 Tryz.ops36 Tryz.opv36
attribute [go_sem] Tryz.ld36 Tryz.st36 Tryz.lv36

-- api.Own: 37 cells
theorem Tryz.agg40 : AggT Tryz.prog 40 37 := ⟨_, Tryz.underlying40, rfl, by kernel_rfl⟩
theorem Tryz.opl40 (p : Value) : Instr.loadAt 40 p = loadBlk 40 p := rfl
theorem Tryz.ops40 (p v : Value) : Instr.storeAt 40 p v = storeBlk 40 p v := rfl
theorem Tryz.opv40 (a : Addr) : loadVar 40 a = loadBlkA 40 a := rfl
theorem Tryz.lv40 (w : World) (b o : Nat) (hB : isB w b = true) (hn : o + 37 ≤ (blk w b).length) : (loadBlkA 40 ⟨b, o, none⟩).run Tryz.prog w = .ok (.agg (sub (blk w b) o 37).toArray) w :=
  loadBlkA_run Tryz.underlying40 rfl (by kernel_rfl) w b o hB hn
theorem Tryz.ld40 (w : World) (b o : Nat) (hB : isB w b = true) (hn : o + 37 ≤ (blk w b).length) : (loadBlk 40 (.pointer (some ⟨b, o, none⟩))).run Tryz.prog w = .ok (.agg (sub (blk w b) o 37).toArray) w :=
  loadBlk_run Tryz.underlying40 rfl (by kernel_rfl) w b o hB hn
theorem Tryz.st40 (w : World) (b o : Nat) (l : List Value) (hB : isB w b = true) (hn : o + 37 ≤ (blk w b).length) (hs : l.length = 37) (h1 : OneL l) : (storeBlk 40 (.pointer (some ⟨b, o, none⟩)) (.agg l.toArray)).run Tryz.prog w = .ok () (w.setCells b o l) :=
  storeBlk_run (by kernel_rfl) w b o l hB hn hs h1
attribute [go_sem ↓] Tryz.opl40 Tryz.ops40 Tryz.opv40
attribute [go_sem] Tryz.ld40 Tryz.st40 Tryz.lv40

-- [6]uint64: 6 cells
theorem Tryz.agg44 : AggT Tryz.prog 44 6 := ⟨_, Tryz.underlying44, rfl, by kernel_rfl⟩
theorem Tryz.opl44 (p : Value) : Instr.loadAt 44 p = loadBlk 44 p := rfl
theorem Tryz.ops44 (p v : Value) : Instr.storeAt 44 p v = storeBlk 44 p v := rfl
theorem Tryz.opv44 (a : Addr) : loadVar 44 a = loadBlkA 44 a := rfl
theorem Tryz.lv44 (w : World) (b o : Nat) (hB : isB w b = true) (hn : o + 6 ≤ (blk w b).length) : (loadBlkA 44 ⟨b, o, none⟩).run Tryz.prog w = .ok (.agg (sub (blk w b) o 6).toArray) w :=
  loadBlkA_run Tryz.underlying44 rfl (by kernel_rfl) w b o hB hn
theorem Tryz.ld44 (w : World) (b o : Nat) (hB : isB w b = true) (hn : o + 6 ≤ (blk w b).length) : (loadBlk 44 (.pointer (some ⟨b, o, none⟩))).run Tryz.prog w = .ok (.agg (sub (blk w b) o 6).toArray) w :=
  loadBlk_run Tryz.underlying44 rfl (by kernel_rfl) w b o hB hn
theorem Tryz.st44 (w : World) (b o : Nat) (l : List Value) (hB : isB w b = true) (hn : o + 6 ≤ (blk w b).length) (hs : l.length = 6) (h1 : OneL l) : (storeBlk 44 (.pointer (some ⟨b, o, none⟩)) (.agg l.toArray)).run Tryz.prog w = .ok () (w.setCells b o l) :=
  storeBlk_run (by kernel_rfl) w b o l hB hn hs h1
attribute [go_sem ↓] Tryz.opl44 Tryz.ops44 Tryz.opv44
attribute [go_sem] Tryz.ld44 Tryz.st44 Tryz.lv44

-- api.Call: 7 cells
theorem Tryz.agg46 : AggT Tryz.prog 46 7 := ⟨_, Tryz.underlying46, rfl, by kernel_rfl⟩
theorem Tryz.opl46 (p : Value) : Instr.loadAt 46 p = loadBlk 46 p := rfl
theorem Tryz.ops46 (p v : Value) : Instr.storeAt 46 p v = storeBlk 46 p v := rfl
theorem Tryz.opv46 (a : Addr) : loadVar 46 a = loadBlkA 46 a := rfl
theorem Tryz.lv46 (w : World) (b o : Nat) (hB : isB w b = true) (hn : o + 7 ≤ (blk w b).length) : (loadBlkA 46 ⟨b, o, none⟩).run Tryz.prog w = .ok (.agg (sub (blk w b) o 7).toArray) w :=
  loadBlkA_run Tryz.underlying46 rfl (by kernel_rfl) w b o hB hn
theorem Tryz.ld46 (w : World) (b o : Nat) (hB : isB w b = true) (hn : o + 7 ≤ (blk w b).length) : (loadBlk 46 (.pointer (some ⟨b, o, none⟩))).run Tryz.prog w = .ok (.agg (sub (blk w b) o 7).toArray) w :=
  loadBlk_run Tryz.underlying46 rfl (by kernel_rfl) w b o hB hn
theorem Tryz.st46 (w : World) (b o : Nat) (l : List Value) (hB : isB w b = true) (hn : o + 7 ≤ (blk w b).length) (hs : l.length = 7) (h1 : OneL l) : (storeBlk 46 (.pointer (some ⟨b, o, none⟩)) (.agg l.toArray)).run Tryz.prog w = .ok () (w.setCells b o l) :=
  storeBlk_run (by kernel_rfl) w b o l hB hn hs h1
attribute [go_sem ↓] Tryz.opl46 Tryz.ops46 Tryz.opv46
attribute [go_sem] Tryz.ld46 Tryz.st46 Tryz.lv46

-- api.Step: 11 cells
theorem Tryz.agg49 : AggT Tryz.prog 49 11 := ⟨_, Tryz.underlying49, rfl, by kernel_rfl⟩
theorem Tryz.opl49 (p : Value) : Instr.loadAt 49 p = loadBlk 49 p := rfl
theorem Tryz.ops49 (p v : Value) : Instr.storeAt 49 p v = storeBlk 49 p v := rfl
theorem Tryz.opv49 (a : Addr) : loadVar 49 a = loadBlkA 49 a := rfl
theorem Tryz.lv49 (w : World) (b o : Nat) (hB : isB w b = true) (hn : o + 11 ≤ (blk w b).length) : (loadBlkA 49 ⟨b, o, none⟩).run Tryz.prog w = .ok (.agg (sub (blk w b) o 11).toArray) w :=
  loadBlkA_run Tryz.underlying49 rfl (by kernel_rfl) w b o hB hn
theorem Tryz.ld49 (w : World) (b o : Nat) (hB : isB w b = true) (hn : o + 11 ≤ (blk w b).length) : (loadBlk 49 (.pointer (some ⟨b, o, none⟩))).run Tryz.prog w = .ok (.agg (sub (blk w b) o 11).toArray) w :=
  loadBlk_run Tryz.underlying49 rfl (by kernel_rfl) w b o hB hn
theorem Tryz.st49 (w : World) (b o : Nat) (l : List Value) (hB : isB w b = true) (hn : o + 11 ≤ (blk w b).length) (hs : l.length = 11) (h1 : OneL l) : (storeBlk 49 (.pointer (some ⟨b, o, none⟩)) (.agg l.toArray)).run Tryz.prog w = .ok () (w.setCells b o l) :=
  storeBlk_run (by kernel_rfl) w b o l hB hn hs h1
attribute [go_sem ↓] Tryz.opl49 Tryz.ops49 Tryz.opv49
attribute [go_sem] Tryz.ld49 Tryz.st49 Tryz.lv49

-- api.Setup: 36 cells
theorem Tryz.agg57 : AggT Tryz.prog 57 36 := ⟨_, Tryz.underlying57, rfl, by kernel_rfl⟩
theorem Tryz.opl57 (p : Value) : Instr.loadAt 57 p = loadBlk 57 p := rfl
theorem Tryz.ops57 (p v : Value) : Instr.storeAt 57 p v = storeBlk 57 p v := rfl
theorem Tryz.opv57 (a : Addr) : loadVar 57 a = loadBlkA 57 a := rfl
theorem Tryz.lv57 (w : World) (b o : Nat) (hB : isB w b = true) (hn : o + 36 ≤ (blk w b).length) : (loadBlkA 57 ⟨b, o, none⟩).run Tryz.prog w = .ok (.agg (sub (blk w b) o 36).toArray) w :=
  loadBlkA_run Tryz.underlying57 rfl (by kernel_rfl) w b o hB hn
theorem Tryz.ld57 (w : World) (b o : Nat) (hB : isB w b = true) (hn : o + 36 ≤ (blk w b).length) : (loadBlk 57 (.pointer (some ⟨b, o, none⟩))).run Tryz.prog w = .ok (.agg (sub (blk w b) o 36).toArray) w :=
  loadBlk_run Tryz.underlying57 rfl (by kernel_rfl) w b o hB hn
theorem Tryz.st57 (w : World) (b o : Nat) (l : List Value) (hB : isB w b = true) (hn : o + 36 ≤ (blk w b).length) (hs : l.length = 36) (h1 : OneL l) : (storeBlk 57 (.pointer (some ⟨b, o, none⟩)) (.agg l.toArray)).run Tryz.prog w = .ok () (w.setCells b o l) :=
  storeBlk_run (by kernel_rfl) w b o l hB hn hs h1
attribute [go_sem ↓] Tryz.opl57 Tryz.ops57 Tryz.opv57
attribute [go_sem] Tryz.ld57 Tryz.st57 Tryz.lv57

-- paging.Parts: 5 cells
theorem Tryz.agg64 : AggT Tryz.prog 64 5 := ⟨_, Tryz.underlying64, rfl, by kernel_rfl⟩
theorem Tryz.opl64 (p : Value) : Instr.loadAt 64 p = loadBlk 64 p := rfl
theorem Tryz.ops64 (p v : Value) : Instr.storeAt 64 p v = storeBlk 64 p v := rfl
theorem Tryz.opv64 (a : Addr) : loadVar 64 a = loadBlkA 64 a := rfl
theorem Tryz.lv64 (w : World) (b o : Nat) (hB : isB w b = true) (hn : o + 5 ≤ (blk w b).length) : (loadBlkA 64 ⟨b, o, none⟩).run Tryz.prog w = .ok (.agg (sub (blk w b) o 5).toArray) w :=
  loadBlkA_run Tryz.underlying64 rfl (by kernel_rfl) w b o hB hn
theorem Tryz.ld64 (w : World) (b o : Nat) (hB : isB w b = true) (hn : o + 5 ≤ (blk w b).length) : (loadBlk 64 (.pointer (some ⟨b, o, none⟩))).run Tryz.prog w = .ok (.agg (sub (blk w b) o 5).toArray) w :=
  loadBlk_run Tryz.underlying64 rfl (by kernel_rfl) w b o hB hn
theorem Tryz.st64 (w : World) (b o : Nat) (l : List Value) (hB : isB w b = true) (hn : o + 5 ≤ (blk w b).length) (hs : l.length = 5) (h1 : OneL l) : (storeBlk 64 (.pointer (some ⟨b, o, none⟩)) (.agg l.toArray)).run Tryz.prog w = .ok () (w.setCells b o l) :=
  storeBlk_run (by kernel_rfl) w b o l hB hn hs h1
attribute [go_sem ↓] Tryz.opl64 Tryz.ops64 Tryz.opv64
attribute [go_sem] Tryz.ld64 Tryz.st64 Tryz.lv64

-- monitor.Monitor: 10 cells
theorem Tryz.agg68 : AggT Tryz.prog 68 10 := ⟨_, Tryz.underlying68, rfl, by kernel_rfl⟩
theorem Tryz.opl68 (p : Value) : Instr.loadAt 68 p = loadBlk 68 p := rfl
theorem Tryz.ops68 (p v : Value) : Instr.storeAt 68 p v = storeBlk 68 p v := rfl
theorem Tryz.opv68 (a : Addr) : loadVar 68 a = loadBlkA 68 a := rfl
theorem Tryz.lv68 (w : World) (b o : Nat) (hB : isB w b = true) (hn : o + 10 ≤ (blk w b).length) : (loadBlkA 68 ⟨b, o, none⟩).run Tryz.prog w = .ok (.agg (sub (blk w b) o 10).toArray) w :=
  loadBlkA_run Tryz.underlying68 rfl (by kernel_rfl) w b o hB hn
theorem Tryz.ld68 (w : World) (b o : Nat) (hB : isB w b = true) (hn : o + 10 ≤ (blk w b).length) : (loadBlk 68 (.pointer (some ⟨b, o, none⟩))).run Tryz.prog w = .ok (.agg (sub (blk w b) o 10).toArray) w :=
  loadBlk_run Tryz.underlying68 rfl (by kernel_rfl) w b o hB hn
theorem Tryz.st68 (w : World) (b o : Nat) (l : List Value) (hB : isB w b = true) (hn : o + 10 ≤ (blk w b).length) (hs : l.length = 10) (h1 : OneL l) : (storeBlk 68 (.pointer (some ⟨b, o, none⟩)) (.agg l.toArray)).run Tryz.prog w = .ok () (w.setCells b o l) :=
  storeBlk_run (by kernel_rfl) w b o l hB hn hs h1
attribute [go_sem ↓] Tryz.opl68 Tryz.ops68 Tryz.opv68
attribute [go_sem] Tryz.ld68 Tryz.st68 Tryz.lv68

-- [4]uint64: 4 cells
theorem Tryz.agg71 : AggT Tryz.prog 71 4 := ⟨_, Tryz.underlying71, rfl, by kernel_rfl⟩
theorem Tryz.opl71 (p : Value) : Instr.loadAt 71 p = loadBlk 71 p := rfl
theorem Tryz.ops71 (p v : Value) : Instr.storeAt 71 p v = storeBlk 71 p v := rfl
theorem Tryz.opv71 (a : Addr) : loadVar 71 a = loadBlkA 71 a := rfl
theorem Tryz.lv71 (w : World) (b o : Nat) (hB : isB w b = true) (hn : o + 4 ≤ (blk w b).length) : (loadBlkA 71 ⟨b, o, none⟩).run Tryz.prog w = .ok (.agg (sub (blk w b) o 4).toArray) w :=
  loadBlkA_run Tryz.underlying71 rfl (by kernel_rfl) w b o hB hn
theorem Tryz.ld71 (w : World) (b o : Nat) (hB : isB w b = true) (hn : o + 4 ≤ (blk w b).length) : (loadBlk 71 (.pointer (some ⟨b, o, none⟩))).run Tryz.prog w = .ok (.agg (sub (blk w b) o 4).toArray) w :=
  loadBlk_run Tryz.underlying71 rfl (by kernel_rfl) w b o hB hn
theorem Tryz.st71 (w : World) (b o : Nat) (l : List Value) (hB : isB w b = true) (hn : o + 4 ≤ (blk w b).length) (hs : l.length = 4) (h1 : OneL l) : (storeBlk 71 (.pointer (some ⟨b, o, none⟩)) (.agg l.toArray)).run Tryz.prog w = .ok () (w.setCells b o l) :=
  storeBlk_run (by kernel_rfl) w b o l hB hn hs h1
attribute [go_sem ↓] Tryz.opl71 Tryz.ops71 Tryz.opv71
attribute [go_sem] Tryz.ld71 Tryz.st71 Tryz.lv71

-- api.Answer: 8 cells
theorem Tryz.agg73 : AggT Tryz.prog 73 8 := ⟨_, Tryz.underlying73, rfl, by kernel_rfl⟩
theorem Tryz.opl73 (p : Value) : Instr.loadAt 73 p = loadBlk 73 p := rfl
theorem Tryz.ops73 (p v : Value) : Instr.storeAt 73 p v = storeBlk 73 p v := rfl
theorem Tryz.opv73 (a : Addr) : loadVar 73 a = loadBlkA 73 a := rfl
theorem Tryz.lv73 (w : World) (b o : Nat) (hB : isB w b = true) (hn : o + 8 ≤ (blk w b).length) : (loadBlkA 73 ⟨b, o, none⟩).run Tryz.prog w = .ok (.agg (sub (blk w b) o 8).toArray) w :=
  loadBlkA_run Tryz.underlying73 rfl (by kernel_rfl) w b o hB hn
theorem Tryz.ld73 (w : World) (b o : Nat) (hB : isB w b = true) (hn : o + 8 ≤ (blk w b).length) : (loadBlk 73 (.pointer (some ⟨b, o, none⟩))).run Tryz.prog w = .ok (.agg (sub (blk w b) o 8).toArray) w :=
  loadBlk_run Tryz.underlying73 rfl (by kernel_rfl) w b o hB hn
theorem Tryz.st73 (w : World) (b o : Nat) (l : List Value) (hB : isB w b = true) (hn : o + 8 ≤ (blk w b).length) (hs : l.length = 8) (h1 : OneL l) : (storeBlk 73 (.pointer (some ⟨b, o, none⟩)) (.agg l.toArray)).run Tryz.prog w = .ok () (w.setCells b o l) :=
  storeBlk_run (by kernel_rfl) w b o l hB hn hs h1
attribute [go_sem ↓] Tryz.opl73 Tryz.ops73 Tryz.opv73
attribute [go_sem] Tryz.ld73 Tryz.st73 Tryz.lv73

-- [8]uint64: 8 cells
theorem Tryz.agg75 : AggT Tryz.prog 75 8 := ⟨_, Tryz.underlying75, rfl, by kernel_rfl⟩
theorem Tryz.opl75 (p : Value) : Instr.loadAt 75 p = loadBlk 75 p := rfl
theorem Tryz.ops75 (p v : Value) : Instr.storeAt 75 p v = storeBlk 75 p v := rfl
theorem Tryz.opv75 (a : Addr) : loadVar 75 a = loadBlkA 75 a := rfl
theorem Tryz.lv75 (w : World) (b o : Nat) (hB : isB w b = true) (hn : o + 8 ≤ (blk w b).length) : (loadBlkA 75 ⟨b, o, none⟩).run Tryz.prog w = .ok (.agg (sub (blk w b) o 8).toArray) w :=
  loadBlkA_run Tryz.underlying75 rfl (by kernel_rfl) w b o hB hn
theorem Tryz.ld75 (w : World) (b o : Nat) (hB : isB w b = true) (hn : o + 8 ≤ (blk w b).length) : (loadBlk 75 (.pointer (some ⟨b, o, none⟩))).run Tryz.prog w = .ok (.agg (sub (blk w b) o 8).toArray) w :=
  loadBlk_run Tryz.underlying75 rfl (by kernel_rfl) w b o hB hn
theorem Tryz.st75 (w : World) (b o : Nat) (l : List Value) (hB : isB w b = true) (hn : o + 8 ≤ (blk w b).length) (hs : l.length = 8) (h1 : OneL l) : (storeBlk 75 (.pointer (some ⟨b, o, none⟩)) (.agg l.toArray)).run Tryz.prog w = .ok () (w.setCells b o l) :=
  storeBlk_run (by kernel_rfl) w b o l hB hn hs h1
attribute [go_sem ↓] Tryz.opl75 Tryz.ops75 Tryz.opv75
attribute [go_sem] Tryz.ld75 Tryz.st75 Tryz.lv75

-- api.Cpu: 9 cells
theorem Tryz.agg77 : AggT Tryz.prog 77 9 := ⟨_, Tryz.underlying77, rfl, by kernel_rfl⟩
theorem Tryz.opl77 (p : Value) : Instr.loadAt 77 p = loadBlk 77 p := rfl
theorem Tryz.ops77 (p v : Value) : Instr.storeAt 77 p v = storeBlk 77 p v := rfl
theorem Tryz.opv77 (a : Addr) : loadVar 77 a = loadBlkA 77 a := rfl
theorem Tryz.lv77 (w : World) (b o : Nat) (hB : isB w b = true) (hn : o + 9 ≤ (blk w b).length) : (loadBlkA 77 ⟨b, o, none⟩).run Tryz.prog w = .ok (.agg (sub (blk w b) o 9).toArray) w :=
  loadBlkA_run Tryz.underlying77 rfl (by kernel_rfl) w b o hB hn
theorem Tryz.ld77 (w : World) (b o : Nat) (hB : isB w b = true) (hn : o + 9 ≤ (blk w b).length) : (loadBlk 77 (.pointer (some ⟨b, o, none⟩))).run Tryz.prog w = .ok (.agg (sub (blk w b) o 9).toArray) w :=
  loadBlk_run Tryz.underlying77 rfl (by kernel_rfl) w b o hB hn
theorem Tryz.st77 (w : World) (b o : Nat) (l : List Value) (hB : isB w b = true) (hn : o + 9 ≤ (blk w b).length) (hs : l.length = 9) (h1 : OneL l) : (storeBlk 77 (.pointer (some ⟨b, o, none⟩)) (.agg l.toArray)).run Tryz.prog w = .ok () (w.setCells b o l) :=
  storeBlk_run (by kernel_rfl) w b o l hB hn hs h1
attribute [go_sem ↓] Tryz.opl77 Tryz.ops77 Tryz.opv77
attribute [go_sem] Tryz.ld77 Tryz.st77 Tryz.lv77

-- api.Rec: 13 cells
theorem Tryz.agg80 : AggT Tryz.prog 80 13 := ⟨_, Tryz.underlying80, rfl, by kernel_rfl⟩
theorem Tryz.opl80 (p : Value) : Instr.loadAt 80 p = loadBlk 80 p := rfl
theorem Tryz.ops80 (p v : Value) : Instr.storeAt 80 p v = storeBlk 80 p v := rfl
theorem Tryz.opv80 (a : Addr) : loadVar 80 a = loadBlkA 80 a := rfl
theorem Tryz.lv80 (w : World) (b o : Nat) (hB : isB w b = true) (hn : o + 13 ≤ (blk w b).length) : (loadBlkA 80 ⟨b, o, none⟩).run Tryz.prog w = .ok (.agg (sub (blk w b) o 13).toArray) w :=
  loadBlkA_run Tryz.underlying80 rfl (by kernel_rfl) w b o hB hn
theorem Tryz.ld80 (w : World) (b o : Nat) (hB : isB w b = true) (hn : o + 13 ≤ (blk w b).length) : (loadBlk 80 (.pointer (some ⟨b, o, none⟩))).run Tryz.prog w = .ok (.agg (sub (blk w b) o 13).toArray) w :=
  loadBlk_run Tryz.underlying80 rfl (by kernel_rfl) w b o hB hn
theorem Tryz.st80 (w : World) (b o : Nat) (l : List Value) (hB : isB w b = true) (hn : o + 13 ≤ (blk w b).length) (hs : l.length = 13) (h1 : OneL l) : (storeBlk 80 (.pointer (some ⟨b, o, none⟩)) (.agg l.toArray)).run Tryz.prog w = .ok () (w.setCells b o l) :=
  storeBlk_run (by kernel_rfl) w b o l hB hn hs h1
attribute [go_sem ↓] Tryz.opl80 Tryz.ops80 Tryz.opv80
attribute [go_sem] Tryz.ld80 Tryz.st80 Tryz.lv80

-- api.OwnPage: 129 cells
theorem Tryz.agg99 : AggT Tryz.prog 99 129 := ⟨_, Tryz.underlying99, rfl, by kernel_rfl⟩
theorem Tryz.opl99 (p : Value) : Instr.loadAt 99 p = loadBlk 99 p := rfl
theorem Tryz.ops99 (p v : Value) : Instr.storeAt 99 p v = storeBlk 99 p v := rfl
theorem Tryz.opv99 (a : Addr) : loadVar 99 a = loadBlkA 99 a := rfl
theorem Tryz.lv99 (w : World) (b o : Nat) (hB : isB w b = true) (hn : o + 129 ≤ (blk w b).length) : (loadBlkA 99 ⟨b, o, none⟩).run Tryz.prog w = .ok (.agg (sub (blk w b) o 129).toArray) w :=
  loadBlkA_run Tryz.underlying99 rfl (by kernel_rfl) w b o hB hn
theorem Tryz.ld99 (w : World) (b o : Nat) (hB : isB w b = true) (hn : o + 129 ≤ (blk w b).length) : (loadBlk 99 (.pointer (some ⟨b, o, none⟩))).run Tryz.prog w = .ok (.agg (sub (blk w b) o 129).toArray) w :=
  loadBlk_run Tryz.underlying99 rfl (by kernel_rfl) w b o hB hn
theorem Tryz.st99 (w : World) (b o : Nat) (l : List Value) (hB : isB w b = true) (hn : o + 129 ≤ (blk w b).length) (hs : l.length = 129) (h1 : OneL l) : (storeBlk 99 (.pointer (some ⟨b, o, none⟩)) (.agg l.toArray)).run Tryz.prog w = .ok () (w.setCells b o l) :=
  storeBlk_run (by kernel_rfl) w b o l hB hn hs h1
attribute [go_sem ↓] Tryz.opl99 Tryz.ops99 Tryz.opv99
attribute [go_sem] Tryz.ld99 Tryz.st99 Tryz.lv99

-- api.OwnRec: 14 cells
theorem Tryz.agg102 : AggT Tryz.prog 102 14 := ⟨_, Tryz.underlying102, rfl, by kernel_rfl⟩
theorem Tryz.opl102 (p : Value) : Instr.loadAt 102 p = loadBlk 102 p := rfl
theorem Tryz.ops102 (p v : Value) : Instr.storeAt 102 p v = storeBlk 102 p v := rfl
theorem Tryz.opv102 (a : Addr) : loadVar 102 a = loadBlkA 102 a := rfl
theorem Tryz.lv102 (w : World) (b o : Nat) (hB : isB w b = true) (hn : o + 14 ≤ (blk w b).length) : (loadBlkA 102 ⟨b, o, none⟩).run Tryz.prog w = .ok (.agg (sub (blk w b) o 14).toArray) w :=
  loadBlkA_run Tryz.underlying102 rfl (by kernel_rfl) w b o hB hn
theorem Tryz.ld102 (w : World) (b o : Nat) (hB : isB w b = true) (hn : o + 14 ≤ (blk w b).length) : (loadBlk 102 (.pointer (some ⟨b, o, none⟩))).run Tryz.prog w = .ok (.agg (sub (blk w b) o 14).toArray) w :=
  loadBlk_run Tryz.underlying102 rfl (by kernel_rfl) w b o hB hn
theorem Tryz.st102 (w : World) (b o : Nat) (l : List Value) (hB : isB w b = true) (hn : o + 14 ≤ (blk w b).length) (hs : l.length = 14) (h1 : OneL l) : (storeBlk 102 (.pointer (some ⟨b, o, none⟩)) (.agg l.toArray)).run Tryz.prog w = .ok () (w.setCells b o l) :=
  storeBlk_run (by kernel_rfl) w b o l hB hn hs h1
attribute [go_sem ↓] Tryz.opl102 Tryz.ops102 Tryz.opv102
attribute [go_sem] Tryz.ld102 Tryz.st102 Tryz.lv102

-- api.Report: 65 cells
theorem Tryz.agg119 : AggT Tryz.prog 119 65 := ⟨_, Tryz.underlying119, rfl, by kernel_rfl⟩
theorem Tryz.opl119 (p : Value) : Instr.loadAt 119 p = loadBlk 119 p := rfl
theorem Tryz.ops119 (p v : Value) : Instr.storeAt 119 p v = storeBlk 119 p v := rfl
theorem Tryz.opv119 (a : Addr) : loadVar 119 a = loadBlkA 119 a := rfl
theorem Tryz.lv119 (w : World) (b o : Nat) (hB : isB w b = true) (hn : o + 65 ≤ (blk w b).length) : (loadBlkA 119 ⟨b, o, none⟩).run Tryz.prog w = .ok (.agg (sub (blk w b) o 65).toArray) w :=
  loadBlkA_run Tryz.underlying119 rfl (by kernel_rfl) w b o hB hn
theorem Tryz.ld119 (w : World) (b o : Nat) (hB : isB w b = true) (hn : o + 65 ≤ (blk w b).length) : (loadBlk 119 (.pointer (some ⟨b, o, none⟩))).run Tryz.prog w = .ok (.agg (sub (blk w b) o 65).toArray) w :=
  loadBlk_run Tryz.underlying119 rfl (by kernel_rfl) w b o hB hn
theorem Tryz.st119 (w : World) (b o : Nat) (l : List Value) (hB : isB w b = true) (hn : o + 65 ≤ (blk w b).length) (hs : l.length = 65) (h1 : OneL l) : (storeBlk 119 (.pointer (some ⟨b, o, none⟩)) (.agg l.toArray)).run Tryz.prog w = .ok () (w.setCells b o l) :=
  storeBlk_run (by kernel_rfl) w b o l hB hn hs h1
attribute [go_sem ↓] Tryz.opl119 Tryz.ops119 Tryz.opv119
attribute [go_sem] Tryz.ld119 Tryz.st119 Tryz.lv119

-- api.Realm: 103 cells
theorem Tryz.agg137 : AggT Tryz.prog 137 103 := ⟨_, Tryz.underlying137, rfl, by kernel_rfl⟩
theorem Tryz.opl137 (p : Value) : Instr.loadAt 137 p = loadBlk 137 p := rfl
theorem Tryz.ops137 (p v : Value) : Instr.storeAt 137 p v = storeBlk 137 p v := rfl
theorem Tryz.opv137 (a : Addr) : loadVar 137 a = loadBlkA 137 a := rfl
theorem Tryz.lv137 (w : World) (b o : Nat) (hB : isB w b = true) (hn : o + 103 ≤ (blk w b).length) : (loadBlkA 137 ⟨b, o, none⟩).run Tryz.prog w = .ok (.agg (sub (blk w b) o 103).toArray) w :=
  loadBlkA_run Tryz.underlying137 rfl (by kernel_rfl) w b o hB hn
theorem Tryz.ld137 (w : World) (b o : Nat) (hB : isB w b = true) (hn : o + 103 ≤ (blk w b).length) : (loadBlk 137 (.pointer (some ⟨b, o, none⟩))).run Tryz.prog w = .ok (.agg (sub (blk w b) o 103).toArray) w :=
  loadBlk_run Tryz.underlying137 rfl (by kernel_rfl) w b o hB hn
theorem Tryz.st137 (w : World) (b o : Nat) (l : List Value) (hB : isB w b = true) (hn : o + 103 ≤ (blk w b).length) (hs : l.length = 103) (h1 : OneL l) : (storeBlk 137 (.pointer (some ⟨b, o, none⟩)) (.agg l.toArray)).run Tryz.prog w = .ok () (w.setCells b o l) :=
  storeBlk_run (by kernel_rfl) w b o l hB hn hs h1
attribute [go_sem ↓] Tryz.opl137 Tryz.ops137 Tryz.opv137
attribute [go_sem] Tryz.ld137 Tryz.st137 Tryz.lv137

-- api.Entry: 2 cells
theorem Tryz.agg148 : AggT Tryz.prog 148 2 := ⟨_, Tryz.underlying148, rfl, by kernel_rfl⟩
theorem Tryz.opl148 (p : Value) : Instr.loadAt 148 p = loadBlk 148 p := rfl
theorem Tryz.ops148 (p v : Value) : Instr.storeAt 148 p v = storeBlk 148 p v := rfl
theorem Tryz.opv148 (a : Addr) : loadVar 148 a = loadBlkA 148 a := rfl
theorem Tryz.lv148 (w : World) (b o : Nat) (hB : isB w b = true) (hn : o + 2 ≤ (blk w b).length) : (loadBlkA 148 ⟨b, o, none⟩).run Tryz.prog w = .ok (.agg (sub (blk w b) o 2).toArray) w :=
  loadBlkA_run Tryz.underlying148 rfl (by kernel_rfl) w b o hB hn
theorem Tryz.ld148 (w : World) (b o : Nat) (hB : isB w b = true) (hn : o + 2 ≤ (blk w b).length) : (loadBlk 148 (.pointer (some ⟨b, o, none⟩))).run Tryz.prog w = .ok (.agg (sub (blk w b) o 2).toArray) w :=
  loadBlk_run Tryz.underlying148 rfl (by kernel_rfl) w b o hB hn
theorem Tryz.st148 (w : World) (b o : Nat) (l : List Value) (hB : isB w b = true) (hn : o + 2 ≤ (blk w b).length) (hs : l.length = 2) (h1 : OneL l) : (storeBlk 148 (.pointer (some ⟨b, o, none⟩)) (.agg l.toArray)).run Tryz.prog w = .ok () (w.setCells b o l) :=
  storeBlk_run (by kernel_rfl) w b o l hB hn hs h1
attribute [go_sem ↓] Tryz.opl148 Tryz.ops148 Tryz.opv148
attribute [go_sem] Tryz.ld148 Tryz.st148 Tryz.lv148

-- api.Walk: 5 cells
theorem Tryz.agg150 : AggT Tryz.prog 150 5 := ⟨_, Tryz.underlying150, rfl, by kernel_rfl⟩
theorem Tryz.opl150 (p : Value) : Instr.loadAt 150 p = loadBlk 150 p := rfl
theorem Tryz.ops150 (p v : Value) : Instr.storeAt 150 p v = storeBlk 150 p v := rfl
theorem Tryz.opv150 (a : Addr) : loadVar 150 a = loadBlkA 150 a := rfl
theorem Tryz.lv150 (w : World) (b o : Nat) (hB : isB w b = true) (hn : o + 5 ≤ (blk w b).length) : (loadBlkA 150 ⟨b, o, none⟩).run Tryz.prog w = .ok (.agg (sub (blk w b) o 5).toArray) w :=
  loadBlkA_run Tryz.underlying150 rfl (by kernel_rfl) w b o hB hn
theorem Tryz.ld150 (w : World) (b o : Nat) (hB : isB w b = true) (hn : o + 5 ≤ (blk w b).length) : (loadBlk 150 (.pointer (some ⟨b, o, none⟩))).run Tryz.prog w = .ok (.agg (sub (blk w b) o 5).toArray) w :=
  loadBlk_run Tryz.underlying150 rfl (by kernel_rfl) w b o hB hn
theorem Tryz.st150 (w : World) (b o : Nat) (l : List Value) (hB : isB w b = true) (hn : o + 5 ≤ (blk w b).length) (hs : l.length = 5) (h1 : OneL l) : (storeBlk 150 (.pointer (some ⟨b, o, none⟩)) (.agg l.toArray)).run Tryz.prog w = .ok () (w.setCells b o l) :=
  storeBlk_run (by kernel_rfl) w b o l hB hn hs h1
attribute [go_sem ↓] Tryz.opl150 Tryz.ops150 Tryz.opv150
attribute [go_sem] Tryz.ld150 Tryz.st150 Tryz.lv150

-- api.Row: 3 cells
theorem Tryz.agg155 : AggT Tryz.prog 155 3 := ⟨_, Tryz.underlying155, rfl, by kernel_rfl⟩
theorem Tryz.opl155 (p : Value) : Instr.loadAt 155 p = loadBlk 155 p := rfl
theorem Tryz.ops155 (p v : Value) : Instr.storeAt 155 p v = storeBlk 155 p v := rfl
theorem Tryz.opv155 (a : Addr) : loadVar 155 a = loadBlkA 155 a := rfl
theorem Tryz.lv155 (w : World) (b o : Nat) (hB : isB w b = true) (hn : o + 3 ≤ (blk w b).length) : (loadBlkA 155 ⟨b, o, none⟩).run Tryz.prog w = .ok (.agg (sub (blk w b) o 3).toArray) w :=
  loadBlkA_run Tryz.underlying155 rfl (by kernel_rfl) w b o hB hn
theorem Tryz.ld155 (w : World) (b o : Nat) (hB : isB w b = true) (hn : o + 3 ≤ (blk w b).length) : (loadBlk 155 (.pointer (some ⟨b, o, none⟩))).run Tryz.prog w = .ok (.agg (sub (blk w b) o 3).toArray) w :=
  loadBlk_run Tryz.underlying155 rfl (by kernel_rfl) w b o hB hn
theorem Tryz.st155 (w : World) (b o : Nat) (l : List Value) (hB : isB w b = true) (hn : o + 3 ≤ (blk w b).length) (hs : l.length = 3) (h1 : OneL l) : (storeBlk 155 (.pointer (some ⟨b, o, none⟩)) (.agg l.toArray)).run Tryz.prog w = .ok () (w.setCells b o l) :=
  storeBlk_run (by kernel_rfl) w b o l hB hn hs h1
attribute [go_sem ↓] Tryz.opl155 Tryz.ops155 Tryz.opv155
attribute [go_sem] Tryz.ld155 Tryz.st155 Tryz.lv155

-- machine.Memory: 1 cells
theorem Tryz.agg167 : AggT Tryz.prog 167 1 := ⟨_, Tryz.underlying167, rfl, by kernel_rfl⟩
theorem Tryz.opl167 (p : Value) : Instr.loadAt 167 p = loadBlk 167 p := rfl
theorem Tryz.ops167 (p v : Value) : Instr.storeAt 167 p v = storeBlk 167 p v := rfl
theorem Tryz.opv167 (a : Addr) : loadVar 167 a = loadBlkA 167 a := rfl
theorem Tryz.lv167 (w : World) (b o : Nat) (hB : isB w b = true) (hn : o + 1 ≤ (blk w b).length) : (loadBlkA 167 ⟨b, o, none⟩).run Tryz.prog w = .ok (.agg (sub (blk w b) o 1).toArray) w :=
  loadBlkA_run Tryz.underlying167 rfl (by kernel_rfl) w b o hB hn
theorem Tryz.ld167 (w : World) (b o : Nat) (hB : isB w b = true) (hn : o + 1 ≤ (blk w b).length) : (loadBlk 167 (.pointer (some ⟨b, o, none⟩))).run Tryz.prog w = .ok (.agg (sub (blk w b) o 1).toArray) w :=
  loadBlk_run Tryz.underlying167 rfl (by kernel_rfl) w b o hB hn
theorem Tryz.st167 (w : World) (b o : Nat) (l : List Value) (hB : isB w b = true) (hn : o + 1 ≤ (blk w b).length) (hs : l.length = 1) (h1 : OneL l) : (storeBlk 167 (.pointer (some ⟨b, o, none⟩)) (.agg l.toArray)).run Tryz.prog w = .ok () (w.setCells b o l) :=
  storeBlk_run (by kernel_rfl) w b o l hB hn hs h1
attribute [go_sem ↓] Tryz.opl167 Tryz.ops167 Tryz.opv167
attribute [go_sem] Tryz.ld167 Tryz.st167 Tryz.lv167

-- granule.Table: 1 cells
theorem Tryz.agg170 : AggT Tryz.prog 170 1 := ⟨_, Tryz.underlying170, rfl, by kernel_rfl⟩
theorem Tryz.opl170 (p : Value) : Instr.loadAt 170 p = loadBlk 170 p := rfl
theorem Tryz.ops170 (p v : Value) : Instr.storeAt 170 p v = storeBlk 170 p v := rfl
theorem Tryz.opv170 (a : Addr) : loadVar 170 a = loadBlkA 170 a := rfl
theorem Tryz.lv170 (w : World) (b o : Nat) (hB : isB w b = true) (hn : o + 1 ≤ (blk w b).length) : (loadBlkA 170 ⟨b, o, none⟩).run Tryz.prog w = .ok (.agg (sub (blk w b) o 1).toArray) w :=
  loadBlkA_run Tryz.underlying170 rfl (by kernel_rfl) w b o hB hn
theorem Tryz.ld170 (w : World) (b o : Nat) (hB : isB w b = true) (hn : o + 1 ≤ (blk w b).length) : (loadBlk 170 (.pointer (some ⟨b, o, none⟩))).run Tryz.prog w = .ok (.agg (sub (blk w b) o 1).toArray) w :=
  loadBlk_run Tryz.underlying170 rfl (by kernel_rfl) w b o hB hn
theorem Tryz.st170 (w : World) (b o : Nat) (l : List Value) (hB : isB w b = true) (hn : o + 1 ≤ (blk w b).length) (hs : l.length = 1) (h1 : OneL l) : (storeBlk 170 (.pointer (some ⟨b, o, none⟩)) (.agg l.toArray)).run Tryz.prog w = .ok () (w.setCells b o l) :=
  storeBlk_run (by kernel_rfl) w b o l hB hn hs h1
attribute [go_sem ↓] Tryz.opl170 Tryz.ops170 Tryz.opv170
attribute [go_sem] Tryz.ld170 Tryz.st170 Tryz.lv170

-- oracle.Oracle: 37 cells
theorem Tryz.agg175 : AggT Tryz.prog 175 37 := ⟨_, Tryz.underlying175, rfl, by kernel_rfl⟩
theorem Tryz.opl175 (p : Value) : Instr.loadAt 175 p = loadBlk 175 p := rfl
theorem Tryz.ops175 (p v : Value) : Instr.storeAt 175 p v = storeBlk 175 p v := rfl
theorem Tryz.opv175 (a : Addr) : loadVar 175 a = loadBlkA 175 a := rfl
theorem Tryz.lv175 (w : World) (b o : Nat) (hB : isB w b = true) (hn : o + 37 ≤ (blk w b).length) : (loadBlkA 175 ⟨b, o, none⟩).run Tryz.prog w = .ok (.agg (sub (blk w b) o 37).toArray) w :=
  loadBlkA_run Tryz.underlying175 rfl (by kernel_rfl) w b o hB hn
theorem Tryz.ld175 (w : World) (b o : Nat) (hB : isB w b = true) (hn : o + 37 ≤ (blk w b).length) : (loadBlk 175 (.pointer (some ⟨b, o, none⟩))).run Tryz.prog w = .ok (.agg (sub (blk w b) o 37).toArray) w :=
  loadBlk_run Tryz.underlying175 rfl (by kernel_rfl) w b o hB hn
theorem Tryz.st175 (w : World) (b o : Nat) (l : List Value) (hB : isB w b = true) (hn : o + 37 ≤ (blk w b).length) (hs : l.length = 37) (h1 : OneL l) : (storeBlk 175 (.pointer (some ⟨b, o, none⟩)) (.agg l.toArray)).run Tryz.prog w = .ok () (w.setCells b o l) :=
  storeBlk_run (by kernel_rfl) w b o l hB hn hs h1
attribute [go_sem ↓] Tryz.opl175 Tryz.ops175 Tryz.opv175
attribute [go_sem] Tryz.ld175 Tryz.st175 Tryz.lv175

-- rtt.Tables: 2 cells
theorem Tryz.agg177 : AggT Tryz.prog 177 2 := ⟨_, Tryz.underlying177, rfl, by kernel_rfl⟩
theorem Tryz.opl177 (p : Value) : Instr.loadAt 177 p = loadBlk 177 p := rfl
theorem Tryz.ops177 (p v : Value) : Instr.storeAt 177 p v = storeBlk 177 p v := rfl
theorem Tryz.opv177 (a : Addr) : loadVar 177 a = loadBlkA 177 a := rfl
theorem Tryz.lv177 (w : World) (b o : Nat) (hB : isB w b = true) (hn : o + 2 ≤ (blk w b).length) : (loadBlkA 177 ⟨b, o, none⟩).run Tryz.prog w = .ok (.agg (sub (blk w b) o 2).toArray) w :=
  loadBlkA_run Tryz.underlying177 rfl (by kernel_rfl) w b o hB hn
theorem Tryz.ld177 (w : World) (b o : Nat) (hB : isB w b = true) (hn : o + 2 ≤ (blk w b).length) : (loadBlk 177 (.pointer (some ⟨b, o, none⟩))).run Tryz.prog w = .ok (.agg (sub (blk w b) o 2).toArray) w :=
  loadBlk_run Tryz.underlying177 rfl (by kernel_rfl) w b o hB hn
theorem Tryz.st177 (w : World) (b o : Nat) (l : List Value) (hB : isB w b = true) (hn : o + 2 ≤ (blk w b).length) (hs : l.length = 2) (h1 : OneL l) : (storeBlk 177 (.pointer (some ⟨b, o, none⟩)) (.agg l.toArray)).run Tryz.prog w = .ok () (w.setCells b o l) :=
  storeBlk_run (by kernel_rfl) w b o l hB hn hs h1
attribute [go_sem ↓] Tryz.opl177 Tryz.ops177 Tryz.opv177
attribute [go_sem] Tryz.ld177 Tryz.st177 Tryz.lv177

-- realm.Realms: 3 cells
theorem Tryz.agg179 : AggT Tryz.prog 179 3 := ⟨_, Tryz.underlying179, rfl, by kernel_rfl⟩
theorem Tryz.opl179 (p : Value) : Instr.loadAt 179 p = loadBlk 179 p := rfl
theorem Tryz.ops179 (p v : Value) : Instr.storeAt 179 p v = storeBlk 179 p v := rfl
theorem Tryz.opv179 (a : Addr) : loadVar 179 a = loadBlkA 179 a := rfl
theorem Tryz.lv179 (w : World) (b o : Nat) (hB : isB w b = true) (hn : o + 3 ≤ (blk w b).length) : (loadBlkA 179 ⟨b, o, none⟩).run Tryz.prog w = .ok (.agg (sub (blk w b) o 3).toArray) w :=
  loadBlkA_run Tryz.underlying179 rfl (by kernel_rfl) w b o hB hn
theorem Tryz.ld179 (w : World) (b o : Nat) (hB : isB w b = true) (hn : o + 3 ≤ (blk w b).length) : (loadBlk 179 (.pointer (some ⟨b, o, none⟩))).run Tryz.prog w = .ok (.agg (sub (blk w b) o 3).toArray) w :=
  loadBlk_run Tryz.underlying179 rfl (by kernel_rfl) w b o hB hn
theorem Tryz.st179 (w : World) (b o : Nat) (l : List Value) (hB : isB w b = true) (hn : o + 3 ≤ (blk w b).length) (hs : l.length = 3) (h1 : OneL l) : (storeBlk 179 (.pointer (some ⟨b, o, none⟩)) (.agg l.toArray)).run Tryz.prog w = .ok () (w.setCells b o l) :=
  storeBlk_run (by kernel_rfl) w b o l hB hn hs h1
attribute [go_sem ↓] Tryz.opl179 Tryz.ops179 Tryz.opv179
attribute [go_sem] Tryz.ld179 Tryz.st179 Tryz.lv179

-- monitor.refused: 1 cells
theorem Tryz.agg181 : AggT Tryz.prog 181 1 := ⟨_, Tryz.underlying181, rfl, by kernel_rfl⟩
theorem Tryz.opl181 (p : Value) : Instr.loadAt 181 p = loadBlk 181 p := rfl
theorem Tryz.ops181 (p v : Value) : Instr.storeAt 181 p v = storeBlk 181 p v := rfl
theorem Tryz.opv181 (a : Addr) : loadVar 181 a = loadBlkA 181 a := rfl
theorem Tryz.lv181 (w : World) (b o : Nat) (hB : isB w b = true) (hn : o + 1 ≤ (blk w b).length) : (loadBlkA 181 ⟨b, o, none⟩).run Tryz.prog w = .ok (.agg (sub (blk w b) o 1).toArray) w :=
  loadBlkA_run Tryz.underlying181 rfl (by kernel_rfl) w b o hB hn
theorem Tryz.ld181 (w : World) (b o : Nat) (hB : isB w b = true) (hn : o + 1 ≤ (blk w b).length) : (loadBlk 181 (.pointer (some ⟨b, o, none⟩))).run Tryz.prog w = .ok (.agg (sub (blk w b) o 1).toArray) w :=
  loadBlk_run Tryz.underlying181 rfl (by kernel_rfl) w b o hB hn
theorem Tryz.st181 (w : World) (b o : Nat) (l : List Value) (hB : isB w b = true) (hn : o + 1 ≤ (blk w b).length) (hs : l.length = 1) (h1 : OneL l) : (storeBlk 181 (.pointer (some ⟨b, o, none⟩)) (.agg l.toArray)).run Tryz.prog w = .ok () (w.setCells b o l) :=
  storeBlk_run (by kernel_rfl) w b o l hB hn hs h1
attribute [go_sem ↓] Tryz.opl181 Tryz.ops181 Tryz.opv181
attribute [go_sem] Tryz.ld181 Tryz.st181 Tryz.lv181

-- api.Question: 35 cells
theorem Tryz.agg200 : AggT Tryz.prog 200 35 := ⟨_, Tryz.underlying200, rfl, by kernel_rfl⟩
theorem Tryz.opl200 (p : Value) : Instr.loadAt 200 p = loadBlk 200 p := rfl
theorem Tryz.ops200 (p v : Value) : Instr.storeAt 200 p v = storeBlk 200 p v := rfl
theorem Tryz.opv200 (a : Addr) : loadVar 200 a = loadBlkA 200 a := rfl
theorem Tryz.lv200 (w : World) (b o : Nat) (hB : isB w b = true) (hn : o + 35 ≤ (blk w b).length) : (loadBlkA 200 ⟨b, o, none⟩).run Tryz.prog w = .ok (.agg (sub (blk w b) o 35).toArray) w :=
  loadBlkA_run Tryz.underlying200 rfl (by kernel_rfl) w b o hB hn
theorem Tryz.ld200 (w : World) (b o : Nat) (hB : isB w b = true) (hn : o + 35 ≤ (blk w b).length) : (loadBlk 200 (.pointer (some ⟨b, o, none⟩))).run Tryz.prog w = .ok (.agg (sub (blk w b) o 35).toArray) w :=
  loadBlk_run Tryz.underlying200 rfl (by kernel_rfl) w b o hB hn
theorem Tryz.st200 (w : World) (b o : Nat) (l : List Value) (hB : isB w b = true) (hn : o + 35 ≤ (blk w b).length) (hs : l.length = 35) (h1 : OneL l) : (storeBlk 200 (.pointer (some ⟨b, o, none⟩)) (.agg l.toArray)).run Tryz.prog w = .ok () (w.setCells b o l) :=
  storeBlk_run (by kernel_rfl) w b o l hB hn hs h1
attribute [go_sem ↓] Tryz.opl200 Tryz.ops200 Tryz.opv200
attribute [go_sem] Tryz.ld200 Tryz.st200 Tryz.lv200

-- api.Asked: 67 cells
theorem Tryz.agg206 : AggT Tryz.prog 206 67 := ⟨_, Tryz.underlying206, rfl, by kernel_rfl⟩
theorem Tryz.opl206 (p : Value) : Instr.loadAt 206 p = loadBlk 206 p := rfl
theorem Tryz.ops206 (p v : Value) : Instr.storeAt 206 p v = storeBlk 206 p v := rfl
theorem Tryz.opv206 (a : Addr) : loadVar 206 a = loadBlkA 206 a := rfl
theorem Tryz.lv206 (w : World) (b o : Nat) (hB : isB w b = true) (hn : o + 67 ≤ (blk w b).length) : (loadBlkA 206 ⟨b, o, none⟩).run Tryz.prog w = .ok (.agg (sub (blk w b) o 67).toArray) w :=
  loadBlkA_run Tryz.underlying206 rfl (by kernel_rfl) w b o hB hn
theorem Tryz.ld206 (w : World) (b o : Nat) (hB : isB w b = true) (hn : o + 67 ≤ (blk w b).length) : (loadBlk 206 (.pointer (some ⟨b, o, none⟩))).run Tryz.prog w = .ok (.agg (sub (blk w b) o 67).toArray) w :=
  loadBlk_run Tryz.underlying206 rfl (by kernel_rfl) w b o hB hn
theorem Tryz.st206 (w : World) (b o : Nat) (l : List Value) (hB : isB w b = true) (hn : o + 67 ≤ (blk w b).length) (hs : l.length = 67) (h1 : OneL l) : (storeBlk 206 (.pointer (some ⟨b, o, none⟩)) (.agg l.toArray)).run Tryz.prog w = .ok () (w.setCells b o l) :=
  storeBlk_run (by kernel_rfl) w b o l hB hn hs h1
attribute [go_sem ↓] Tryz.opl206 Tryz.ops206 Tryz.opv206
attribute [go_sem] Tryz.ld206 Tryz.st206 Tryz.lv206

-- oracle.asked: 35 cells
theorem Tryz.agg208 : AggT Tryz.prog 208 35 := ⟨_, Tryz.underlying208, rfl, by kernel_rfl⟩
theorem Tryz.opl208 (p : Value) : Instr.loadAt 208 p = loadBlk 208 p := rfl
theorem Tryz.ops208 (p v : Value) : Instr.storeAt 208 p v = storeBlk 208 p v := rfl
theorem Tryz.opv208 (a : Addr) : loadVar 208 a = loadBlkA 208 a := rfl
theorem Tryz.lv208 (w : World) (b o : Nat) (hB : isB w b = true) (hn : o + 35 ≤ (blk w b).length) : (loadBlkA 208 ⟨b, o, none⟩).run Tryz.prog w = .ok (.agg (sub (blk w b) o 35).toArray) w :=
  loadBlkA_run Tryz.underlying208 rfl (by kernel_rfl) w b o hB hn
theorem Tryz.ld208 (w : World) (b o : Nat) (hB : isB w b = true) (hn : o + 35 ≤ (blk w b).length) : (loadBlk 208 (.pointer (some ⟨b, o, none⟩))).run Tryz.prog w = .ok (.agg (sub (blk w b) o 35).toArray) w :=
  loadBlk_run Tryz.underlying208 rfl (by kernel_rfl) w b o hB hn
theorem Tryz.st208 (w : World) (b o : Nat) (l : List Value) (hB : isB w b = true) (hn : o + 35 ≤ (blk w b).length) (hs : l.length = 35) (h1 : OneL l) : (storeBlk 208 (.pointer (some ⟨b, o, none⟩)) (.agg l.toArray)).run Tryz.prog w = .ok () (w.setCells b o l) :=
  storeBlk_run (by kernel_rfl) w b o l hB hn hs h1
attribute [go_sem ↓] Tryz.opl208 Tryz.ops208 Tryz.opv208
attribute [go_sem] Tryz.ld208 Tryz.st208 Tryz.lv208

-- api.RecParams: 10 cells
theorem Tryz.agg223 : AggT Tryz.prog 223 10 := ⟨_, Tryz.underlying223, rfl, by kernel_rfl⟩
theorem Tryz.opl223 (p : Value) : Instr.loadAt 223 p = loadBlk 223 p := rfl
theorem Tryz.ops223 (p v : Value) : Instr.storeAt 223 p v = storeBlk 223 p v := rfl
theorem Tryz.opv223 (a : Addr) : loadVar 223 a = loadBlkA 223 a := rfl
theorem Tryz.lv223 (w : World) (b o : Nat) (hB : isB w b = true) (hn : o + 10 ≤ (blk w b).length) : (loadBlkA 223 ⟨b, o, none⟩).run Tryz.prog w = .ok (.agg (sub (blk w b) o 10).toArray) w :=
  loadBlkA_run Tryz.underlying223 rfl (by kernel_rfl) w b o hB hn
theorem Tryz.ld223 (w : World) (b o : Nat) (hB : isB w b = true) (hn : o + 10 ≤ (blk w b).length) : (loadBlk 223 (.pointer (some ⟨b, o, none⟩))).run Tryz.prog w = .ok (.agg (sub (blk w b) o 10).toArray) w :=
  loadBlk_run Tryz.underlying223 rfl (by kernel_rfl) w b o hB hn
theorem Tryz.st223 (w : World) (b o : Nat) (l : List Value) (hB : isB w b = true) (hn : o + 10 ≤ (blk w b).length) (hs : l.length = 10) (h1 : OneL l) : (storeBlk 223 (.pointer (some ⟨b, o, none⟩)) (.agg l.toArray)).run Tryz.prog w = .ok () (w.setCells b o l) :=
  storeBlk_run (by kernel_rfl) w b o l hB hn hs h1
attribute [go_sem ↓] Tryz.opl223 Tryz.ops223 Tryz.opv223
attribute [go_sem] Tryz.ld223 Tryz.st223 Tryz.lv223

-- api.Record: 172 cells
theorem Tryz.agg225 : AggT Tryz.prog 225 172 := ⟨_, Tryz.underlying225, rfl, by kernel_rfl⟩
theorem Tryz.opl225 (p : Value) : Instr.loadAt 225 p = loadBlk 225 p := rfl
theorem Tryz.ops225 (p v : Value) : Instr.storeAt 225 p v = storeBlk 225 p v := rfl
theorem Tryz.opv225 (a : Addr) : loadVar 225 a = loadBlkA 225 a := rfl
theorem Tryz.lv225 (w : World) (b o : Nat) (hB : isB w b = true) (hn : o + 172 ≤ (blk w b).length) : (loadBlkA 225 ⟨b, o, none⟩).run Tryz.prog w = .ok (.agg (sub (blk w b) o 172).toArray) w :=
  loadBlkA_run Tryz.underlying225 rfl (by kernel_rfl) w b o hB hn
theorem Tryz.ld225 (w : World) (b o : Nat) (hB : isB w b = true) (hn : o + 172 ≤ (blk w b).length) : (loadBlk 225 (.pointer (some ⟨b, o, none⟩))).run Tryz.prog w = .ok (.agg (sub (blk w b) o 172).toArray) w :=
  loadBlk_run Tryz.underlying225 rfl (by kernel_rfl) w b o hB hn
theorem Tryz.st225 (w : World) (b o : Nat) (l : List Value) (hB : isB w b = true) (hn : o + 172 ≤ (blk w b).length) (hs : l.length = 172) (h1 : OneL l) : (storeBlk 225 (.pointer (some ⟨b, o, none⟩)) (.agg l.toArray)).run Tryz.prog w = .ok () (w.setCells b o l) :=
  storeBlk_run (by kernel_rfl) w b o l hB hn hs h1
attribute [go_sem ↓] Tryz.opl225 Tryz.ops225 Tryz.opv225
attribute [go_sem] Tryz.ld225 Tryz.st225 Tryz.lv225

-- call.known: 2 cells
theorem Tryz.agg251 : AggT Tryz.prog 251 2 := ⟨_, Tryz.underlying251, rfl, by kernel_rfl⟩
theorem Tryz.opl251 (p : Value) : Instr.loadAt 251 p = loadBlk 251 p := rfl
theorem Tryz.ops251 (p v : Value) : Instr.storeAt 251 p v = storeBlk 251 p v := rfl
theorem Tryz.opv251 (a : Addr) : loadVar 251 a = loadBlkA 251 a := rfl
theorem Tryz.lv251 (w : World) (b o : Nat) (hB : isB w b = true) (hn : o + 2 ≤ (blk w b).length) : (loadBlkA 251 ⟨b, o, none⟩).run Tryz.prog w = .ok (.agg (sub (blk w b) o 2).toArray) w :=
  loadBlkA_run Tryz.underlying251 rfl (by kernel_rfl) w b o hB hn
theorem Tryz.ld251 (w : World) (b o : Nat) (hB : isB w b = true) (hn : o + 2 ≤ (blk w b).length) : (loadBlk 251 (.pointer (some ⟨b, o, none⟩))).run Tryz.prog w = .ok (.agg (sub (blk w b) o 2).toArray) w :=
  loadBlk_run Tryz.underlying251 rfl (by kernel_rfl) w b o hB hn
theorem Tryz.st251 (w : World) (b o : Nat) (l : List Value) (hB : isB w b = true) (hn : o + 2 ≤ (blk w b).length) (hs : l.length = 2) (h1 : OneL l) : (storeBlk 251 (.pointer (some ⟨b, o, none⟩)) (.agg l.toArray)).run Tryz.prog w = .ok () (w.setCells b o l) :=
  storeBlk_run (by kernel_rfl) w b o l hB hn hs h1
attribute [go_sem ↓] Tryz.opl251 Tryz.ops251 Tryz.opv251
attribute [go_sem] Tryz.ld251 Tryz.st251 Tryz.lv251

-- struct%20{%20is%20bool%20}: 1 cells
theorem Tryz.agg324 : AggT Tryz.prog 324 1 := ⟨_, Tryz.underlying324, rfl, by kernel_rfl⟩
theorem Tryz.opl324 (p : Value) : Instr.loadAt 324 p = loadBlk 324 p := rfl
theorem Tryz.ops324 (p v : Value) : Instr.storeAt 324 p v = storeBlk 324 p v := rfl
theorem Tryz.opv324 (a : Addr) : loadVar 324 a = loadBlkA 324 a := rfl
theorem Tryz.lv324 (w : World) (b o : Nat) (hB : isB w b = true) (hn : o + 1 ≤ (blk w b).length) : (loadBlkA 324 ⟨b, o, none⟩).run Tryz.prog w = .ok (.agg (sub (blk w b) o 1).toArray) w :=
  loadBlkA_run Tryz.underlying324 rfl (by kernel_rfl) w b o hB hn
theorem Tryz.ld324 (w : World) (b o : Nat) (hB : isB w b = true) (hn : o + 1 ≤ (blk w b).length) : (loadBlk 324 (.pointer (some ⟨b, o, none⟩))).run Tryz.prog w = .ok (.agg (sub (blk w b) o 1).toArray) w :=
  loadBlk_run Tryz.underlying324 rfl (by kernel_rfl) w b o hB hn
theorem Tryz.st324 (w : World) (b o : Nat) (l : List Value) (hB : isB w b = true) (hn : o + 1 ≤ (blk w b).length) (hs : l.length = 1) (h1 : OneL l) : (storeBlk 324 (.pointer (some ⟨b, o, none⟩)) (.agg l.toArray)).run Tryz.prog w = .ok () (w.setCells b o l) :=
  storeBlk_run (by kernel_rfl) w b o l hB hn hs h1
attribute [go_sem ↓] Tryz.opl324 Tryz.ops324 Tryz.opv324
attribute [go_sem] Tryz.ld324 Tryz.st324 Tryz.lv324

-- [8]uint8: 8 cells
theorem Tryz.agg405 : AggT Tryz.prog 405 8 := ⟨_, Tryz.underlying405, rfl, by kernel_rfl⟩
theorem Tryz.opl405 (p : Value) : Instr.loadAt 405 p = loadBlk 405 p := rfl
theorem Tryz.ops405 (p v : Value) : Instr.storeAt 405 p v = storeBlk 405 p v := rfl
theorem Tryz.opv405 (a : Addr) : loadVar 405 a = loadBlkA 405 a := rfl
theorem Tryz.lv405 (w : World) (b o : Nat) (hB : isB w b = true) (hn : o + 8 ≤ (blk w b).length) : (loadBlkA 405 ⟨b, o, none⟩).run Tryz.prog w = .ok (.agg (sub (blk w b) o 8).toArray) w :=
  loadBlkA_run Tryz.underlying405 rfl (by kernel_rfl) w b o hB hn
theorem Tryz.ld405 (w : World) (b o : Nat) (hB : isB w b = true) (hn : o + 8 ≤ (blk w b).length) : (loadBlk 405 (.pointer (some ⟨b, o, none⟩))).run Tryz.prog w = .ok (.agg (sub (blk w b) o 8).toArray) w :=
  loadBlk_run Tryz.underlying405 rfl (by kernel_rfl) w b o hB hn
theorem Tryz.st405 (w : World) (b o : Nat) (l : List Value) (hB : isB w b = true) (hn : o + 8 ≤ (blk w b).length) (hs : l.length = 8) (h1 : OneL l) : (storeBlk 405 (.pointer (some ⟨b, o, none⟩)) (.agg l.toArray)).run Tryz.prog w = .ok () (w.setCells b o l) :=
  storeBlk_run (by kernel_rfl) w b o l hB hn hs h1
attribute [go_sem ↓] Tryz.opl405 Tryz.ops405 Tryz.opv405
attribute [go_sem] Tryz.ld405 Tryz.st405 Tryz.lv405

end Go.Proofs
