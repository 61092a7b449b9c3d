/- The rings' laws: what their rows give of the laid tables; a world for the witness. -/
import Derived.Test.YtcifajfmdpjfiaaDoorMLw
import Derived.Test.YtcifajfmdpjfiaaDoorRgK
import Derived.LaidLaws
import Derived.Deep.DeepWitnessRowRef
import Derived.Lib.LaidTab
import Derived.Lib.TrailingZeros
import Derived.Test.YtcifajfmdpjfiaaDoorCards
import Derived.Test.YtcifajfmdpjfiaaDoorTie
namespace Go.Proofs.YtcifajfmdpjfiaaDoor
open Go.ChangeShapes Go.WideShapes Go.RowKit Go.Tum Go.Deep
theorem rg_own : ownKnob Tryd.prog.godebug = none := by kernel_rfl
theorem rg_out : laidOutB Tryd.prog = true := by kernel_rfl
theorem tab_gt : (Tryd.prog.globals[1]?).map (·.type) = some 159 := by kernel_rfl
theorem rg_c1 : Tryd.prog.cellsOf 41 = 1 := by kernel_rfl
theorem rg_c20 : Tryd.prog.cellsOf 159 = 20 := by kernel_rfl
theorem pow10_data {H : Type} : (Rows.laid_internal_strconv_uint64pow10 : DataW H) = Lib.tabData .u64 Lib.pow10Tab := rfl
set_option maxRecDepth 100000 in
theorem tab_of_laid {W : World} (h : laidMetH Tryd.prog Rows.relayOrderRow.laid W) : Tab W := by
  have h' : laidMet Tryd.prog Rows.relayOrderRow.laid W := h
  obtain ⟨ps, ⟨g1, t1, c1, f1, p1, q1, _, _, _, _, ⟨g2, t2, c2, f2, p2, q2, _, _, _, _, ⟨g3, t3, c3, f3, p3, q3, hg, ht, hv, hd, _, _⟩, _⟩, _⟩, _⟩ := h'
  obtain rfl := Option.some.inj (tab_g.symm.trans hg)
  obtain rfl := Option.some.inj (tab_gt.symm.trans ht)
  rw [pow10_data] at hd
  unfold Tab Lib.TabIs
  rw [hv, ← Lib.cells_of_tab Tryd.underlying159 Tryd.underlying41 rg_c1 rg_c20 hd]
def laysCells (a : Array Value) : Obj → Obj
  | .cells _ t frozen => .cells a t frozen
  | o => o
noncomputable def laidW (os : Os) : World :=
  let w0 := World.holding Tryd.prog os ⟨#[], #[], []⟩
  { w0 with heap := ((w0.heap.modify 2 (laysCells (Lib.deBruijn32tab.map fun z => Value.int .u8 (z : Nat)).toArray)).modify 3 (laysCells (Lib.deBruijn64tab.map fun z => Value.int .u8 (z : Nat)).toArray)).modify 1 (laysCells (Lib.pow10Tab.map fun z => Value.int .u64 z).toArray) }
set_option maxRecDepth 100000 in
theorem laidW_met (os : Os) (args : Array Value) : laidMet Tryd.prog Rows.relayOrderRow.laid ((laidW os).forCall (fun _ _ => 0) ⟨#[], args, []⟩).memory :=
  laidMet_of_run' 8 (by kernel_rfl) (by kernel_rfl)
end Go.Proofs.YtcifajfmdpjfiaaDoor
