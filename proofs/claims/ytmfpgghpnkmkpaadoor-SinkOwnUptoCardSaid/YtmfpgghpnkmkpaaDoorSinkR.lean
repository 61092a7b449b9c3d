/- The sinks' laws: what their rows give of the laid variable; a world for the witness. -/
import Derived.Test.YtmfpgghpnkmkpaaDoorLaw
import Derived.LaidLaws
import Derived.Deep.DeepWitnessRowRef
import Derived.Lib.LaidTab
import Derived.Test.YtmfpgghpnkmkpaaDoorCards
import Derived.Test.YtmfpgghpnkmkpaaDoorTie
namespace Go.Proofs.YtmfpgghpnkmkpaaDoor
open Go.ChangeShapes Go.WideShapes Go.RowKit Go.Tum Go.Deep
theorem sk_own : ownKnob Tryd.prog.godebug = none := by kernel_rfl
theorem sk_out : laidOutB Tryd.prog = true := by kernel_rfl
theorem sk_g : Tryd.prog.globalNamed "tumbler/sink.errFailed" = some 0 := by kernel_rfl
theorem sk_gt : (Tryd.prog.globals[0]?).map (·.type) = some 73 := by kernel_rfl
theorem sk_star : "*" ++ "errors.errorString" = "*errors.errorString" := by decide
theorem sk_row (u : TypeId) (h : Tryd.prog.typeName? 3 u = some "*errors.errorString") : u = 94 :=
  typeName_ptr_named (nm := "errors.errorString") (by rw [sk_star]; kernel_rfl) (by kernel_rfl) (by decide) u (by rw [sk_star]; exact h)
theorem sk_c1 : Tryd.prog.cellsOf 120 = 1 := by kernel_rfl
theorem sk_c2 : Tryd.prog.cellsOf 9 = 1 := by kernel_rfl
set_option maxRecDepth 100000 in
theorem failed_of_laid {W : World} (h : laidMetH Tryd.prog Rows.sinkPlaysRow.laid W) : ∃ ea, W.cell? ⟨0, 0, none⟩ = some (.iface 94 (.pointer (some ea))) := by
  have h' : laidMet Tryd.prog Rows.sinkPlaysRow.laid W := h
  obtain ⟨ps, ⟨g0, t0, cs0, f0, p0, q0, hg0, ht0, hv0, hd0, hq0, e0⟩, hnd, hrows⟩ := h'
  obtain rfl := Option.some.inj (sk_g.symm.trans hg0)
  obtain rfl := Option.some.inj (sk_gt.symm.trans ht0)
  have hq' : q0 = [] := hq0
  subst hq'
  subst e0
  obtain ⟨l0⟩ := cs0
  have ok0 : ∀ u v, l0 = [.iface u v] → Value.okWide Tryd.prog W .any 0 u v := fun u v e => by
    subst e
    exact (hrows 0 0 (by simp [MemPlace.row])).2 u v (by simpa using World.var?_cell hg0 hv0 0)
  obtain ⟨a0, s0, rfl, _, _, _, rfl⟩ := errorString_of_trod Tryd.underlying73 sk_row Tryd.underlying94 Tryd.underlying120 rfl rfl Tryd.underlying9 sk_c1 sk_c2 hd0 ok0
  exact ⟨a0, by simpa using World.var?_cell sk_g hv0 0⟩
abbrev failS : ByteArray := { data := #[99, 111, 110, 110, 101, 99, 116, 105, 111, 110, 32, 102, 97, 105, 108, 101, 100] }
noncomputable def lowW : Nat := (World.holding Tryd.prog default ⟨#[], #[], []⟩).heap.size
noncomputable def laidW (os : Os) : World :=
  let w0 := World.holding Tryd.prog os ⟨#[.cells #[.string failS] 120], #[], []⟩
  { w0 with heap := w0.heap.modify 0 fun
      | .cells _ t frozen => .cells #[.iface 94 (.pointer (some ⟨lowW, 0, none⟩))] t frozen
      | o => o }
set_option maxRecDepth 100000 in
theorem laidW_met (os : Os) (args : Array Value) : laidMet Tryd.prog Rows.sinkPlaysRow.laid ((laidW os).forCall (fun _ _ => 0) ⟨#[], args, []⟩).memory :=
  laidMet_of_run' 8 (by kernel_rfl) (by kernel_rfl)
end Go.Proofs.YtmfpgghpnkmkpaaDoor
