/- errors.Is at the sentinel of this package, and at nil. -/
import Derived.Test.YtmfpgghpnkmkpaaDoorProg
import Derived.Test.YtmfpgghpnkmkpaaDoorBase
import Derived.LaidEql
import Derived.Stop.Asserts
import Derived.RowKitTokens
namespace Go.Proofs.YtmfpgghpnkmkpaaDoor
open Go.RowKit Go.Extern.Stop Go.Stop Go.Extern Go.Tum
theorem callTypeOf (v : Value) (w : World) : (callFunc 31 #[.iface 94 v]).run Tryd.prog w = .ok (.value (.iface 84 (.agg #[.pointer (some ⟨1, 94, none⟩)]))) w := by kernel_rfl
theorem callComparable (w : World) : (callFunc 52 #[.agg #[.pointer (some ⟨1, 94, none⟩)]]).run Tryd.prog w = .ok (.value (.bool true)) w := by kernel_rfl
theorem isMethodComparable (v : Value) (w : World) : (Go.method 232 84 v "Comparable").run Tryd.prog w = .ok (52, v) w := by kernel_rfl
theorem isComp : (Tryd.prog.info? 94).map (·.comparable) = some true := by kernel_rfl
theorem isSize : (Tryd.prog.info? 120).map (·.size) = some 1 := by kernel_rfl
theorem is_same (a : Addr) (w : World) :
    Calls Tryd.prog 29 #[.iface 94 (.pointer (some a)), .iface 94 (.pointer (some a))] w (Ret fun v w' => v = .bool true ∧ w = w') := by
  obtain ⟨i, hi, hcmp⟩ := Option.map_eq_some_iff.1 isComp
  obtain ⟨j, hj, hjs⟩ := Option.map_eq_some_iff.1 isSize
  have tT := callTypeOf
  have cT := callComparable
  have mR := isMethodComparable
  have heq := run_eql_iface_ptr_same (P := Tryd.prog) w a Tryd.underlying73 Tryd.underlying94 hi hcmp hj
  go_enter Tryd.func29, Tryd.ntmps29
  go_wp2
  refine wp_loop_rounds 1 ?_
  rw [rounds_succ]
  go_wp2
  go_ret
  exact ⟨rfl, rfl⟩
theorem is_nil (b : Addr) (w : World) :
    Calls Tryd.prog 29 #[.nilIface, .iface 94 (.pointer (some b))] w (Ret fun v w' => v = .bool false ∧ w = w') := by
  have hn := run_eql_iface_nil_left (P := Tryd.prog) w 94 (.pointer (some b)) Tryd.underlying73
  go_enter Tryd.func29, Tryd.ntmps29
  go_wp2
  go_ret
  exact ⟨rfl, rfl⟩
end Go.Proofs.YtmfpgghpnkmkpaaDoor
