/-
  NARROWER THAN 'FOR EVERY INPUT', by the rows' own cells (each row's printed sentence says how): RelayOrder: laid · RelayDrops: laid · RelayOwn: laid · RelayWhere: laid · RelayRuns: laid · RelayKeeps: laid · RelayNobody: laid.
  DERIVED. THE GIVEN ROWS OF THIS SEAT. 7 by the template 'for every input the law returns true; each argument reads behind the call as it read before'; 0 by the template 'total and deterministic' (their statements: YtcifajfmdpjfiaaDoorTotals.lean).
  GIVEN WITH THE SEED: the statements are not yours to turn. If you find one false, say at which input.
  Laid BY PROGRAM, IN A SANDBOX (cutbox-rows.mjs): the forced cells as the released guide's own fill.sh prints them over the translation 6d75913c88d43bef… (all of the seat's roots in one cut). By AI agents, Wed Nov 11 2026. No macro, syntax, notation, axiom, sorry.
-/
import Derived.Test.YtcifajfmdpjfiaaDoorChecked
import GoSem.Claim
import GoSem.ClaimJoined
import GoSem.ClaimMapViews
import Derived.JoinedTies
import Derived.KernelRfl
namespace Go.Proofs.YtcifajfmdpjfiaaDoor
/- THE CELL 'sum', in the pinned program and in every row, IS THE sha256 OF THE DUMP (.gsa) THAT YtcifajfmdpjfiaaDoorProg.lean LOADS. Nothing in Lean hashes anything: it is a label: what it is worth is what the hold of that sum in a sandbox is worth. -/
noncomputable def Tryd.pinned : Pinned := { name := "ytcifajfmdpjfiaadoor", sum := "6d75913c88d43bef0615a657fc93af329ed843eba4b53c28fe3b4f18f5bf6c61", checked := Tryd.checked }
namespace Rows
def none {H : Type} : Left H := { results := [], args := [] }

/- WHAT THE LISTED PACKAGE-LEVEL VARIABLES READ AS WHEN THE CALL BEGINS. Each datum BY PROGRAM (the guide's laid-datum.mjs) off the statement by which the dump's own 'gosem.cut.vars' lays the variable. In a bare row this is a premise. The card (YtcifajfmdpjfiaaDoorCards.lean) ties it to the program's text. -/
def laid_math_bits_deBruijn32tab {H : Type} : DataW H := .agg [.lit (.int .u8 0), .lit (.int .u8 1), .lit (.int .u8 28), .lit (.int .u8 2), .lit (.int .u8 29), .lit (.int .u8 14), .lit (.int .u8 24), .lit (.int .u8 3), .lit (.int .u8 30), .lit (.int .u8 22), .lit (.int .u8 20), .lit (.int .u8 15), .lit (.int .u8 25), .lit (.int .u8 17), .lit (.int .u8 4), .lit (.int .u8 8), .lit (.int .u8 31), .lit (.int .u8 27), .lit (.int .u8 13), .lit (.int .u8 23), .lit (.int .u8 21), .lit (.int .u8 19), .lit (.int .u8 16), .lit (.int .u8 7), .lit (.int .u8 26), .lit (.int .u8 12), .lit (.int .u8 18), .lit (.int .u8 6), .lit (.int .u8 11), .lit (.int .u8 5), .lit (.int .u8 10), .lit (.int .u8 9)]
def laid_math_bits_deBruijn64tab {H : Type} : DataW H := .agg [.lit (.int .u8 0), .lit (.int .u8 1), .lit (.int .u8 56), .lit (.int .u8 2), .lit (.int .u8 57), .lit (.int .u8 49), .lit (.int .u8 28), .lit (.int .u8 3), .lit (.int .u8 61), .lit (.int .u8 58), .lit (.int .u8 42), .lit (.int .u8 50), .lit (.int .u8 38), .lit (.int .u8 29), .lit (.int .u8 17), .lit (.int .u8 4), .lit (.int .u8 62), .lit (.int .u8 47), .lit (.int .u8 59), .lit (.int .u8 36), .lit (.int .u8 45), .lit (.int .u8 43), .lit (.int .u8 51), .lit (.int .u8 22), .lit (.int .u8 53), .lit (.int .u8 39), .lit (.int .u8 33), .lit (.int .u8 30), .lit (.int .u8 24), .lit (.int .u8 18), .lit (.int .u8 12), .lit (.int .u8 5), .lit (.int .u8 63), .lit (.int .u8 55), .lit (.int .u8 48), .lit (.int .u8 27), .lit (.int .u8 60), .lit (.int .u8 41), .lit (.int .u8 37), .lit (.int .u8 16), .lit (.int .u8 46), .lit (.int .u8 35), .lit (.int .u8 44), .lit (.int .u8 21), .lit (.int .u8 52), .lit (.int .u8 32), .lit (.int .u8 23), .lit (.int .u8 11), .lit (.int .u8 54), .lit (.int .u8 26), .lit (.int .u8 40), .lit (.int .u8 15), .lit (.int .u8 34), .lit (.int .u8 20), .lit (.int .u8 31), .lit (.int .u8 10), .lit (.int .u8 25), .lit (.int .u8 14), .lit (.int .u8 19), .lit (.int .u8 9), .lit (.int .u8 13), .lit (.int .u8 8), .lit (.int .u8 7), .lit (.int .u8 6)]
def laid_internal_strconv_uint64pow10 {H : Type} : DataW H := .agg [.lit (.int .u64 1), .lit (.int .u64 10), .lit (.int .u64 100), .lit (.int .u64 1000), .lit (.int .u64 10000), .lit (.int .u64 100000), .lit (.int .u64 1000000), .lit (.int .u64 10000000), .lit (.int .u64 100000000), .lit (.int .u64 1000000000), .lit (.int .u64 10000000000), .lit (.int .u64 100000000000), .lit (.int .u64 1000000000000), .lit (.int .u64 10000000000000), .lit (.int .u64 100000000000000), .lit (.int .u64 1000000000000000), .lit (.int .u64 10000000000000000), .lit (.int .u64 100000000000000000), .lit (.int .u64 1000000000000000000), .lit (.int .u64 10000000000000000000)]

/-- 'tumblerlaw24.RelayOrder': WHATEVER THE INPUT: true; the input reads as it did. -/
def relayOrderSpec : ChangeSpec := { name := "relayOrder", fn := fun _ => fun
  | [d1, d2, d3, d4] => { results := [.lit (.bool true)], args := [d1, d2, d3, d4] }
  | _ => none }
def relayOrderRow : OpenClaim := { program := "ytcifajfmdpjfiaadoor", sum := "6d75913c88d43bef0615a657fc93af329ed843eba4b53c28fe3b4f18f5bf6c61", func := "tumbler/tumblerlaw24.RelayOrder", spec := "relayOrder", inPlace := ["slices.overlaps[string]", "internal/bytealg.abigen_runtime_cmpstring"], unfollowed := true, recurses := true, named := ["internal/strconv.uint64pow10", "math/bits.deBruijn32tab", "math/bits.deBruijn64tab"], apart := false, laid := [("math/bits.deBruijn32tab", laid_math_bits_deBruijn32tab), ("math/bits.deBruijn64tab", laid_math_bits_deBruijn64tab), ("internal/strconv.uint64pow10", laid_internal_strconv_uint64pow10)] }
def RelayOrderSaid : Prop := relayOrderRow.holds Tryd.pinned (OpenSpec.ofChange relayOrderSpec)

/-- ITS FALSE NEIGHBOUR: 'it returns false'. Refute it at one input. -/
def relayOrderWrong : ChangeSpec := { name := "relayOrder", fn := fun _ => fun
  | [d1, d2, d3, d4] => { results := [.lit (.bool false)], args := [d1, d2, d3, d4] }
  | _ => none }
def RelayOrderWrongFalsely : Prop := relayOrderRow.holds Tryd.pinned (OpenSpec.ofChange relayOrderWrong)

/-- 'tumblerlaw24.RelayDrops': WHATEVER THE INPUT: true; the input reads as it did. -/
def relayDropsSpec : ChangeSpec := { name := "relayDrops", fn := fun _ => fun
  | [d1, d2, d3, d4] => { results := [.lit (.bool true)], args := [d1, d2, d3, d4] }
  | _ => none }
def relayDropsRow : OpenClaim := { program := "ytcifajfmdpjfiaadoor", sum := "6d75913c88d43bef0615a657fc93af329ed843eba4b53c28fe3b4f18f5bf6c61", func := "tumbler/tumblerlaw24.RelayDrops", spec := "relayDrops", inPlace := ["slices.overlaps[string]", "internal/bytealg.abigen_runtime_cmpstring"], unfollowed := true, recurses := true, named := ["internal/strconv.uint64pow10", "math/bits.deBruijn32tab", "math/bits.deBruijn64tab"], apart := false, laid := [("math/bits.deBruijn32tab", laid_math_bits_deBruijn32tab), ("math/bits.deBruijn64tab", laid_math_bits_deBruijn64tab), ("internal/strconv.uint64pow10", laid_internal_strconv_uint64pow10)] }
def RelayDropsSaid : Prop := relayDropsRow.holds Tryd.pinned (OpenSpec.ofChange relayDropsSpec)

/-- ITS FALSE NEIGHBOUR: 'it returns false'. Refute it at one input. -/
def relayDropsWrong : ChangeSpec := { name := "relayDrops", fn := fun _ => fun
  | [d1, d2, d3, d4] => { results := [.lit (.bool false)], args := [d1, d2, d3, d4] }
  | _ => none }
def RelayDropsWrongFalsely : Prop := relayDropsRow.holds Tryd.pinned (OpenSpec.ofChange relayDropsWrong)

/-- 'tumblerlaw24.RelayOwn': WHATEVER THE INPUT: true; the input reads as it did. -/
def relayOwnSpec : ChangeSpec := { name := "relayOwn", fn := fun _ => fun
  | [d1, d2] => { results := [.lit (.bool true)], args := [d1, d2] }
  | _ => none }
def relayOwnRow : OpenClaim := { program := "ytcifajfmdpjfiaadoor", sum := "6d75913c88d43bef0615a657fc93af329ed843eba4b53c28fe3b4f18f5bf6c61", func := "tumbler/tumblerlaw24.RelayOwn", spec := "relayOwn", inPlace := ["slices.overlaps[string]", "internal/bytealg.abigen_runtime_cmpstring"], unfollowed := true, recurses := true, named := ["internal/strconv.uint64pow10", "math/bits.deBruijn32tab", "math/bits.deBruijn64tab"], apart := false, laid := [("math/bits.deBruijn32tab", laid_math_bits_deBruijn32tab), ("math/bits.deBruijn64tab", laid_math_bits_deBruijn64tab), ("internal/strconv.uint64pow10", laid_internal_strconv_uint64pow10)] }
def RelayOwnSaid : Prop := relayOwnRow.holds Tryd.pinned (OpenSpec.ofChange relayOwnSpec)

/-- ITS FALSE NEIGHBOUR: 'it returns false'. Refute it at one input. -/
def relayOwnWrong : ChangeSpec := { name := "relayOwn", fn := fun _ => fun
  | [d1, d2] => { results := [.lit (.bool false)], args := [d1, d2] }
  | _ => none }
def RelayOwnWrongFalsely : Prop := relayOwnRow.holds Tryd.pinned (OpenSpec.ofChange relayOwnWrong)

/-- 'tumblerlaw24.RelayWhere': WHATEVER THE INPUT: true; the input reads as it did. -/
def relayWhereSpec : ChangeSpec := { name := "relayWhere", fn := fun _ => fun
  | [d1, d2, d3, d4] => { results := [.lit (.bool true)], args := [d1, d2, d3, d4] }
  | _ => none }
def relayWhereRow : OpenClaim := { program := "ytcifajfmdpjfiaadoor", sum := "6d75913c88d43bef0615a657fc93af329ed843eba4b53c28fe3b4f18f5bf6c61", func := "tumbler/tumblerlaw24.RelayWhere", spec := "relayWhere", inPlace := ["slices.overlaps[string]", "internal/bytealg.abigen_runtime_cmpstring"], unfollowed := true, recurses := true, named := ["internal/strconv.uint64pow10", "math/bits.deBruijn32tab", "math/bits.deBruijn64tab"], apart := false, laid := [("math/bits.deBruijn32tab", laid_math_bits_deBruijn32tab), ("math/bits.deBruijn64tab", laid_math_bits_deBruijn64tab), ("internal/strconv.uint64pow10", laid_internal_strconv_uint64pow10)] }
def RelayWhereSaid : Prop := relayWhereRow.holds Tryd.pinned (OpenSpec.ofChange relayWhereSpec)

/-- ITS FALSE NEIGHBOUR: 'it returns false'. Refute it at one input. -/
def relayWhereWrong : ChangeSpec := { name := "relayWhere", fn := fun _ => fun
  | [d1, d2, d3, d4] => { results := [.lit (.bool false)], args := [d1, d2, d3, d4] }
  | _ => none }
def RelayWhereWrongFalsely : Prop := relayWhereRow.holds Tryd.pinned (OpenSpec.ofChange relayWhereWrong)

/-- 'tumblerlaw24.RelayRuns': WHATEVER THE INPUT: true; the input reads as it did. -/
def relayRunsSpec : ChangeSpec := { name := "relayRuns", fn := fun _ => fun
  | [d1, d2] => { results := [.lit (.bool true)], args := [d1, d2] }
  | _ => none }
def relayRunsRow : OpenClaim := { program := "ytcifajfmdpjfiaadoor", sum := "6d75913c88d43bef0615a657fc93af329ed843eba4b53c28fe3b4f18f5bf6c61", func := "tumbler/tumblerlaw24.RelayRuns", spec := "relayRuns", inPlace := ["slices.overlaps[string]", "internal/bytealg.abigen_runtime_cmpstring"], unfollowed := true, recurses := true, named := ["internal/strconv.uint64pow10", "math/bits.deBruijn32tab", "math/bits.deBruijn64tab"], apart := false, laid := [("math/bits.deBruijn32tab", laid_math_bits_deBruijn32tab), ("math/bits.deBruijn64tab", laid_math_bits_deBruijn64tab), ("internal/strconv.uint64pow10", laid_internal_strconv_uint64pow10)] }
def RelayRunsSaid : Prop := relayRunsRow.holds Tryd.pinned (OpenSpec.ofChange relayRunsSpec)

/-- ITS FALSE NEIGHBOUR: 'it returns false'. Refute it at one input. -/
def relayRunsWrong : ChangeSpec := { name := "relayRuns", fn := fun _ => fun
  | [d1, d2] => { results := [.lit (.bool false)], args := [d1, d2] }
  | _ => none }
def RelayRunsWrongFalsely : Prop := relayRunsRow.holds Tryd.pinned (OpenSpec.ofChange relayRunsWrong)

/-- 'tumblerlaw24.RelayKeeps': WHATEVER THE INPUT: true; the input reads as it did. -/
def relayKeepsSpec : ChangeSpec := { name := "relayKeeps", fn := fun _ => fun
  | [d1, d2] => { results := [.lit (.bool true)], args := [d1, d2] }
  | _ => none }
def relayKeepsRow : OpenClaim := { program := "ytcifajfmdpjfiaadoor", sum := "6d75913c88d43bef0615a657fc93af329ed843eba4b53c28fe3b4f18f5bf6c61", func := "tumbler/tumblerlaw24.RelayKeeps", spec := "relayKeeps", inPlace := ["slices.overlaps[string]", "internal/bytealg.abigen_runtime_cmpstring"], unfollowed := true, recurses := true, named := ["internal/strconv.uint64pow10", "math/bits.deBruijn32tab", "math/bits.deBruijn64tab"], apart := false, laid := [("math/bits.deBruijn32tab", laid_math_bits_deBruijn32tab), ("math/bits.deBruijn64tab", laid_math_bits_deBruijn64tab), ("internal/strconv.uint64pow10", laid_internal_strconv_uint64pow10)] }
def RelayKeepsSaid : Prop := relayKeepsRow.holds Tryd.pinned (OpenSpec.ofChange relayKeepsSpec)

/-- ITS FALSE NEIGHBOUR: 'it returns false'. Refute it at one input. -/
def relayKeepsWrong : ChangeSpec := { name := "relayKeeps", fn := fun _ => fun
  | [d1, d2] => { results := [.lit (.bool false)], args := [d1, d2] }
  | _ => none }
def RelayKeepsWrongFalsely : Prop := relayKeepsRow.holds Tryd.pinned (OpenSpec.ofChange relayKeepsWrong)

/-- 'tumblerlaw24.RelayNobody': WHATEVER THE INPUT: true; the input reads as it did. -/
def relayNobodySpec : ChangeSpec := { name := "relayNobody", fn := fun _ => fun
  | [d] => { results := [.lit (.bool true)], args := [d] }
  | _ => none }
def relayNobodyRow : OpenClaim := { program := "ytcifajfmdpjfiaadoor", sum := "6d75913c88d43bef0615a657fc93af329ed843eba4b53c28fe3b4f18f5bf6c61", func := "tumbler/tumblerlaw24.RelayNobody", spec := "relayNobody", inPlace := ["slices.overlaps[string]", "internal/bytealg.abigen_runtime_cmpstring"], unfollowed := true, recurses := true, named := ["internal/strconv.uint64pow10", "math/bits.deBruijn32tab", "math/bits.deBruijn64tab"], apart := false, laid := [("math/bits.deBruijn32tab", laid_math_bits_deBruijn32tab), ("math/bits.deBruijn64tab", laid_math_bits_deBruijn64tab), ("internal/strconv.uint64pow10", laid_internal_strconv_uint64pow10)] }
def RelayNobodySaid : Prop := relayNobodyRow.holds Tryd.pinned (OpenSpec.ofChange relayNobodySpec)

/-- ITS FALSE NEIGHBOUR: 'it returns false'. Refute it at one input. -/
def relayNobodyWrong : ChangeSpec := { name := "relayNobody", fn := fun _ => fun
  | [d] => { results := [.lit (.bool false)], args := [d] }
  | _ => none }
def RelayNobodyWrongFalsely : Prop := relayNobodyRow.holds Tryd.pinned (OpenSpec.ofChange relayNobodyWrong)

/- THE SECOND FORM. 'bulk': how many values and letters a reading holds, each counted each time it is reached (what is shared counts as often as it is met; a slice's spare places count too). A statement '..UptoSaid' is the law's where the arguments, and the package variables that the reading takes, are together of bulk at most 1048576: NARROWER than '..Said'. Prove '..Said' where nothing that the law and all that it calls make is longer than what came in: it says more and counts as full. Else prove '..UptoSaid'. A law counts once. -/
mutual
def uptoBulk {H : Type} : DataW H → Nat
  | .lit (.string bytes) => bytes.length + 1
  | .lit _ => 1
  | .nil => 1
  | .ptr d => uptoBulk d + 1
  | .slice elems spare => uptoBulkAll elems + uptoBulkAll spare + 1
  | .agg parts => uptoBulkAll parts + 1
  | .iface _ d => uptoBulk d + 1
  | .map entries => uptoBulkEntries entries + 1
  | .held _ => 1
def uptoBulkAll {H : Type} : List (DataW H) → Nat
  | [] => 0
  | d :: r => uptoBulk d + uptoBulkAll r
def uptoBulkEntries {H : Type} : List (Lit × DataW H) → Nat
  | [] => 0
  | x :: r => uptoBulkEntry x + uptoBulkEntries r
def uptoBulkEntry {H : Type} : Lit × DataW H → Nat
  | (.string bytes, d) => bytes.length + uptoBulk d + 1
  | (_, d) => uptoBulk d + 1
 end
def uptoSmall : (H : Type) → List (DataW H) → Bool := fun _ ds => decide (uptoBulkAll ds ≤ 1048576)
def OpenSpec.upto (s : _root_.Go.ChangeSpec) : _root_.Go.OpenSpec := { _root_.Go.OpenSpec.ofChange s with cond := some uptoSmall }

/-- 'tumblerlaw24.RelayOrder', WHERE WHAT IT READS IS OF BULK AT MOST 1048576: true; the input reads as it did. -/
def relayOrderUptoRow : OpenClaim := { program := "ytcifajfmdpjfiaadoor", sum := "6d75913c88d43bef0615a657fc93af329ed843eba4b53c28fe3b4f18f5bf6c61", func := "tumbler/tumblerlaw24.RelayOrder", spec := "relayOrder", inPlace := ["slices.overlaps[string]", "internal/bytealg.abigen_runtime_cmpstring"], unfollowed := true, recurses := true, named := ["internal/strconv.uint64pow10", "math/bits.deBruijn32tab", "math/bits.deBruijn64tab"], apart := false, laid := [("math/bits.deBruijn32tab", laid_math_bits_deBruijn32tab), ("math/bits.deBruijn64tab", laid_math_bits_deBruijn64tab), ("internal/strconv.uint64pow10", laid_internal_strconv_uint64pow10)], narrowed := true }
def RelayOrderUptoSaid : Prop := relayOrderUptoRow.holds Tryd.pinned (OpenSpec.upto relayOrderSpec)

/-- 'tumblerlaw24.RelayDrops', WHERE WHAT IT READS IS OF BULK AT MOST 1048576: true; the input reads as it did. -/
def relayDropsUptoRow : OpenClaim := { program := "ytcifajfmdpjfiaadoor", sum := "6d75913c88d43bef0615a657fc93af329ed843eba4b53c28fe3b4f18f5bf6c61", func := "tumbler/tumblerlaw24.RelayDrops", spec := "relayDrops", inPlace := ["slices.overlaps[string]", "internal/bytealg.abigen_runtime_cmpstring"], unfollowed := true, recurses := true, named := ["internal/strconv.uint64pow10", "math/bits.deBruijn32tab", "math/bits.deBruijn64tab"], apart := false, laid := [("math/bits.deBruijn32tab", laid_math_bits_deBruijn32tab), ("math/bits.deBruijn64tab", laid_math_bits_deBruijn64tab), ("internal/strconv.uint64pow10", laid_internal_strconv_uint64pow10)], narrowed := true }
def RelayDropsUptoSaid : Prop := relayDropsUptoRow.holds Tryd.pinned (OpenSpec.upto relayDropsSpec)

/-- 'tumblerlaw24.RelayOwn', WHERE WHAT IT READS IS OF BULK AT MOST 1048576: true; the input reads as it did. -/
def relayOwnUptoRow : OpenClaim := { program := "ytcifajfmdpjfiaadoor", sum := "6d75913c88d43bef0615a657fc93af329ed843eba4b53c28fe3b4f18f5bf6c61", func := "tumbler/tumblerlaw24.RelayOwn", spec := "relayOwn", inPlace := ["slices.overlaps[string]", "internal/bytealg.abigen_runtime_cmpstring"], unfollowed := true, recurses := true, named := ["internal/strconv.uint64pow10", "math/bits.deBruijn32tab", "math/bits.deBruijn64tab"], apart := false, laid := [("math/bits.deBruijn32tab", laid_math_bits_deBruijn32tab), ("math/bits.deBruijn64tab", laid_math_bits_deBruijn64tab), ("internal/strconv.uint64pow10", laid_internal_strconv_uint64pow10)], narrowed := true }
def RelayOwnUptoSaid : Prop := relayOwnUptoRow.holds Tryd.pinned (OpenSpec.upto relayOwnSpec)

/-- 'tumblerlaw24.RelayWhere', WHERE WHAT IT READS IS OF BULK AT MOST 1048576: true; the input reads as it did. -/
def relayWhereUptoRow : OpenClaim := { program := "ytcifajfmdpjfiaadoor", sum := "6d75913c88d43bef0615a657fc93af329ed843eba4b53c28fe3b4f18f5bf6c61", func := "tumbler/tumblerlaw24.RelayWhere", spec := "relayWhere", inPlace := ["slices.overlaps[string]", "internal/bytealg.abigen_runtime_cmpstring"], unfollowed := true, recurses := true, named := ["internal/strconv.uint64pow10", "math/bits.deBruijn32tab", "math/bits.deBruijn64tab"], apart := false, laid := [("math/bits.deBruijn32tab", laid_math_bits_deBruijn32tab), ("math/bits.deBruijn64tab", laid_math_bits_deBruijn64tab), ("internal/strconv.uint64pow10", laid_internal_strconv_uint64pow10)], narrowed := true }
def RelayWhereUptoSaid : Prop := relayWhereUptoRow.holds Tryd.pinned (OpenSpec.upto relayWhereSpec)

/-- 'tumblerlaw24.RelayRuns', WHERE WHAT IT READS IS OF BULK AT MOST 1048576: true; the input reads as it did. -/
def relayRunsUptoRow : OpenClaim := { program := "ytcifajfmdpjfiaadoor", sum := "6d75913c88d43bef0615a657fc93af329ed843eba4b53c28fe3b4f18f5bf6c61", func := "tumbler/tumblerlaw24.RelayRuns", spec := "relayRuns", inPlace := ["slices.overlaps[string]", "internal/bytealg.abigen_runtime_cmpstring"], unfollowed := true, recurses := true, named := ["internal/strconv.uint64pow10", "math/bits.deBruijn32tab", "math/bits.deBruijn64tab"], apart := false, laid := [("math/bits.deBruijn32tab", laid_math_bits_deBruijn32tab), ("math/bits.deBruijn64tab", laid_math_bits_deBruijn64tab), ("internal/strconv.uint64pow10", laid_internal_strconv_uint64pow10)], narrowed := true }
def RelayRunsUptoSaid : Prop := relayRunsUptoRow.holds Tryd.pinned (OpenSpec.upto relayRunsSpec)

/-- 'tumblerlaw24.RelayKeeps', WHERE WHAT IT READS IS OF BULK AT MOST 1048576: true; the input reads as it did. -/
def relayKeepsUptoRow : OpenClaim := { program := "ytcifajfmdpjfiaadoor", sum := "6d75913c88d43bef0615a657fc93af329ed843eba4b53c28fe3b4f18f5bf6c61", func := "tumbler/tumblerlaw24.RelayKeeps", spec := "relayKeeps", inPlace := ["slices.overlaps[string]", "internal/bytealg.abigen_runtime_cmpstring"], unfollowed := true, recurses := true, named := ["internal/strconv.uint64pow10", "math/bits.deBruijn32tab", "math/bits.deBruijn64tab"], apart := false, laid := [("math/bits.deBruijn32tab", laid_math_bits_deBruijn32tab), ("math/bits.deBruijn64tab", laid_math_bits_deBruijn64tab), ("internal/strconv.uint64pow10", laid_internal_strconv_uint64pow10)], narrowed := true }
def RelayKeepsUptoSaid : Prop := relayKeepsUptoRow.holds Tryd.pinned (OpenSpec.upto relayKeepsSpec)

/-- 'tumblerlaw24.RelayNobody', WHERE WHAT IT READS IS OF BULK AT MOST 1048576: true; the input reads as it did. -/
def relayNobodyUptoRow : OpenClaim := { program := "ytcifajfmdpjfiaadoor", sum := "6d75913c88d43bef0615a657fc93af329ed843eba4b53c28fe3b4f18f5bf6c61", func := "tumbler/tumblerlaw24.RelayNobody", spec := "relayNobody", inPlace := ["slices.overlaps[string]", "internal/bytealg.abigen_runtime_cmpstring"], unfollowed := true, recurses := true, named := ["internal/strconv.uint64pow10", "math/bits.deBruijn32tab", "math/bits.deBruijn64tab"], apart := false, laid := [("math/bits.deBruijn32tab", laid_math_bits_deBruijn32tab), ("math/bits.deBruijn64tab", laid_math_bits_deBruijn64tab), ("internal/strconv.uint64pow10", laid_internal_strconv_uint64pow10)], narrowed := true }
def RelayNobodyUptoSaid : Prop := relayNobodyUptoRow.holds Tryd.pinned (OpenSpec.upto relayNobodySpec)

end Rows
end Go.Proofs.YtcifajfmdpjfiaaDoor
