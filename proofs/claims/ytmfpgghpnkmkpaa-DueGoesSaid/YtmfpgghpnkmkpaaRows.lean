/-
  No cell of these rows narrows 'for every input' (looked for: loops, veiled, ifaces, maps, wideKeys, modest, calm, conditions, laid).
  DERIVED. THE GIVEN ROWS OF THIS SEAT. 5 by the template 'for every input the law returns true; each argument reads behind the call as it read before'; 0 by the template 'total and deterministic' (their statements: YtmfpgghpnkmkpaaTotals.lean).
  GIVEN WITH THE SEED: the statements are not yours to turn. If you find one false, say at which input.
  Laid BY PROGRAM, IN A SANDBOX (cutbox-rows.mjs): the forced cells as the released guide's own fill.sh prints them over the translation aece3b2d24632e55… (all of the seat's roots in one cut). By AI agents, Wed Nov 11 2026. No macro, syntax, notation, axiom, sorry.
-/
import Derived.Test.YtmfpgghpnkmkpaaChecked
import GoSem.Claim
import GoSem.ClaimJoined
import GoSem.ClaimMapViews
import Derived.JoinedTies
import Derived.KernelRfl
namespace Go.Proofs.Ytmfpgghpnkmkpaa
/- THE CELL 'sum', in the pinned program and in every row, IS THE sha256 OF THE DUMP (.gsa) THAT YtmfpgghpnkmkpaaProg.lean LOADS. Nothing in Lean hashes anything: it is a label: what it is worth is what the hold of that sum in a sandbox is worth. -/
noncomputable def Try.pinned : Pinned := { name := "ytmfpgghpnkmkpaa", sum := "aece3b2d24632e55432493a0111bfb85d60befdce038a0ddb2191d94329b575b", checked := Try.checked }
namespace Rows
def none {H : Type} : Left H := { results := [], args := [] }

/-- 'tumblerlaw07.DueSorts': WHATEVER THE INPUT: true; the input reads as it did. -/
def dueSortsSpec : ChangeSpec := { name := "dueSorts", fn := fun _ => fun
  | [d1, d2] => { results := [.lit (.bool true)], args := [d1, d2] }
  | _ => none }
def dueSortsRow : OpenClaim := { program := "ytmfpgghpnkmkpaa", sum := "aece3b2d24632e55432493a0111bfb85d60befdce038a0ddb2191d94329b575b", func := "tumbler/tumblerlaw07.DueSorts", spec := "dueSorts", unfollowed := true, recurses := true, apart := false }
def DueSortsSaid : Prop := dueSortsRow.holds Try.pinned (OpenSpec.ofChange dueSortsSpec)

/-- ITS FALSE NEIGHBOUR: 'it returns false'. Refute it at one input. -/
def dueSortsWrong : ChangeSpec := { name := "dueSorts", fn := fun _ => fun
  | [d1, d2] => { results := [.lit (.bool false)], args := [d1, d2] }
  | _ => none }
def DueSortsWrongFalsely : Prop := dueSortsRow.holds Try.pinned (OpenSpec.ofChange dueSortsWrong)

/-- 'tumblerlaw07.DueOwn': WHATEVER THE INPUT: true; the input reads as it did. -/
def dueOwnSpec : ChangeSpec := { name := "dueOwn", fn := fun _ => fun
  | [d1, d2] => { results := [.lit (.bool true)], args := [d1, d2] }
  | _ => none }
def dueOwnRow : OpenClaim := { program := "ytmfpgghpnkmkpaa", sum := "aece3b2d24632e55432493a0111bfb85d60befdce038a0ddb2191d94329b575b", func := "tumbler/tumblerlaw07.DueOwn", spec := "dueOwn", inPlace := ["internal/bytealg.abigen_runtime_cmpstring"], unfollowed := true, recurses := true, apart := false }
def DueOwnSaid : Prop := dueOwnRow.holds Try.pinned (OpenSpec.ofChange dueOwnSpec)

/-- ITS FALSE NEIGHBOUR: 'it returns false'. Refute it at one input. -/
def dueOwnWrong : ChangeSpec := { name := "dueOwn", fn := fun _ => fun
  | [d1, d2] => { results := [.lit (.bool false)], args := [d1, d2] }
  | _ => none }
def DueOwnWrongFalsely : Prop := dueOwnRow.holds Try.pinned (OpenSpec.ofChange dueOwnWrong)

/-- 'tumblerlaw07.DueGoes': WHATEVER THE INPUT: true; the input reads as it did. -/
def dueGoesSpec : ChangeSpec := { name := "dueGoes", fn := fun _ => fun
  | [d1, d2, d3, d4] => { results := [.lit (.bool true)], args := [d1, d2, d3, d4] }
  | _ => none }
def dueGoesRow : OpenClaim := { program := "ytmfpgghpnkmkpaa", sum := "aece3b2d24632e55432493a0111bfb85d60befdce038a0ddb2191d94329b575b", func := "tumbler/tumblerlaw07.DueGoes", spec := "dueGoes", inPlace := ["internal/bytealg.abigen_runtime_cmpstring"], unfollowed := true, recurses := true, apart := false }
def DueGoesSaid : Prop := dueGoesRow.holds Try.pinned (OpenSpec.ofChange dueGoesSpec)

/-- ITS FALSE NEIGHBOUR: 'it returns false'. Refute it at one input. -/
def dueGoesWrong : ChangeSpec := { name := "dueGoes", fn := fun _ => fun
  | [d1, d2, d3, d4] => { results := [.lit (.bool false)], args := [d1, d2, d3, d4] }
  | _ => none }
def DueGoesWrongFalsely : Prop := dueGoesRow.holds Try.pinned (OpenSpec.ofChange dueGoesWrong)

/-- 'tumblerlaw07.DueKeeps': WHATEVER THE INPUT: true; the input reads as it did. -/
def dueKeepsSpec : ChangeSpec := { name := "dueKeeps", fn := fun _ => fun
  | [d1, d2] => { results := [.lit (.bool true)], args := [d1, d2] }
  | _ => none }
def dueKeepsRow : OpenClaim := { program := "ytmfpgghpnkmkpaa", sum := "aece3b2d24632e55432493a0111bfb85d60befdce038a0ddb2191d94329b575b", func := "tumbler/tumblerlaw07.DueKeeps", spec := "dueKeeps", inPlace := ["internal/bytealg.abigen_runtime_cmpstring"], unfollowed := true, recurses := true, apart := false }
def DueKeepsSaid : Prop := dueKeepsRow.holds Try.pinned (OpenSpec.ofChange dueKeepsSpec)

/-- ITS FALSE NEIGHBOUR: 'it returns false'. Refute it at one input. -/
def dueKeepsWrong : ChangeSpec := { name := "dueKeeps", fn := fun _ => fun
  | [d1, d2] => { results := [.lit (.bool false)], args := [d1, d2] }
  | _ => none }
def DueKeepsWrongFalsely : Prop := dueKeepsRow.holds Try.pinned (OpenSpec.ofChange dueKeepsWrong)

/-- 'tumblerlaw07.DueNobody': WHATEVER THE INPUT: true; the input reads as it did. -/
def dueNobodySpec : ChangeSpec := { name := "dueNobody", fn := fun _ => fun
  | [d1, d2] => { results := [.lit (.bool true)], args := [d1, d2] }
  | _ => none }
def dueNobodyRow : OpenClaim := { program := "ytmfpgghpnkmkpaa", sum := "aece3b2d24632e55432493a0111bfb85d60befdce038a0ddb2191d94329b575b", func := "tumbler/tumblerlaw07.DueNobody", spec := "dueNobody", inPlace := ["internal/bytealg.abigen_runtime_cmpstring"], unfollowed := true, recurses := true, apart := false }
def DueNobodySaid : Prop := dueNobodyRow.holds Try.pinned (OpenSpec.ofChange dueNobodySpec)

/-- ITS FALSE NEIGHBOUR: 'it returns false'. Refute it at one input. -/
def dueNobodyWrong : ChangeSpec := { name := "dueNobody", fn := fun _ => fun
  | [d1, d2] => { results := [.lit (.bool false)], args := [d1, d2] }
  | _ => none }
def DueNobodyWrongFalsely : Prop := dueNobodyRow.holds Try.pinned (OpenSpec.ofChange dueNobodyWrong)

/- THE SECOND FORM. 'bulk': how many values and letters a reading holds, each counted each time it is reached (what is shared counts as often as it is met; a slice's spare places count too). A statement '..UptoSaid' is the law's where the arguments, and the package variables that the reading takes, are together of bulk at most 1048576: NARROWER than '..Said'. Prove '..Said' where nothing that the law and all that it calls make is longer than what came in: it says more and counts as full. Else prove '..UptoSaid'. A law counts once. -/
mutual
def uptoBulk {H : Type} : DataW H → Nat
  | .lit (.string bytes) => bytes.length + 1
  | .lit _ => 1
  | .nil => 1
  | .ptr d => uptoBulk d + 1
  | .slice elems spare => uptoBulkAll elems + uptoBulkAll spare + 1
  | .agg parts => uptoBulkAll parts + 1
  | .iface _ d => uptoBulk d + 1
  | .map entries => uptoBulkEntries entries + 1
  | .held _ => 1
def uptoBulkAll {H : Type} : List (DataW H) → Nat
  | [] => 0
  | d :: r => uptoBulk d + uptoBulkAll r
def uptoBulkEntries {H : Type} : List (Lit × DataW H) → Nat
  | [] => 0
  | x :: r => uptoBulkEntry x + uptoBulkEntries r
def uptoBulkEntry {H : Type} : Lit × DataW H → Nat
  | (.string bytes, d) => bytes.length + uptoBulk d + 1
  | (_, d) => uptoBulk d + 1
 end
def uptoSmall : (H : Type) → List (DataW H) → Bool := fun _ ds => decide (uptoBulkAll ds ≤ 1048576)
def OpenSpec.upto (s : _root_.Go.ChangeSpec) : _root_.Go.OpenSpec := { _root_.Go.OpenSpec.ofChange s with cond := some uptoSmall }

/-- 'tumblerlaw07.DueSorts', WHERE WHAT IT READS IS OF BULK AT MOST 1048576: true; the input reads as it did. -/
def dueSortsUptoRow : OpenClaim := { program := "ytmfpgghpnkmkpaa", sum := "aece3b2d24632e55432493a0111bfb85d60befdce038a0ddb2191d94329b575b", func := "tumbler/tumblerlaw07.DueSorts", spec := "dueSorts", unfollowed := true, recurses := true, apart := false, narrowed := true }
def DueSortsUptoSaid : Prop := dueSortsUptoRow.holds Try.pinned (OpenSpec.upto dueSortsSpec)

/-- 'tumblerlaw07.DueOwn', WHERE WHAT IT READS IS OF BULK AT MOST 1048576: true; the input reads as it did. -/
def dueOwnUptoRow : OpenClaim := { program := "ytmfpgghpnkmkpaa", sum := "aece3b2d24632e55432493a0111bfb85d60befdce038a0ddb2191d94329b575b", func := "tumbler/tumblerlaw07.DueOwn", spec := "dueOwn", inPlace := ["internal/bytealg.abigen_runtime_cmpstring"], unfollowed := true, recurses := true, apart := false, narrowed := true }
def DueOwnUptoSaid : Prop := dueOwnUptoRow.holds Try.pinned (OpenSpec.upto dueOwnSpec)

/-- 'tumblerlaw07.DueGoes', WHERE WHAT IT READS IS OF BULK AT MOST 1048576: true; the input reads as it did. -/
def dueGoesUptoRow : OpenClaim := { program := "ytmfpgghpnkmkpaa", sum := "aece3b2d24632e55432493a0111bfb85d60befdce038a0ddb2191d94329b575b", func := "tumbler/tumblerlaw07.DueGoes", spec := "dueGoes", inPlace := ["internal/bytealg.abigen_runtime_cmpstring"], unfollowed := true, recurses := true, apart := false, narrowed := true }
def DueGoesUptoSaid : Prop := dueGoesUptoRow.holds Try.pinned (OpenSpec.upto dueGoesSpec)

/-- 'tumblerlaw07.DueKeeps', WHERE WHAT IT READS IS OF BULK AT MOST 1048576: true; the input reads as it did. -/
def dueKeepsUptoRow : OpenClaim := { program := "ytmfpgghpnkmkpaa", sum := "aece3b2d24632e55432493a0111bfb85d60befdce038a0ddb2191d94329b575b", func := "tumbler/tumblerlaw07.DueKeeps", spec := "dueKeeps", inPlace := ["internal/bytealg.abigen_runtime_cmpstring"], unfollowed := true, recurses := true, apart := false, narrowed := true }
def DueKeepsUptoSaid : Prop := dueKeepsUptoRow.holds Try.pinned (OpenSpec.upto dueKeepsSpec)

/-- 'tumblerlaw07.DueNobody', WHERE WHAT IT READS IS OF BULK AT MOST 1048576: true; the input reads as it did. -/
def dueNobodyUptoRow : OpenClaim := { program := "ytmfpgghpnkmkpaa", sum := "aece3b2d24632e55432493a0111bfb85d60befdce038a0ddb2191d94329b575b", func := "tumbler/tumblerlaw07.DueNobody", spec := "dueNobody", inPlace := ["internal/bytealg.abigen_runtime_cmpstring"], unfollowed := true, recurses := true, apart := false, narrowed := true }
def DueNobodyUptoSaid : Prop := dueNobodyUptoRow.holds Try.pinned (OpenSpec.upto dueNobodySpec)

end Rows
end Go.Proofs.Ytmfpgghpnkmkpaa
