/-
  NARROWER THAN 'FOR EVERY INPUT', by the rows' own cells (each row's printed sentence says how): SinkPlays: laid · SinkNils: laid · SinkFrames: laid · SinkNamed: laid · SinkPieces: laid · SinkOrders: laid · SinkOwn: laid.
  DERIVED. THE GIVEN ROWS OF THIS SEAT. 7 by the template 'for every input the law returns true; each argument reads behind the call as it read before'; 0 by the template 'total and deterministic' (their statements: YtmfpgghpnkmkpaaDoorTotals.lean).
  GIVEN WITH THE SEED: the statements are not yours to turn. If you find one false, say at which input.
  Laid BY PROGRAM, IN A SANDBOX (cutbox-rows.mjs): the forced cells as the released guide's own fill.sh prints them over the translation d6464097e670283a… (all of the seat's roots in one cut). By AI agents, Wed Nov 11 2026. No macro, syntax, notation, axiom, sorry.
-/
import Derived.Test.YtmfpgghpnkmkpaaDoorChecked
import GoSem.Claim
import GoSem.ClaimJoined
import GoSem.ClaimMapViews
import Derived.JoinedTies
import Derived.KernelRfl
namespace Go.Proofs.YtmfpgghpnkmkpaaDoor
/- THE CELL 'sum', in the pinned program and in every row, IS THE sha256 OF THE DUMP (.gsa) THAT YtmfpgghpnkmkpaaDoorProg.lean LOADS. Nothing in Lean hashes anything: it is a label: what it is worth is what the hold of that sum in a sandbox is worth. -/
noncomputable def Tryd.pinned : Pinned := { name := "ytmfpgghpnkmkpaadoor", sum := "d6464097e670283a7d8acce787052ef5f42d9cd74b489405a6813af7fd9b13bc", checked := Tryd.checked }
namespace Rows
def none {H : Type} : Left H := { results := [], args := [] }

/- WHAT THE LISTED PACKAGE-LEVEL VARIABLES READ AS WHEN THE CALL BEGINS. Each datum BY PROGRAM (the guide's laid-datum.mjs) off the statement by which the dump's own 'gosem.cut.vars' lays the variable. In a bare row this is a premise. The card (YtmfpgghpnkmkpaaDoorCards.lean) ties it to the program's text. -/
def laid_tumbler_sink_errFailed {H : Type} : DataW H := .iface "*errors.errorString" (.ptr (.agg [.lit (.string [99, 111, 110, 110, 101, 99, 116, 105, 111, 110, 32, 102, 97, 105, 108, 101, 100])]))

/-- 'tumblerlaw18.SinkPlays': WHATEVER THE INPUT: true; the input reads as it did. -/
def sinkPlaysSpec : ChangeSpec := { name := "sinkPlays", fn := fun _ => fun
  | [d1, d2] => { results := [.lit (.bool true)], args := [d1, d2] }
  | _ => none }
def sinkPlaysRow : OpenClaim := { program := "ytmfpgghpnkmkpaadoor", sum := "d6464097e670283a7d8acce787052ef5f42d9cd74b489405a6813af7fd9b13bc", func := "tumbler/tumblerlaw18.SinkPlays", spec := "sinkPlays", inPlace := ["internal/reflectlite.TypeOf"], unfollowed := true, recurses := true, named := ["tumbler/sink.errFailed"], apart := false, laid := [("tumbler/sink.errFailed", laid_tumbler_sink_errFailed)] }
def SinkPlaysSaid : Prop := sinkPlaysRow.holds Tryd.pinned (OpenSpec.ofChange sinkPlaysSpec)

/-- ITS FALSE NEIGHBOUR: 'it returns false'. Refute it at one input. -/
def sinkPlaysWrong : ChangeSpec := { name := "sinkPlays", fn := fun _ => fun
  | [d1, d2] => { results := [.lit (.bool false)], args := [d1, d2] }
  | _ => none }
def SinkPlaysWrongFalsely : Prop := sinkPlaysRow.holds Tryd.pinned (OpenSpec.ofChange sinkPlaysWrong)

/-- 'tumblerlaw18.SinkNils': WHATEVER THE INPUT: true; the input reads as it did. -/
def sinkNilsSpec : ChangeSpec := { name := "sinkNils", fn := fun _ => fun
  | [d1, d2] => { results := [.lit (.bool true)], args := [d1, d2] }
  | _ => none }
def sinkNilsRow : OpenClaim := { program := "ytmfpgghpnkmkpaadoor", sum := "d6464097e670283a7d8acce787052ef5f42d9cd74b489405a6813af7fd9b13bc", func := "tumbler/tumblerlaw18.SinkNils", spec := "sinkNils", inPlace := ["internal/reflectlite.TypeOf"], unfollowed := true, recurses := true, named := ["tumbler/sink.errFailed"], apart := false, laid := [("tumbler/sink.errFailed", laid_tumbler_sink_errFailed)] }
def SinkNilsSaid : Prop := sinkNilsRow.holds Tryd.pinned (OpenSpec.ofChange sinkNilsSpec)

/-- ITS FALSE NEIGHBOUR: 'it returns false'. Refute it at one input. -/
def sinkNilsWrong : ChangeSpec := { name := "sinkNils", fn := fun _ => fun
  | [d1, d2] => { results := [.lit (.bool false)], args := [d1, d2] }
  | _ => none }
def SinkNilsWrongFalsely : Prop := sinkNilsRow.holds Tryd.pinned (OpenSpec.ofChange sinkNilsWrong)

/-- 'tumblerlaw18.SinkFrames': WHATEVER THE INPUT: true; the input reads as it did. -/
def sinkFramesSpec : ChangeSpec := { name := "sinkFrames", fn := fun _ => fun
  | [d1, d2] => { results := [.lit (.bool true)], args := [d1, d2] }
  | _ => none }
def sinkFramesRow : OpenClaim := { program := "ytmfpgghpnkmkpaadoor", sum := "d6464097e670283a7d8acce787052ef5f42d9cd74b489405a6813af7fd9b13bc", func := "tumbler/tumblerlaw18.SinkFrames", spec := "sinkFrames", inPlace := ["internal/reflectlite.TypeOf"], unfollowed := true, recurses := true, named := ["tumbler/sink.errFailed"], apart := false, laid := [("tumbler/sink.errFailed", laid_tumbler_sink_errFailed)] }
def SinkFramesSaid : Prop := sinkFramesRow.holds Tryd.pinned (OpenSpec.ofChange sinkFramesSpec)

/-- ITS FALSE NEIGHBOUR: 'it returns false'. Refute it at one input. -/
def sinkFramesWrong : ChangeSpec := { name := "sinkFrames", fn := fun _ => fun
  | [d1, d2] => { results := [.lit (.bool false)], args := [d1, d2] }
  | _ => none }
def SinkFramesWrongFalsely : Prop := sinkFramesRow.holds Tryd.pinned (OpenSpec.ofChange sinkFramesWrong)

/-- 'tumblerlaw18.SinkNamed': WHATEVER THE INPUT: true; the input reads as it did. -/
def sinkNamedSpec : ChangeSpec := { name := "sinkNamed", fn := fun _ => fun
  | [d1, d2] => { results := [.lit (.bool true)], args := [d1, d2] }
  | _ => none }
def sinkNamedRow : OpenClaim := { program := "ytmfpgghpnkmkpaadoor", sum := "d6464097e670283a7d8acce787052ef5f42d9cd74b489405a6813af7fd9b13bc", func := "tumbler/tumblerlaw18.SinkNamed", spec := "sinkNamed", inPlace := ["internal/reflectlite.TypeOf"], unfollowed := true, recurses := true, named := ["tumbler/sink.errFailed"], apart := false, laid := [("tumbler/sink.errFailed", laid_tumbler_sink_errFailed)] }
def SinkNamedSaid : Prop := sinkNamedRow.holds Tryd.pinned (OpenSpec.ofChange sinkNamedSpec)

/-- ITS FALSE NEIGHBOUR: 'it returns false'. Refute it at one input. -/
def sinkNamedWrong : ChangeSpec := { name := "sinkNamed", fn := fun _ => fun
  | [d1, d2] => { results := [.lit (.bool false)], args := [d1, d2] }
  | _ => none }
def SinkNamedWrongFalsely : Prop := sinkNamedRow.holds Tryd.pinned (OpenSpec.ofChange sinkNamedWrong)

/-- 'tumblerlaw18.SinkPieces': WHATEVER THE INPUT: true; the input reads as it did. -/
def sinkPiecesSpec : ChangeSpec := { name := "sinkPieces", fn := fun _ => fun
  | [d1, d2] => { results := [.lit (.bool true)], args := [d1, d2] }
  | _ => none }
def sinkPiecesRow : OpenClaim := { program := "ytmfpgghpnkmkpaadoor", sum := "d6464097e670283a7d8acce787052ef5f42d9cd74b489405a6813af7fd9b13bc", func := "tumbler/tumblerlaw18.SinkPieces", spec := "sinkPieces", inPlace := ["internal/reflectlite.TypeOf"], unfollowed := true, recurses := true, named := ["tumbler/sink.errFailed"], apart := false, laid := [("tumbler/sink.errFailed", laid_tumbler_sink_errFailed)] }
def SinkPiecesSaid : Prop := sinkPiecesRow.holds Tryd.pinned (OpenSpec.ofChange sinkPiecesSpec)

/-- ITS FALSE NEIGHBOUR: 'it returns false'. Refute it at one input. -/
def sinkPiecesWrong : ChangeSpec := { name := "sinkPieces", fn := fun _ => fun
  | [d1, d2] => { results := [.lit (.bool false)], args := [d1, d2] }
  | _ => none }
def SinkPiecesWrongFalsely : Prop := sinkPiecesRow.holds Tryd.pinned (OpenSpec.ofChange sinkPiecesWrong)

/-- 'tumblerlaw18.SinkOrders': WHATEVER THE INPUT: true; the input reads as it did. -/
def sinkOrdersSpec : ChangeSpec := { name := "sinkOrders", fn := fun _ => fun
  | [d1, d2, d3] => { results := [.lit (.bool true)], args := [d1, d2, d3] }
  | _ => none }
def sinkOrdersRow : OpenClaim := { program := "ytmfpgghpnkmkpaadoor", sum := "d6464097e670283a7d8acce787052ef5f42d9cd74b489405a6813af7fd9b13bc", func := "tumbler/tumblerlaw18.SinkOrders", spec := "sinkOrders", inPlace := ["internal/reflectlite.TypeOf"], unfollowed := true, recurses := true, named := ["tumbler/sink.errFailed"], apart := false, laid := [("tumbler/sink.errFailed", laid_tumbler_sink_errFailed)] }
def SinkOrdersSaid : Prop := sinkOrdersRow.holds Tryd.pinned (OpenSpec.ofChange sinkOrdersSpec)

/-- ITS FALSE NEIGHBOUR: 'it returns false'. Refute it at one input. -/
def sinkOrdersWrong : ChangeSpec := { name := "sinkOrders", fn := fun _ => fun
  | [d1, d2, d3] => { results := [.lit (.bool false)], args := [d1, d2, d3] }
  | _ => none }
def SinkOrdersWrongFalsely : Prop := sinkOrdersRow.holds Tryd.pinned (OpenSpec.ofChange sinkOrdersWrong)

/-- 'tumblerlaw18.SinkOwn': WHATEVER THE INPUT: true; the input reads as it did. -/
def sinkOwnSpec : ChangeSpec := { name := "sinkOwn", fn := fun _ => fun
  | [d1, d2] => { results := [.lit (.bool true)], args := [d1, d2] }
  | _ => none }
def sinkOwnRow : OpenClaim := { program := "ytmfpgghpnkmkpaadoor", sum := "d6464097e670283a7d8acce787052ef5f42d9cd74b489405a6813af7fd9b13bc", func := "tumbler/tumblerlaw18.SinkOwn", spec := "sinkOwn", inPlace := ["internal/reflectlite.TypeOf"], unfollowed := true, recurses := true, named := ["tumbler/sink.errFailed"], apart := false, laid := [("tumbler/sink.errFailed", laid_tumbler_sink_errFailed)] }
def SinkOwnSaid : Prop := sinkOwnRow.holds Tryd.pinned (OpenSpec.ofChange sinkOwnSpec)

/-- ITS FALSE NEIGHBOUR: 'it returns false'. Refute it at one input. -/
def sinkOwnWrong : ChangeSpec := { name := "sinkOwn", fn := fun _ => fun
  | [d1, d2] => { results := [.lit (.bool false)], args := [d1, d2] }
  | _ => none }
def SinkOwnWrongFalsely : Prop := sinkOwnRow.holds Tryd.pinned (OpenSpec.ofChange sinkOwnWrong)

/- THE SECOND FORM. 'bulk': how many values and letters a reading holds, each counted each time it is reached (what is shared counts as often as it is met; a slice's spare places count too). A statement '..UptoSaid' is the law's where the arguments, and the package variables that the reading takes, are together of bulk at most 1048576: NARROWER than '..Said'. Prove '..Said' where nothing that the law and all that it calls make is longer than what came in: it says more and counts as full. Else prove '..UptoSaid'. A law counts once. -/
mutual
def uptoBulk {H : Type} : DataW H → Nat
  | .lit (.string bytes) => bytes.length + 1
  | .lit _ => 1
  | .nil => 1
  | .ptr d => uptoBulk d + 1
  | .slice elems spare => uptoBulkAll elems + uptoBulkAll spare + 1
  | .agg parts => uptoBulkAll parts + 1
  | .iface _ d => uptoBulk d + 1
  | .map entries => uptoBulkEntries entries + 1
  | .held _ => 1
def uptoBulkAll {H : Type} : List (DataW H) → Nat
  | [] => 0
  | d :: r => uptoBulk d + uptoBulkAll r
def uptoBulkEntries {H : Type} : List (Lit × DataW H) → Nat
  | [] => 0
  | x :: r => uptoBulkEntry x + uptoBulkEntries r
def uptoBulkEntry {H : Type} : Lit × DataW H → Nat
  | (.string bytes, d) => bytes.length + uptoBulk d + 1
  | (_, d) => uptoBulk d + 1
 end
def uptoSmall : (H : Type) → List (DataW H) → Bool := fun _ ds => decide (uptoBulkAll ds ≤ 1048576)
def OpenSpec.upto (s : _root_.Go.ChangeSpec) : _root_.Go.OpenSpec := { _root_.Go.OpenSpec.ofChange s with cond := some uptoSmall }

/-- 'tumblerlaw18.SinkPlays', WHERE WHAT IT READS IS OF BULK AT MOST 1048576: true; the input reads as it did. -/
def sinkPlaysUptoRow : OpenClaim := { program := "ytmfpgghpnkmkpaadoor", sum := "d6464097e670283a7d8acce787052ef5f42d9cd74b489405a6813af7fd9b13bc", func := "tumbler/tumblerlaw18.SinkPlays", spec := "sinkPlays", inPlace := ["internal/reflectlite.TypeOf"], unfollowed := true, recurses := true, named := ["tumbler/sink.errFailed"], apart := false, laid := [("tumbler/sink.errFailed", laid_tumbler_sink_errFailed)], narrowed := true }
def SinkPlaysUptoSaid : Prop := sinkPlaysUptoRow.holds Tryd.pinned (OpenSpec.upto sinkPlaysSpec)

/-- 'tumblerlaw18.SinkNils', WHERE WHAT IT READS IS OF BULK AT MOST 1048576: true; the input reads as it did. -/
def sinkNilsUptoRow : OpenClaim := { program := "ytmfpgghpnkmkpaadoor", sum := "d6464097e670283a7d8acce787052ef5f42d9cd74b489405a6813af7fd9b13bc", func := "tumbler/tumblerlaw18.SinkNils", spec := "sinkNils", inPlace := ["internal/reflectlite.TypeOf"], unfollowed := true, recurses := true, named := ["tumbler/sink.errFailed"], apart := false, laid := [("tumbler/sink.errFailed", laid_tumbler_sink_errFailed)], narrowed := true }
def SinkNilsUptoSaid : Prop := sinkNilsUptoRow.holds Tryd.pinned (OpenSpec.upto sinkNilsSpec)

/-- 'tumblerlaw18.SinkFrames', WHERE WHAT IT READS IS OF BULK AT MOST 1048576: true; the input reads as it did. -/
def sinkFramesUptoRow : OpenClaim := { program := "ytmfpgghpnkmkpaadoor", sum := "d6464097e670283a7d8acce787052ef5f42d9cd74b489405a6813af7fd9b13bc", func := "tumbler/tumblerlaw18.SinkFrames", spec := "sinkFrames", inPlace := ["internal/reflectlite.TypeOf"], unfollowed := true, recurses := true, named := ["tumbler/sink.errFailed"], apart := false, laid := [("tumbler/sink.errFailed", laid_tumbler_sink_errFailed)], narrowed := true }
def SinkFramesUptoSaid : Prop := sinkFramesUptoRow.holds Tryd.pinned (OpenSpec.upto sinkFramesSpec)

/-- 'tumblerlaw18.SinkNamed', WHERE WHAT IT READS IS OF BULK AT MOST 1048576: true; the input reads as it did. -/
def sinkNamedUptoRow : OpenClaim := { program := "ytmfpgghpnkmkpaadoor", sum := "d6464097e670283a7d8acce787052ef5f42d9cd74b489405a6813af7fd9b13bc", func := "tumbler/tumblerlaw18.SinkNamed", spec := "sinkNamed", inPlace := ["internal/reflectlite.TypeOf"], unfollowed := true, recurses := true, named := ["tumbler/sink.errFailed"], apart := false, laid := [("tumbler/sink.errFailed", laid_tumbler_sink_errFailed)], narrowed := true }
def SinkNamedUptoSaid : Prop := sinkNamedUptoRow.holds Tryd.pinned (OpenSpec.upto sinkNamedSpec)

/-- 'tumblerlaw18.SinkPieces', WHERE WHAT IT READS IS OF BULK AT MOST 1048576: true; the input reads as it did. -/
def sinkPiecesUptoRow : OpenClaim := { program := "ytmfpgghpnkmkpaadoor", sum := "d6464097e670283a7d8acce787052ef5f42d9cd74b489405a6813af7fd9b13bc", func := "tumbler/tumblerlaw18.SinkPieces", spec := "sinkPieces", inPlace := ["internal/reflectlite.TypeOf"], unfollowed := true, recurses := true, named := ["tumbler/sink.errFailed"], apart := false, laid := [("tumbler/sink.errFailed", laid_tumbler_sink_errFailed)], narrowed := true }
def SinkPiecesUptoSaid : Prop := sinkPiecesUptoRow.holds Tryd.pinned (OpenSpec.upto sinkPiecesSpec)

/-- 'tumblerlaw18.SinkOrders', WHERE WHAT IT READS IS OF BULK AT MOST 1048576: true; the input reads as it did. -/
def sinkOrdersUptoRow : OpenClaim := { program := "ytmfpgghpnkmkpaadoor", sum := "d6464097e670283a7d8acce787052ef5f42d9cd74b489405a6813af7fd9b13bc", func := "tumbler/tumblerlaw18.SinkOrders", spec := "sinkOrders", inPlace := ["internal/reflectlite.TypeOf"], unfollowed := true, recurses := true, named := ["tumbler/sink.errFailed"], apart := false, laid := [("tumbler/sink.errFailed", laid_tumbler_sink_errFailed)], narrowed := true }
def SinkOrdersUptoSaid : Prop := sinkOrdersUptoRow.holds Tryd.pinned (OpenSpec.upto sinkOrdersSpec)

/-- 'tumblerlaw18.SinkOwn', WHERE WHAT IT READS IS OF BULK AT MOST 1048576: true; the input reads as it did. -/
def sinkOwnUptoRow : OpenClaim := { program := "ytmfpgghpnkmkpaadoor", sum := "d6464097e670283a7d8acce787052ef5f42d9cd74b489405a6813af7fd9b13bc", func := "tumbler/tumblerlaw18.SinkOwn", spec := "sinkOwn", inPlace := ["internal/reflectlite.TypeOf"], unfollowed := true, recurses := true, named := ["tumbler/sink.errFailed"], apart := false, laid := [("tumbler/sink.errFailed", laid_tumbler_sink_errFailed)], narrowed := true }
def SinkOwnUptoSaid : Prop := sinkOwnUptoRow.holds Tryd.pinned (OpenSpec.upto sinkOwnSpec)

end Rows
end Go.Proofs.YtmfpgghpnkmkpaaDoor
