/- What a sink is, in plain words: no program here. -/
namespace Go.Tum
abbrev Plan := List (Int × Bool)
structure ConnS where
  bytes : List UInt8
  failed : Bool
  deriving DecidableEq
structure SinkS where
  conns : List ConnS
  any : Bool
  last : Int
  whole : List Int
  lost : List Int
  writes : Nat
/-- what becomes of a write of n bytes -/
def pick (plan : Plan) (wr n : Nat) : Nat × Bool :=
  match plan[wr]? with
  | none => (n, false)
  | some (c, f) => (min c.toNat n, f)
theorem pick_le (plan : Plan) (wr n : Nat) : (pick plan wr n).1 ≤ n := by
  unfold pick
  split
  · exact Nat.le_refl _
  · exact Nat.min_le_right _ _
/-- the writes of one frame on one connection: what it has then, how many writes there were, what is left, whether it failed -/
def sendGo (plan : Plan) : Nat → List UInt8 → Nat → Nat → List UInt8 → List UInt8 × Nat × List UInt8 × Bool
  | 0, acc, wr, _, b => (acc, wr, b, false)
  | f + 1, acc, wr, idle, b =>
    if b.length = 0 then (acc, wr, b, false)
    else if (pick plan wr b.length).2 = true then (acc ++ b.take (pick plan wr b.length).1, wr + 1, b.drop (pick plan wr b.length).1, true)
    else if 0 < (pick plan wr b.length).1 then sendGo plan f (acc ++ b.take (pick plan wr b.length).1) (wr + 1) 0 (b.drop (pick plan wr b.length).1)
    else if idle + 1 = 64 then (acc ++ b.take (pick plan wr b.length).1, wr + 1, b.drop (pick plan wr b.length).1, true)
    else sendGo plan f (acc ++ b.take (pick plan wr b.length).1) (wr + 1) (idle + 1) (b.drop (pick plan wr b.length).1)
def fuel (b : List UInt8) : Nat := 65 * b.length + 65
def lastOpen (cs : List ConnS) : Bool :=
  match cs.getLast? with
  | some c => !c.failed
  | none => false
def opened (cs : List ConnS) : List ConnS := if lastOpen cs then cs else cs ++ [⟨[], false⟩]
def lastBytes (cs : List ConnS) : List UInt8 :=
  match cs.getLast? with
  | some c => c.bytes
  | none => []
def send (plan : Plan) (s : SinkS) (b : List UInt8) : SinkS × Bool :=
  if b.length = 0 then (s, true)
  else
    let r := sendGo plan (fuel b) (lastBytes (opened s.conns)) s.writes 0 b
    ({ s with conns := (opened s.conns).dropLast ++ [⟨r.1, r.2.2.2⟩], writes := r.2.1 }, decide (r.2.2.1.length = 0))
def frame (plan : Plan) (s : SinkS) (id : Int) (b : List UInt8) : SinkS × Int :=
  if s.any = true ∧ id ≤ s.last then (s, 180)
  else
    let r := send plan { s with any := true, last := id } b
    if r.2 = true then ({ r.1 with whole := r.1.whole ++ [id] }, 0) else ({ r.1 with lost := r.1.lost ++ [id] }, 0)
def s0 : SinkS := { conns := [], any := false, last := 0, whole := [], lost := [], writes := 0 }
end Go.Tum
