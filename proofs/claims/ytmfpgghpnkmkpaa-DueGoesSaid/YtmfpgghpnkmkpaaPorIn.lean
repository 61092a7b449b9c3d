/- Regions that draw their order, in a round of a range over a function: walked as outside of rounds. No program here. -/
import Derived.Test.YtmfpgghpnkmkpaaPor4
import Derived.Test.YtmfpgghpnkmkpaaRange
import Derived.RangeFuncCalls
namespace Go.Tum
open Go.RowKit
section
variable {P : Program} {ops : Array Oper} {Q : Exit → Act → World → Prop} {r : Nat}
theorem rowsIn_round {row : String} {args : Array Value} {w : World} {R : Value → World → Prop} (l n : Nat) (h : Rows P row args w R) : RowsIn (Fence.wide.inRound l) n P row args w R := fun c cs _ =>
  let ⟨v, w', q, s⟩ := h c cs
  ⟨v, w', q, stepsIn_wide.2 s⟩
def noDefer (ops : Array Oper) : Bool := ops.toList.all fun o => match o.op with | .defer _ => false | _ => true
theorem noDefer_at (h : noDefer ops = true) {i : Nat} {o : Oper} (ho : ops[i]? = some o) : ∀ c, o.op ≠ .defer c := fun c hc => by
  have h1 := List.all_eq_true.1 h o (by rw [Array.mem_toList_iff]; exact Array.mem_of_getElem? ho)
  rw [hc] at h1
  cases h1
theorem wpIn_round {o : Oper} {a : Act} {w : World} {K K' : Act → World → Prop} (hd : ∀ c, o.op ≠ .defer c) (hk : ∀ a w, K a w → K' a w) (h : o.wp P a w K Q) : o.wpIn (Fence.wide.inRound r) 0 P a w K' Q := by
  refine ⟨fun _ _ => trivial, ?_⟩
  rw [Oper.semAt_eq _ _ _ hd]
  unfold Oper.wp at h
  generalize (execOp a.eval o).run P w = res at *
  cases res with
  | ok x w' =>
    cases x <;> simp only [Oper.upon] at h <;> simp only [Oper.uponIn]
    case value u => exact hk _ _ h
    case skip => exact hk _ _ h
    case defer d => exact hk _ _ h
    case enter f args =>
      refine ⟨(fun e => by cases e), CallsIn.inRound r (callsIn_wide.2 (h.mono fun e w'' he => ?_))⟩
      cases e with
      | returned v => exact hk _ _ he
      | panicked c => exact he
      | outgrown => exact he
    case row row args => exact ⟨(fun e => by cases e), rowsIn_round r _ (h.mono fun v w'' he => hk _ _ he)⟩
  | halt x w' =>
    cases x <;> simp only [Oper.upon] at h <;> simp only [Oper.uponIn]
    exact h
theorem wpOps_round (hQ : Calm Q) (hd : noDefer ops = true) : ∀ (l : List Nat) (a : Act) (w : World), wpOps P ops Q l a w → wpOpsIn (Fence.wide.inRound r) 0 P ops Q l a w
  | [], _, _, h => h
  | i :: l, a, w, h => by
    have ih := wpOps_round hQ hd l
    unfold wpOps at h
    unfold wpOpsIn
    cases ho : ops[i]? with
    | none => rw [ho] at h; exact ih a w h
    | some o =>
      rw [ho] at h
      dsimp only at h ⊢
      split
      · rename_i hw
        rw [if_pos hw] at h
        rcases h with h | h
        · exact wpIn_round (noDefer_at hd ho) ih h
        · exact absurd h.2 hQ.lets
      · rename_i hw
        rw [if_neg hw] at h
        exact ⟨fun _ _ => trivial, ih _ _ h⟩
theorem region_round {id : Nat} {l : List Oper} {a : Act} {w : World} (hQ : Calm Q) (hm : P.follows .mixedOrders = true) (hd : noDefer l.toArray = true)
    (h : wpAny P .any l.toArray Q l.toArray.size (Array.replicate l.toArray.size false) a w.drew) : (Code.region id l.toArray true).wpIn (Fence.wide.inRound r) 0 P Q a w :=
  wpIn_region_draw fun t => wpOps_round hQ hd _ _ _ (by
    simp only [Region.schedule, hm, Bool.true_or, if_true]
    exact wpAny_sound _ t _ a _ h)
theorem region_round_por {id : Nat} {l : List Oper} {a : Act} {w : World} (hm : P.follows .mixedOrders = true) (hd : noDefer l.toArray = true) (hok : porOk P l.toArray = true) (hQ : Calm Q)
    (h : wpList P l.toArray (Chk l.toArray Q) l a w.drew) : (Code.region id l.toArray true).wpIn (Fence.wide.inRound r) 0 P Q a w := region_round hQ hm hd (any_por hok hQ h)
theorem region_round_one (id : Nat) (B : Nat → Prop) (ms : List Nat) (c : Nat) {l : List Oper} {a : Act} {w : World} (hm : P.follows .mixedOrders = true) (hd : noDefer l.toArray = true) (hok : porOkM P ms [c] l.toArray = true) (hc : decide (c < l.length) = true) (hQ : Calm Q)
    (h : wpList P l.toArray (SegQ (fun a1 w1 => wpList P l.toArray (SegQ (fun a2 w2 => Keep B w1 w2 ∧ wpList P l.toArray (ChkM B ms l.toArray Q) (l.drop (c + 1)) a2 w2) (ChkM B ms l.toArray Q)) ((l.drop c).take 1) a1 w1) (ChkM B ms l.toArray Q)) ((l.drop 0).take c) a w.drew) :
    (Code.region id l.toArray true).wpIn (Fence.wide.inRound r) 0 P Q a w := region_round hQ hm hd (any_one B ms c hok hc hQ h)
theorem region_round_two (id : Nat) (B : Nat → Prop) (ms : List Nat) (c d : Nat) {l : List Oper} {a : Act} {w : World} (hm : P.follows .mixedOrders = true) (hd : noDefer l.toArray = true) (hok : porOkM P ms [c, d] l.toArray = true) (hc : decide (c < d ∧ d < l.length) = true) (hQ : Calm Q)
    (h : wpList P l.toArray (SegQ (fun a1 w1 => wpList P l.toArray (SegQ (fun a2 w2 => Keep B w1 w2 ∧
      wpList P l.toArray (SegQ (fun a3 w3 => wpList P l.toArray (SegQ (fun a4 w4 => Keep B w3 w4 ∧ wpList P l.toArray (ChkM B ms l.toArray Q) (l.drop (d + 1)) a4 w4) (ChkM B ms l.toArray Q)) ((l.drop d).take 1) a3 w3) (ChkM B ms l.toArray Q)) ((l.drop (c + 1)).take (d - (c + 1))) a2 w2) (ChkM B ms l.toArray Q))
      ((l.drop c).take 1) a1 w1) (ChkM B ms l.toArray Q)) ((l.drop 0).take c) a w.drew) :
    (Code.region id l.toArray true).wpIn (Fence.wide.inRound r) 0 P Q a w := region_round hQ hm hd (any_two B ms c d hok hc hQ h)
theorem calm_round {α : Type} {n0 m : Nat} {I : Nat → List α → World → Prop} {Ix : Nat → Code → List α → World → Prop} {xs : List α} {W : World} : Calm (roundEnd n0 m I Ix xs W) := ⟨fun _ _ _ h => h, fun _ _ h => h⟩
end
/-- A post that lets no panic by. -/
def Firm (Q : Exit → Act → World → Prop) : Exit → Act → World → Prop
  | .panic _, _, _ => False
  | .outgrown, _, _ => False
  | e, a, w => Q e a w
theorem calm_firm {Q : Exit → Act → World → Prop} : Calm (Firm Q) := ⟨fun _ _ _ h => h, fun _ _ h => h⟩
end Go.Tum
