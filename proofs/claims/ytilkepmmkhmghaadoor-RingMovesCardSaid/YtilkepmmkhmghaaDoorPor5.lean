/- A region that draws its order and holds three calls (or allocs) that its loads may cross. No program here. -/
import Derived.Test.YtilkepmmkhmghaaDoorPor4
namespace Go.Tum
section
variable {P : Program} {Q : Exit → Act → World → Prop}
theorem any_three (B : Nat → Prop) (ms : List Nat) (c d f : Nat) {l : List Oper} {a : Act} {w : World} (hok : porOkM P ms [c, d, f] l.toArray = true) (hc : decide (c < d ∧ d < f ∧ f < l.length) = true) (hQ : Calm Q)
    (h : wpList P l.toArray (SegQ (fun a1 w1 => wpList P l.toArray (SegQ (fun a2 w2 => Keep B w1 w2 ∧
      wpList P l.toArray (SegQ (fun a3 w3 => wpList P l.toArray (SegQ (fun a4 w4 => Keep B w3 w4 ∧
        wpList P l.toArray (SegQ (fun a5 w5 => wpList P l.toArray (SegQ (fun a6 w6 => Keep B w5 w6 ∧ wpList P l.toArray (ChkM B ms l.toArray Q) (l.drop (f + 1)) a6 w6) (ChkM B ms l.toArray Q)) ((l.drop f).take 1) a5 w5) (ChkM B ms l.toArray Q)) ((l.drop (d + 1)).take (f - (d + 1))) a4 w4)
        (ChkM B ms l.toArray Q)) ((l.drop d).take 1) a3 w3) (ChkM B ms l.toArray Q)) ((l.drop (c + 1)).take (d - (c + 1))) a2 w2) (ChkM B ms l.toArray Q))
      ((l.drop c).take 1) a1 w1) (ChkM B ms l.toArray Q)) ((l.drop 0).take c) a w.drew) :
    wpAny P .any l.toArray Q l.toArray.size (Array.replicate l.toArray.size false) a w.drew := by
  obtain ⟨hcd, hdf, hf⟩ := of_decide_eq_true hc
  refine any_J B ms [c, d, f] hok hQ ?_
  have hC := ChkM.calm (B := B) (ms := ms) (ops := l.toArray) hQ
  have cut : ∀ x y, x < y → y < l.length → List.range' (x + 1) (l.length - (x + 1)) = List.range' (x + 1) (y - (x + 1)) ++ y :: List.range' (y + 1) (l.length - (y + 1)) := fun x y h1 h2 => by
    have := List.range'_append (s := x + 1) (m := y - (x + 1)) (n := l.length - y) (step := 1)
    rw [Nat.one_mul, show x + 1 + (y - (x + 1)) = y by omega, show y - (x + 1) + (l.length - y) = l.length - (x + 1) by omega] at this
    rw [← this, show l.length - y = (l.length - (y + 1)) + 1 by omega, List.range'_succ]
  have e : List.range' 0 l.length = List.range' 0 c ++ c :: (List.range' (c + 1) (d - (c + 1)) ++ d :: (List.range' (d + 1) (f - (d + 1)) ++ f :: List.range' (f + 1) (l.length - (f + 1)))) := by
    rw [range_cut l.length c (by omega), show l.length - c = (l.length - (c + 1)) + 1 by omega, List.range'_succ, cut c d hcd (by omega), cut d f hdf hf]
  rw [e]
  exact J_piece hC 0 c (by omega) (fun i hi => by simp at hi; omega) (fun a1 w1 h1 => J_call hC c (by omega) (fun a2 w2 h2 =>
    J_piece hC (c + 1) (d - (c + 1)) (by omega) (fun i hi => by simp at hi; omega) (fun a3 w3 h3 => J_call hC d (by omega) (fun a4 w4 h4 =>
      J_piece hC (d + 1) (f - (d + 1)) (by omega) (fun i hi => by simp at hi; omega) (fun a5 w5 h5 => J_call hC f hf (fun a6 w6 h6 => J_last hC (f + 1) (fun i hi => by simp at hi; omega) h6) h5) h4) h3) h2) h1) h
theorem wp_region_three (id : Nat) (B : Nat → Prop) (ms : List Nat) (c d f : Nat) {l : List Oper} {a : Act} {w : World} (hm : P.follows .mixedOrders = true) (hok : porOkM P ms [c, d, f] l.toArray = true) (hc : decide (c < d ∧ d < f ∧ f < l.length) = true) (hQ : Calm Q)
    (h : wpList P l.toArray (SegQ (fun a1 w1 => wpList P l.toArray (SegQ (fun a2 w2 => Keep B w1 w2 ∧
      wpList P l.toArray (SegQ (fun a3 w3 => wpList P l.toArray (SegQ (fun a4 w4 => Keep B w3 w4 ∧
        wpList P l.toArray (SegQ (fun a5 w5 => wpList P l.toArray (SegQ (fun a6 w6 => Keep B w5 w6 ∧ wpList P l.toArray (ChkM B ms l.toArray Q) (l.drop (f + 1)) a6 w6) (ChkM B ms l.toArray Q)) ((l.drop f).take 1) a5 w5) (ChkM B ms l.toArray Q)) ((l.drop (d + 1)).take (f - (d + 1))) a4 w4)
        (ChkM B ms l.toArray Q)) ((l.drop d).take 1) a3 w3) (ChkM B ms l.toArray Q)) ((l.drop (c + 1)).take (d - (c + 1))) a2 w2) (ChkM B ms l.toArray Q))
      ((l.drop c).take 1) a1 w1) (ChkM B ms l.toArray Q)) ((l.drop 0).take c) a w.drew) :
    (Code.region id l.toArray true).wp P Q a w := wp_region_any hm (any_three B ms c d f hok hc hQ h)
end
end Go.Tum
