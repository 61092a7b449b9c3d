/- The relay and the reference's, side by side. -/
import Derived.Test.YtcifajfmdpjfiaaDoorRrF
import Derived.Test.YtcifajfmdpjfiaaDoorRrG
namespace Go.Proofs.YtcifajfmdpjfiaaDoor
open Go.RowKit Go.Tum Go.Lib Go.Sort
set_option maxRecDepth 100000
/-- Both relays, no block of both; the one stands at S, dn, the other at S2, dn2. -/
structure Two (W w : World) (rb x C R H : Nat) (nw : Bool) (N : List Tx) (S : List Stn) (dn : List Tx) (S2 : List Stn) (dn2 : List Tx) (F G : Nat → Prop) : Prop where
  rel : RelK w rb C R H nw N S dn F
  ref : RrK w x C R H nw N S2 dn2 G
  dis : ∀ b, F b → ¬ G b
  fu : ∀ b, F b → b < w.heap.size
  gu : ∀ b, G b → b < w.heap.size
  fl : ∀ b, F b → W.heap.size ≤ b
  gl : ∀ b, G b → W.heap.size ≤ b
  hm : Mods No W w
section
variable {W w w' : World} {rb x C R H : Nat} {nw : Bool} {N : List Tx} {S S' S2 : List Stn} {dn dn' dn2 : List Tx} {F G : Nat → Prop}
theorem Two.no (h : Two W w rb x C R H nw N S dn S2 dn2 F G) (hm : Mods No w w') : Two W w' rb x C R H nw N S dn S2 dn2 F G :=
  ⟨h.rel.no hm, h.ref.no hm, h.dis, fun b e => Nat.lt_of_lt_of_le (h.fu b e) hm.size, fun b e => Nat.lt_of_lt_of_le (h.gu b e) hm.size, h.fl, h.gl, h.hm.trans hm fun _ _ e => e⟩
theorem Two.left (h : Two W w rb x C R H nw N S dn S2 dn2 F G) (hr : RelK w' rb C R H nw N S' dn' (fun b => F b ∨ w.heap.size ≤ b)) (hm : Mods F w w') : Two W w' rb x C R H nw N S' dn' S2 dn2 (fun b => (F b ∨ w.heap.size ≤ b) ∧ b < w'.heap.size) G := by
  have hs := h.hm.size
  refine ⟨hr.more fun b hb e => ⟨e, hb⟩, h.ref.mods hm fun b _ hg hf => h.dis b hf hg, fun b e hg => ?_, fun b e => e.2, fun b e => Nat.lt_of_lt_of_le (h.gu b e) hm.size, fun b e => ?_, h.gl, h.hm.trans hm fun b hb e => absurd hb (Nat.not_lt.2 (h.fl b e))⟩
  · rcases e.1 with e1 | e1
    · exact h.dis b e1 hg
    · have := h.gu b hg; omega
  · rcases e.1 with e1 | e1
    · exact h.fl b e1
    · omega
theorem Two.right (h : Two W w rb x C R H nw N S2 dn2 S dn F G) (hr : RrK w' x C R H nw N S' dn' (fun b => G b ∨ w.heap.size ≤ b)) (hm : Mods G w w') : Two W w' rb x C R H nw N S2 dn2 S' dn' F (fun b => (G b ∨ w.heap.size ≤ b) ∧ b < w'.heap.size) := by
  have hs := h.hm.size
  refine ⟨h.rel.mods hm fun b _ hf hg => h.dis b hf hg, hr.more fun b hb e => ⟨e, hb⟩, fun b hf e => ?_, fun b e => Nat.lt_of_lt_of_le (h.fu b e) hm.size, fun b e => e.2, h.fl, fun b e => ?_, h.hm.trans hm fun b hb e => absurd hb (Nat.not_lt.2 (h.gl b e))⟩
  · rcases e.1 with e1 | e1
    · exact h.dis b hf e1
    · have := h.fu b hf; omega
  · rcases e.1 with e1 | e1
    · exact h.gl b e1
    · omega
end
/-- What is taken, and what is left of all. -/
def tkV (N : List Tx) (S : List Stn) (dn : List Tx) (s : Tx) (n : Int) : List Rcd × List Stn :=
  if takeE N dn s n = 0 then (((S.getD (posT N s) stn0).L.take (min n (S.getD (posT N s) stn0).L.length).toNat), S.set (posT N s) (takeS (min n (S.getD (posT N s) stn0).L.length).toNat (S.getD (posT N s) stn0)).2) else ([], S)
theorem tkV_at {N : List Tx} {S : List Stn} {dn : List Tx} {s : Tx} {n : Int} {k m : Nat} {st : Stn} (hN : Strict ltT N) (h0 : takeE N dn s n = 0) (hk : N[k]? = some s) (hs : S[k]? = some st) (hm : (m : Int) = min n st.L.length) : tkV N S dn s n = (st.L.take m, S.set k (takeS m st).2) := by
  have h1 := pos_at hN hk
  have h2 : S.getD k stn0 = st := by rw [List.getD_eq_getElem?_getD, hs]; rfl
  unfold tkV
  rw [if_pos h0, h1, h2, ← hm, Int.toNat_natCast]
theorem two_takeL {W w w' : World} {rb x C R H : Nat} {nw : Bool} {N : List Tx} {S S2 : List Stn} {dn dn2 : List Tx} {F G : Nat → Prop} {s : Tx} {n : Int} {v : Value} (h : Two W w rb x C R H nw N S dn S2 dn2 F G) (ht : TakeIs w w' rb C R H nw N S dn F s n v) :
    ∃ A c, v = .tuple #[.slice A (tkV N S dn s n).1.length c, .int .i64 (takeE N dn s n)] ∧ Own w' (fun g => w.heap.size ≤ g) 45 4 (.slice A (tkV N S dn s n).1.length c) (tkV N S dn s n).1.length (rcs (tkV N S dn s n).1) ∧
      Two W w' rb x C R H nw N (tkV N S dn s n).2 dn S2 dn2 (fun b => (F b ∨ w.heap.size ≤ b) ∧ b < w'.heap.size) G ∧ Mods F w w' := by
  rcases ht with ⟨h0, rfl, hr, hm⟩ | ⟨h0, k, m, mid, st, A, c, hk, hst, hm, rfl, hmid, ho, hr, hmm⟩
  · have e : tkV N S dn s n = ([], S) := if_neg h0
    rw [e]
    exact ⟨none, 0, rfl, Own.nil _ _ _ _, h.left (hr.more fun b _ e => .inl e) (hm.mono fun _ _ e => e.elim), hm.mono fun _ _ e => e.elim⟩
  · rw [tkV_at h.rel.strict h0 hk hst hm]
    have hl : (st.L.take m).length = m := by rw [List.length_take]; omega
    dsimp only
    rw [hl, h0]
    refine ⟨A, c, rfl, ho.more fun g e => e.1, h.left (hr.more fun b _ e => ?_) hmm, hmm⟩
    rcases e with e | e
    · exact .inl e
    · exact .inr (Nat.le_trans hmid e)
theorem two_takeR {W w w' : World} {rb x C R H : Nat} {nw : Bool} {N : List Tx} {S S2 : List Stn} {dn dn2 : List Tx} {F G : Nat → Prop} {s : Tx} {n : Int} {v : Value} (h : Two W w rb x C R H nw N S2 dn2 S dn F G) (ht : RTakeIs w w' x C R H nw N S dn G s n v) :
    ∃ A c, v = .tuple #[.slice A (tkV N S dn s n).1.length c, .int .i64 (takeE N dn s n)] ∧ Rd w' G 4 (.slice A (tkV N S dn s n).1.length c) (tkV N S dn s n).1.length (rcs (tkV N S dn s n).1) ∧
      Two W w' rb x C R H nw N S2 dn2 (tkV N S dn s n).2 dn F (fun b => (G b ∨ w.heap.size ≤ b) ∧ b < w'.heap.size) ∧ Mods G w w' := by
  rcases ht with ⟨h0, rfl, hr, hm⟩ | ⟨h0, k, m, st, A, c, hk, hst, hm, rfl, ho, hr, hmm⟩
  · have e : tkV N S dn s n = ([], S) := if_neg h0
    rw [e]
    exact ⟨none, 0, rfl, Rd.nil _ _ _, h.right (hr.more fun b _ e => .inl e) (hm.mono fun _ _ e => e.elim), hm.mono fun _ _ e => e.elim⟩
  · rw [tkV_at h.rel.strict h0 hk hst hm]
    have hl : (st.L.take m).length = m := by rw [List.length_take]; omega
    dsimp only
    rw [hl, h0]
    exact ⟨A, c, rfl, ho, h.right (hr.more fun b _ e => .inl e) hmm, hmm⟩
end Go.Proofs.YtcifajfmdpjfiaaDoor
