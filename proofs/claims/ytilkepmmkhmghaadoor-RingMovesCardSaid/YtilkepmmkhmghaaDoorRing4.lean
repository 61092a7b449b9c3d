/- A ring in plain Lean: what is picked. No program here. -/
import Derived.Test.YtilkepmmkhmghaaDoorRing3
namespace Go.Tum
theorem dd_len : ∀ (l acc : List Tx), (dd acc l).length ≤ acc.length + l.length
  | [], acc => Nat.le_refl _
  | x :: l, acc => by
    simp only [dd]
    split
    · have := dd_len l acc; simp only [List.length_cons]; omega
    · have := dd_len l (acc ++ [x]); simp only [List.length_cons, List.length_append, List.length_nil] at this ⊢; omega
theorem dd_step {T : List Tx} {i : Nat} {x : Tx} (h : T[i]? = some x) : dd [] (T.take (i + 1)) = if x ∈ dd [] (T.take i) then dd [] (T.take i) else dd [] (T.take i) ++ [x] := by
  rw [List.take_add_one, h]
  exact dd_snoc x _ _
theorem dd_cut (T : List Tx) (i : Nat) : (dd [] T).take (dd [] (T.take i)).length = dd [] (T.take i) := by
  have h : dd [] T = dd (dd [] (T.take i)) (T.drop i) := by rw [← dd_append, List.take_append_drop]
  rw [h]
  exact (List.prefix_iff_eq_take.1 (dd_prefix (T.drop i) (dd [] (T.take i)))).symm
theorem posOf_le (L : List Plc) (h : Nat) : pickV.posOf L h ≤ L.length := (List.takeWhile_sublist _).length_le
theorem pick_none {L : List Plc} {h : Nat} {n : Int} (hn : n < 1) : pickV L h n = [] := if_pos hn
theorem pick_all {L : List Plc} {h : Nat} {n : Int} (hn : ¬ n < 1) {f : Nat} (hf : f = pickV.posOf L h) {T : List Tx} (hT : T = (turned L f).map (·.2)) (hl : ((dd [] T).length : Int) < n) : pickV L h n = dd [] T := by
  subst hf hT
  unfold pickV
  rw [if_neg hn]
  exact List.take_of_length_le (by omega)
theorem pick_cut {L : List Plc} {h : Nat} {n : Int} (hn : ¬ n < 1) {f : Nat} (hf : f = pickV.posOf L h) {T : List Tx} (hT : T = (turned L f).map (·.2)) {i : Nat} (hl : ((dd [] (T.take i)).length : Int) = n) : pickV L h n = dd [] (T.take i) := by
  subst hf hT
  unfold pickV
  rw [if_neg hn, show n.toNat = (dd [] (((turned L (pickV.posOf L h)).map (·.2)).take i)).length by omega]
  exact dd_cut _ _
end Go.Tum
