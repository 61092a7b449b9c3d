/- A ring in plain Lean: what the reference's put makes. No program here. -/
import Derived.Test.YtilkepmmkhmghaaDoorRing7
namespace Go.Tum
theorem insR_at {l : List Plc} {p : Plc} {j : Nat} (hj : j ≤ l.length) (h1 : ∀ y ∈ l.drop j, ltP p y = true) (h2 : ∀ x, j ≠ 0 → l[j - 1]? = some x → ltP p x = false) : insR ltP l p = l.take j ++ p :: l.drop j := by
  have hs : l.reverse = (l.drop j).reverse ++ (l.take j).reverse := by rw [← List.reverse_append, List.take_append_drop]
  have ht : l.reverse.takeWhile (ltP p) = (l.drop j).reverse ∧ l.reverse.dropWhile (ltP p) = (l.take j).reverse := by
    rw [hs]
    have ha : ∀ y ∈ (l.drop j).reverse, ltP p y = true := fun y hy => h1 y (List.mem_reverse.1 hy)
    have hb : (l.take j).reverse = [] ∨ ∃ x B, (l.take j).reverse = x :: B ∧ ltP p x = false := by
      rcases Nat.eq_zero_or_pos j with h0 | h0
      · left; subst h0; simp
      · right
        obtain ⟨x, hx⟩ : ∃ x, l[j - 1]? = some x := ⟨_, List.getElem?_eq_getElem (by omega)⟩
        refine ⟨x, (l.take (j - 1)).reverse, ?_, h2 x (by omega) hx⟩
        have : l.take j = l.take (j - 1) ++ [x] := by
          conv => lhs; rw [show j = (j - 1) + 1 by omega, List.take_add_one, hx]
          rfl
        rw [this, List.reverse_append]; rfl
    rw [List.takeWhile_append_of_pos ha, List.dropWhile_append_of_pos ha]
    rcases hb with e | ⟨x, B, e, hx⟩
    · rw [e]; simp
    · rw [e, List.takeWhile_cons, List.dropWhile_cons, hx]; simp
  unfold insR
  rw [ht.1, ht.2, List.reverse_reverse, List.reverse_reverse]
theorem fold_insR : ∀ (m acc : List Plc), Rising ltP acc → Rising ltP (m.foldl (insR ltP) acc) ∧ (m.foldl (insR ltP) acc).Perm (acc ++ m)
  | [], acc, h => ⟨h, by simp⟩
  | p :: m, acc, h => by
    obtain ⟨h1, h2⟩ := fold_insR m (insR ltP acc p) (insR_rising sto_P h p)
    refine ⟨h1, h2.trans ?_⟩
    refine ((insR_perm ltP acc p).append_right m).trans ?_
    rw [List.append_assoc]; rfl
theorem merged {c : Nat} {N : List Tx} {s : Tx} : mergeL ltP (placesOf c N) ((news c s).foldl (insR ltP) []) = placesOf c (insT N s) := by
  obtain ⟨h1, h2⟩ := fold_insR (news c s) [] List.Pairwise.nil
  rw [← placesOf_ins]
  refine sortL_eq sto_P ((mergeL_perm _ _).trans ((List.Perm.append_left _ h2).trans ?_)) (mergeL_rising sto_P (placesOf_rising c N) h1)
  simp
end Go.Tum
