/- Runs of cells written into an owned row. No program here. -/
import Derived.Test.YtilkepmmkhmghaaDoorBase2
import Derived.Shelf.Spec.SlicesInsertGrow
import Derived.Shelf.Slices.Delete
namespace Go.Tum
open Go.RowKit
def setArr (cur : Array Value) : Nat → List Value → Array Value
  | _, [] => cur
  | o, v :: r => setArr (cur.setIfInBounds o v) (o + 1) r
theorem setArr_size : ∀ (vs : List Value) (cur : Array Value) (o : Nat), (setArr cur o vs).size = cur.size
  | [], _, _ => rfl
  | v :: r, cur, o => by rw [setArr, setArr_size r]; simp
theorem setArr_get : ∀ (vs : List Value) (cur : Array Value) (o j : Nat), (setArr cur o vs)[j]? = if o ≤ j ∧ j < o + vs.length ∧ j < cur.size then vs[j - o]? else cur[j]?
  | [], cur, o, j => by rw [setArr, if_neg (by simp; omega)]
  | v :: r, cur, o, j => by
    rw [setArr, setArr_get r, Array.size_setIfInBounds, List.length_cons]
    by_cases h1 : o + 1 ≤ j ∧ j < o + 1 + r.length ∧ j < cur.size
    · rw [if_pos h1, if_pos (by omega), show j - o = (j - (o + 1)) + 1 by omega]; rfl
    · rw [if_neg h1, Array.getElem?_setIfInBounds]
      by_cases h2 : o = j
      · subst h2
        rw [if_pos rfl]
        by_cases h3 : o < cur.size
        · rw [if_pos h3, if_pos ⟨Nat.le_refl _, by omega, h3⟩, Nat.sub_self]; rfl
        · rw [if_neg h3, if_neg (by omega), Array.getElem?_eq_none (by omega)]
      · rw [if_neg h2, if_neg (by omega)]
section
variable {w w' : World} {g : Nat} {t e : TypeId} {cs cur : Array Value}
theorem Cells.setCells : ∀ (vs : List Value) (o : Nat) {w : World} {cs : Array Value}, Cells w g t cs → Cells (w.setCells g o vs) g t (setArr cs o vs)
  | [], _, _, _, h => h
  | v :: r, o, _, _, h => Cells.setCells r (o + 1) (h.set_ o v)
theorem Mods.setCells : ∀ (vs : List Value) (o : Nat) (w : World), Mods (fun k => k = g) w (w.setCells g o vs)
  | [], _, w => Mods.refl _ w
  | v :: r, o, w => ((Mods.refl (fun k => k = g) w).setCell ⟨g, o, none⟩ v fun _ => rfl).trans (Mods.setCells r (o + 1) _) fun _ _ e => e
theorem Own.mk_ {size n cap : Nat} {xs : List Value} (h : Cells w g e cur) (hn : n ≤ cap) (hc : cap ≤ maxLen) (hs : cur.size = cap * size) (hx : cur.toList.take (n * size) = xs) : Own w (fun k => k = g) e size (.slice (some ⟨g, 0, none⟩) n cap) n xs := by
  have hmul : n * size ≤ cap * size := Nat.mul_le_mul_right _ hn
  refine ⟨⟨?_, .inr ⟨g, cap, cur, rfl, Nat.zero_le _, h, hn, hc, hs, hx⟩⟩, fun k hk => by injection hk with hk; exact hk.symm⟩
  rw [← hx, List.length_take, Array.length_toList, hs, Nat.min_eq_left hmul]
/-- A row that is not nil, whole. -/
theorem Own.whole {size n : Nat} {F : Nat → Prop} {v : Value} {xs : List Value} (h : Own w F e size v n xs) : (v = .slice none 0 0 ∧ n = 0 ∧ xs = []) ∨ ∃ g cap cur, v = .slice (some ⟨g, 0, none⟩) n cap ∧ F g ∧ Cells w g e cur ∧ n ≤ cap ∧ cap ≤ maxLen ∧ cur.size = cap * size ∧ cur.toList.take (n * size) = xs := by
  rcases h.1.2 with ⟨rfl, rfl⟩ | ⟨g, cap, cur, rfl, hb, hh, h1, h2, h3, h4⟩
  · exact .inl ⟨rfl, rfl, List.eq_nil_of_length_eq_zero (by simpa using h.1.1)⟩
  · exact .inr ⟨g, cap, cur, rfl, h.2 g rfl, hh, h1, h2, h3, h4⟩
theorem take_ext {cur : Array Value} {n : Nat} {xs : List Value} (hl : xs.length = n) (hn : n ≤ cur.size) (h : ∀ j, j < n → cur[j]? = xs[j]?) : cur.toList.take n = xs := by
  apply List.ext_getElem?
  intro j
  rcases Nat.lt_or_ge j n with hj | hj
  · rw [List.getElem?_take_of_lt hj, ← h j hj]; simp
  · rw [List.getElem?_eq_none (by simp; omega), List.getElem?_eq_none (by omega)]
theorem Cells.drewN' (h : Cells w g t cs) (n : Nat) : Cells (Sort.ahead w n) g t cs := h
end
end Go.Tum
