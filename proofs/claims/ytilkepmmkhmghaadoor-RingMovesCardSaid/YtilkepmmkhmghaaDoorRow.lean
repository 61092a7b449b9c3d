/- Owned slices of structs and the shelf's sort: one word for both. No program here. -/
import Derived.Test.YtilkepmmkhmghaaDoorBase2
import Derived.Shelf.SlSortCmp.NoneTotal
import Derived.Sort.OwnSortedInts
namespace Go.Tum
open Go.RowKit Go.Sort Go.Proofs
section
variable {α : Type} {enc : α → List Value} {k : Nat}
theorem flatMap_len (hk : ∀ x, (enc x).length = k) : ∀ L : List α, (L.flatMap enc).length = L.length * k
  | [] => by simp
  | a :: L => by rw [List.flatMap_cons, List.length_append, hk, flatMap_len hk L, List.length_cons, Nat.add_mul, Nat.one_mul, Nat.add_comm]
theorem flatMap_get (hk : ∀ x, (enc x).length = k) : ∀ (L : List α) (i r : Nat), r < k → (L.flatMap enc)[i * k + r]? = (L[i]?).bind fun x => (enc x)[r]?
  | [], i, r, _ => by simp
  | a :: L, 0, r, h => by
    rw [List.flatMap_cons, Nat.zero_mul, Nat.zero_add, List.getElem?_append_left (by rw [hk]; exact h)]
    simp
  | a :: L, i + 1, r, h => by
    rw [List.flatMap_cons, List.getElem?_append_right (by rw [hk, Nat.add_mul, Nat.one_mul]; omega), hk, show (i + 1) * k + r - k = i * k + r by rw [Nat.add_mul, Nat.one_mul]; omega, flatMap_get hk L i r h]
    simp
theorem flatK_toList [Inhabited α] (hk : ∀ x, (enc x).length = k) (L : List α) : (flatK enc k L.toArray).toList = L.flatMap enc := by
  have hl := flatMap_len hk L
  have hs : (flatK enc k L.toArray).size = L.length * k := by rw [size_flatK]; simp
  apply List.ext_getElem?
  intro t
  rcases Nat.lt_or_ge t (L.length * k) with ht | ht
  · have k0 : 0 < k := by
      rcases Nat.eq_zero_or_pos k with h | h
      · subst h; simp at ht
      · exact h
    have hq : t / k < L.length := Nat.div_lt_of_lt_mul (by rw [Nat.mul_comm]; exact ht)
    have hr := Nat.mod_lt t k0
    have e : t / k * k + t % k = t := by rw [Nat.mul_comm]; exact Nat.div_add_mod t k
    have h1 := flatMap_get hk L (t / k) (t % k) hr
    rw [e, List.getElem?_eq_getElem hq] at h1
    rw [h1, Array.getElem?_toList, Array.getElem?_eq_getElem (by omega)]
    have h2 := get_flatK enc k L.toArray t (by simpa using ht)
    rw [getElem!_pos _ t (by omega)] at h2
    rw [h2]
    have h3 : (L.toArray[t / k]!) = L[t / k] := by rw [getElem!_pos _ _ (by simpa using hq)]; simp
    rw [h3]
    simp only [Option.bind_some]
    rw [List.getElem?_eq_getElem (by rw [hk]; exact hr), getElem!_pos _ _ (by rw [hk]; exact hr)]
  · rw [List.getElem?_eq_none (by rw [Array.length_toList]; omega), List.getElem?_eq_none (by omega)]
variable {w : World} {F : Nat → Prop} {e : TypeId} {g c n : Nat} {L : List α}
theorem own_holdsK [Inhabited α] (hk : ∀ x, (enc x).length = k) (hn : L.length = n) (h : Own w F e k (.slice (some ⟨g, 0, none⟩) n c) n (L.flatMap enc)) : HoldsK enc k w g 0 L.toArray := by
  intro t ht
  rw [size_flatK] at ht
  have ht2 : t < n * k := by simpa [hn] using ht
  obtain ⟨g', c', e1, _, _, hx⟩ := h.cells (by
    rcases Nat.eq_zero_or_pos n with h0 | h0
    · subst h0; simp at ht2
    · exact h0)
  injection e1 with e1
  injection e1 with e1
  injection e1 with e1
  subst e1
  obtain ⟨h1, h2⟩ := hx t ht2
  rw [Nat.zero_add]
  refine ⟨?_, h2⟩
  rw [h1, ← flatK_toList hk L, Array.getElem?_toList, Array.getElem?_eq_getElem (by rw [size_flatK]; simpa [hn] using ht2), getElem!_pos _ t (by rw [size_flatK]; simpa [hn] using ht2)]
  rfl
/-- Behind the sort the same slice owns the sorted list. -/
theorem own_sorted [Inhabited α] (hk : ∀ x, (enc x).length = k) {T : List α} (hT : T.length = n) (h : Own w F e k (.slice (some ⟨g, 0, none⟩) n c) n (L.flatMap enc)) (m : Nat) (os : Array Obj) :
    Own (sortWorldK enc k w g 0 m T.toArray os) F e k (.slice (some ⟨g, 0, none⟩) n c) n (T.flatMap enc) ∧ Mods (fun b => b = g) w (sortWorldK enc k w g 0 m T.toArray os) := by
  obtain ⟨⟨h1, h2⟩, h3⟩ := h
  rcases h2 with ⟨e1, _⟩ | ⟨g', cap, cur, e1, _, hh, k1, k2, k3, k4⟩
  · cases e1
  · injection e1 with e1 _ e2
    injection e1 with e1
    injection e1 with e1
    subst e1 e2
    have hg : g < w.heap.size := (Array.getElem?_eq_some_iff.1 hh).1
    have hsz : (flatK enc k T.toArray).size = n * k := by rw [size_flatK]; simp [hT]
    have hle : n * k ≤ c * k := Nat.mul_le_mul_right _ k1
    have hblk : (sortWorldK enc k w g 0 m T.toArray os).heap[g]? = some (.cells (putCells id 0 (flatK enc k T.toArray) cur) e (0, 0)) := by
      unfold sortWorldK putRowK
      rw [heap_grow_old _ _ (by simpa using hg)]
      simp [putRow, mapBlock, Sort.ahead, Array.getElem?_modify, hh, onCells]
    refine ⟨⟨⟨by rw [flatMap_len hk, hT], .inr ⟨g, c, _, rfl, Nat.zero_le _, hblk, k1, k2, by simp [putCells, k3], ?_⟩⟩, h3⟩, ⟨rfl, rfl, rfl, ?_, fun b hb hne => ?_⟩⟩
    · rw [← flatK_toList hk T]
      apply List.ext_getElem?
      intro j
      rcases Nat.lt_or_ge j (n * k) with hj | hj
      · rw [List.getElem?_take_of_lt hj, Array.getElem?_toList, Array.getElem?_toList]
        rw [Array.getElem?_eq_getElem (by simp [putCells]; omega), Array.getElem?_eq_getElem (by omega)]
        simp only [putCells, Array.getElem_mapIdx]
        rw [if_pos (by omega), Nat.sub_zero, getElem!_pos _ j (by omega)]
        rfl
      · rw [List.getElem?_take_eq_none hj, List.getElem?_eq_none (by rw [Array.length_toList]; omega)]
    · unfold sortWorldK putRowK
      simp [Sort.ahead]
    · unfold sortWorldK putRowK
      rw [heap_grow_old _ _ (by simpa using hb)]
      have : g ≠ b := fun e => hne e.symm
      simp [putRow, mapBlock, Sort.ahead, Array.getElem?_modify, this]
end
/-- Draws and blocks alone. -/
def Gr (w w' : World) : Prop := ∃ q os, w' = grow (w.drewN q) os
theorem Gr.refl (w : World) : Gr w w := ⟨0, #[], by simp [World.drewN]⟩
theorem Gr.drew {a w : World} (h : Gr a w) : Gr a w.drew := by
  obtain ⟨q, os, rfl⟩ := h
  exact ⟨q + 1, os, rfl⟩
theorem Gr.drewN {a w : World} (h : Gr a w) (n : Nat) : Gr a (w.drewN n) := by
  obtain ⟨q, os, rfl⟩ := h
  exact ⟨q + n, os, by simp [World.drewN, grow, Nat.add_assoc]⟩
theorem Gr.alloc {a w : World} (h : Gr a w) (o : Obj) : Gr a (w.alloc o) := by
  obtain ⟨q, os, rfl⟩ := h
  exact ⟨q, os ++ #[o], by rw [alloc_eq_grow, grow_grow]⟩
theorem Gr.trans {a b c : World} (h : Gr a b) (k : Gr b c) : Gr a c := by
  obtain ⟨q, os, rfl⟩ := h
  obtain ⟨q', os', rfl⟩ := k
  exact ⟨q + q', os ++ os', by rw [← grow_grow]; simp [World.drewN, grow, Nat.add_assoc]⟩
theorem Gr.mods {a b : World} (h : Gr a b) : Mods No a b := by
  obtain ⟨q, os, rfl⟩ := h
  exact ⟨rfl, rfl, rfl, by simp [World.drewN, grow], fun k hk _ => heap_grow_old _ _ (by simpa [World.drewN] using hk)⟩
end Go.Tum
