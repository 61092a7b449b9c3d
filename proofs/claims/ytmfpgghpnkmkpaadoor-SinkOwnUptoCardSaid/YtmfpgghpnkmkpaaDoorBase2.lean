/- More words for memory: a cell of an owned row is written. -/
import Derived.Test.YtmfpgghpnkmkpaaDoorBase
namespace Go.Tum
open Go.RowKit
theorem Own.set {w : World} {F : Nat → Prop} {e : TypeId} {size n : Nat} {v : Value} {xs : List Value} (h : Own w F e size v n xs) {g : Nat} (hg : v.ownBlock = some g) (i : Nat) (u : Value) : Own (w.setCell ⟨g, i, none⟩ u) F e size v n (xs.set i u) := by
  obtain ⟨⟨h1, h2⟩, h3⟩ := h
  refine ⟨⟨by simpa using h1, ?_⟩, h3⟩
  rcases h2 with ⟨rfl, _⟩ | ⟨g', cap, cur, rfl, hb, hh, k1, k2, k3, k4⟩
  · cases hg
  · injection hg with hg
    subst hg
    refine .inr ⟨g', cap, cur.setIfInBounds i u, rfl, hb, ?_, k1, k2, by simpa using k3, ?_⟩
    · simp [World.setCell, Array.getElem?_modify, hh]
    · rw [Array.toList_setIfInBounds, List.take_set, k4]
theorem Own.frozen {w : World} {F : Nat → Prop} {e : TypeId} {size n : Nat} {v : Value} {xs : List Value} (h : Own w F e size v n xs) {g : Nat} (hg : v.ownBlock = some g) (i : Nat) : w.frozen? ⟨g, i, none⟩ = false := by
  obtain ⟨cur, hc⟩ := h.typed g hg
  exact hc.frozen i
end Go.Tum
