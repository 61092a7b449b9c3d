/- More words for memory: a cell of an owned row is written. -/
import Derived.Test.YtilkepmmkhmghaaDoorBase
namespace Go.Tum
open Go.RowKit
theorem Own.set {w : World} {F : Nat → Prop} {e : TypeId} {size n : Nat} {v : Value} {xs : List Value} (h : Own w F e size v n xs) {g : Nat} (hg : v.ownBlock = some g) (i : Nat) (u : Value) : Own (w.setCell ⟨g, i, none⟩ u) F e size v n (xs.set i u) := by
  obtain ⟨⟨h1, h2⟩, h3⟩ := h
  refine ⟨⟨by simpa using h1, ?_⟩, h3⟩
  rcases h2 with ⟨rfl, _⟩ | ⟨g', cap, cur, rfl, hb, hh, k1, k2, k3, k4⟩
  · cases hg
  · injection hg with hg
    subst hg
    refine .inr ⟨g', cap, cur.setIfInBounds i u, rfl, hb, ?_, k1, k2, by simpa using k3, ?_⟩
    · simp [World.setCell, Array.getElem?_modify, hh]
    · rw [Array.toList_setIfInBounds, List.take_set, k4]
theorem Own.frozen {w : World} {F : Nat → Prop} {e : TypeId} {size n : Nat} {v : Value} {xs : List Value} (h : Own w F e size v n xs) {g : Nat} (hg : v.ownBlock = some g) (i : Nat) : w.frozen? ⟨g, i, none⟩ = false := by
  obtain ⟨cur, hc⟩ := h.typed g hg
  exact hc.frozen i
theorem Own.take {w : World} {F : Nat → Prop} {e : TypeId} {size n : Nat} {A : Option Addr} {c : Nat} {xs : List Value} (h : Own w F e size (.slice A n c) n xs) {m : Nat} (hm : m ≤ n) : Own w F e size (.slice A m c) m (xs.take (m * size)) := by
  obtain ⟨⟨h1, h2⟩, h3⟩ := h
  have hmn : m * size ≤ n * size := Nat.mul_le_mul_right _ hm
  refine ⟨⟨by rw [List.length_take, h1, Nat.min_eq_left hmn], ?_⟩, fun g hg => h3 g (by cases A <;> exact hg)⟩
  rcases h2 with ⟨e1, rfl⟩ | ⟨g, cap, cur, e1, hb, hh, k1, k2, k3, k4⟩
  · injection e1 with e1 _ e3
    subst e1 e3
    obtain rfl : m = 0 := by omega
    exact .inl ⟨rfl, rfl⟩
  · injection e1 with e1 _ e3
    subst e1 e3
    refine .inr ⟨g, c, cur, rfl, hb, hh, by omega, k2, k3, ?_⟩
    rw [← k4, List.take_take, Nat.min_eq_left hmn]
theorem Own.far {w : World} {F : Nat → Prop} {e : TypeId} {size n : Nat} {v : Value} {xs : List Value} (h : Own w F e size v n xs) {p : Addr} (hp : v.ownBlock ≠ some p.block) (u : Value) : Own (w.setCell p u) F e size v n xs := by
  have h2 := h.tight.same (w' := w.setCell p u) fun k hk => Below.heap_setCell w p u k (by rintro rfl; exact hp hk)
  exact ⟨h2.1, h.2⟩
theorem Own.mods {w w' : World} {F S : Nat → Prop} {e : TypeId} {size n : Nat} {v : Value} {xs : List Value} (h : Own w F e size v n xs) (hM : Mods S w w') (hS : ∀ g, v.ownBlock = some g → ¬ S g) : Own w' F e size v n xs := by
  have h2 := h.tight.same (w' := w') fun k hk => hM.block k (h.lt k hk) (hS k hk)
  exact ⟨h2.1, h.2⟩
theorem results_pair {P : Program} {fn : Func} {p u : Tmp} {ty : TypeId} (h : fn.results = #[.cell p ty, .tmp u]) (tmps : Array Value) (w : World) (g : Nat) (t : TypeId) (cs : Array Value) (fr : Nat × Nat) (d : TypeDesc)
    (hp : tmps.getD p undef = .pointer (some ⟨g, 0, none⟩)) (hg : w.heap[g]? = some (.cells cs t fr))
    (hu : P.underlying ty = some d) (hd : (match d with | .struct _ | .array _ _ => true | _ => false) = true) (hi : (P.info? ty).map (·.size) = some cs.size) :
    (results fn tmps).run P w = .ok (.tuple #[.agg cs, tmps.getD u undef]) w := by
  rw [results_cell_tmp h, hp]
  simp [asAddr, run_loadVar_row w g t ty cs fr d hg hu hd hi]
end Go.Tum
