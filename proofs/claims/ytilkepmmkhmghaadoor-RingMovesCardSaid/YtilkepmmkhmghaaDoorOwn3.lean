/- make and copy: a slice's elements in new memory. No program here. -/
import Derived.Test.YtilkepmmkhmghaaDoorOwn2
import Derived.Laws.OwnMore
import Derived.Laws.CopyRow
namespace Go.Tum
open Go.RowKit
theorem run_make_ {P : Program} (w : World) (t e : TypeId) (z : Value) (size bytes n : Nat) (ht : P.underlying t = some (.slice e)) (hinfo : (P.info? e).map (fun i => (i.zero, i.size, i.bytes)) = some (some z, size, bytes)) (hn : n * size ≤ 16777216) (hb : bytes * n ≤ 281474976710656) (hz : n ≤ 1048576) :
    (Instr.makeSlice t (.int .i64 (n : Int)) (.int .i64 (n : Int))).run P w = .ok (.slice (some ⟨w.heap.size, 0, none⟩) n n) (w.alloc (.cells (madeCells z.cells (n * size)) e)) := by
  rw [Option.map_eq_some_iff] at hinfo
  obtain ⟨i, hi, h⟩ := hinfo
  simp only [Prod.mk.injEq] at h
  obtain ⟨h1, h2, h3⟩ := h
  subst h2 h3
  rw [run_makeSlice (P := P) w t e i z ht hi h1 .i64 .i64 (n : Int) (n : Int) (by omega) (by omega) (by rw [Int.toNat_natCast]; exact hn) (by rw [← Int.natCast_mul]; exact Int.ofNat_le.2 hb) (by omega), Int.toNat_natCast]
theorem run_copy_rd {P : Program} {w : World} {F : Nat → Prop} (dT sT ty e : TypeId) {g n cap size : Nat} {v : Value} {xs : List Value} {cur : Array Value} (hu : P.underlying dT = some (.slice e)) (hs : (P.info? e).map (·.size) = some size) (hc : Cells w g e cur) (hcur : cur.size = n * size) (hr : Rd w F size v n xs) (h1 : ∀ u ∈ xs, u.oneCell' = true) :
    (Builtin.copy_ #[dT, sT] ty #[.slice (some ⟨g, 0, none⟩) n cap, v]).run P w = .ok (goInt n) (w.setRow g xs.toArray) := by
  obtain ⟨hl, A, c, rfl, _, _, h3⟩ := hr
  have hst := run_storeCells_at P g 0 e xs 0 cur w hc (by omega) h1
  have hrow : (cur.toList.take (0 + 0) ++ xs ++ cur.toList.drop (0 + 0 + xs.length)).toArray = xs.toArray := by
    have : cur.toList.length ≤ xs.length := by simp; omega
    simp [List.drop_eq_nil_of_le this]
  rw [hrow] at hst
  rw [Option.map_eq_some_iff] at hs
  obtain ⟨i, hi, rfl⟩ := hs
  rcases Nat.eq_zero_or_pos n with h0 | h0
  · subst h0
    obtain rfl : xs = [] := List.eq_nil_of_length_eq_zero (by omega)
    cases A with
    | none => simp [Builtin.copy_, run_underlying hu, Builtin.lenOf, Builtin.firstCells, sizeOf, typeInfo, hi] at hst ⊢; rw [hst]; rfl
    | some a => 
      have hld := run_loadCells_list (P := P) w a [] (fun j v h => by simp at h)
      simp at hld
      simp [Builtin.copy_, run_underlying hu, Builtin.lenOf, Builtin.firstCells, sizeOf, typeInfo, hi, hld] at hst ⊢; rw [hst]; rfl
  · obtain ⟨b, off, rfl, _, h5⟩ := h3 h0
    have hld := run_loadCells_list (P := P) w ⟨b, off, none⟩ xs fun j u hj => by rw [show (⟨b, off, none⟩ : Addr).add j = ⟨b, off + j, none⟩ by unfold Addr.add; split <;> simp_all]; exact h5 j u hj
    rw [hl] at hld
    simp [Builtin.copy_, run_underlying hu, Builtin.lenOf, Builtin.firstCells, sizeOf, typeInfo, hi, hld, hst]
theorem copied {w : World} {F : Nat → Prop} {e : TypeId} {n size : Nat} {v : Value} {xs : List Value} (hr : Rd w F size v n xs) (cs : Array Value) (hm : n ≤ maxLen) :
    Own ((w.alloc (.cells cs e)).setRow w.heap.size xs.toArray) (fun k => k = w.heap.size) e size (.slice (some ⟨w.heap.size, 0, none⟩) n n) n xs ∧ Mods No w ((w.alloc (.cells cs e)).setRow w.heap.size xs.toArray) := by
  have hl := hr.1
  have hk := Cells.new w e cs
  refine ⟨Own.mk_ (cur := xs.toArray) (setRow_heap _ _ _ _ _ _ hk) (Nat.le_refl _) hm (by simp [hl]) (by rw [← hl]; simp), rfl, rfl, rfl, by simp [World.setRow, World.size_alloc], fun b hb _ => ?_⟩
  have hne : w.heap.size ≠ b := fun e => by subst e; exact Nat.lt_irrefl _ hb
  have : (w.alloc (.cells cs e)).heap[b]? = w.heap[b]? := Below.heap_alloc w _ b hb
  simp [World.setRow, Array.getElem?_modify, hne, this]
end Go.Tum
