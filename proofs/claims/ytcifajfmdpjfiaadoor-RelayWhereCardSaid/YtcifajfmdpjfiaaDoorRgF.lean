/- Package ring: places sorted, places taken out. -/
import Derived.Test.YtcifajfmdpjfiaaDoorMRg
import Derived.WalkSpells
import Derived.Laws.CopyRow
namespace Go.Tum
open Go.RowKit
theorem run_clear_cells {P : Program} {w : World} {g o m c : Nat} {e : TypeId} {cur : Array Value} (t ty : TypeId) (z : Value) (ht : P.underlying t = some (.slice e)) (hz : ∀ w, (zeroValue e).run P w = .ok z w) (hc : Cells w g e cur) (hm : 0 < m) (hfit : o + m * z.cells.size ≤ cur.size) (h1 : ∀ u ∈ z.cells.toList, u.oneCell' = true) :
    ∃ w' cur', (Builtin.clear_ #[t] ty #[.slice (some ⟨g, o, none⟩) m c]).run P w = .ok (.tuple #[]) w' ∧ Cells w' g e cur' ∧ cur'.size = cur.size ∧ (∀ j, j < o → cur'[j]? = cur[j]?) ∧ Mods (fun k => k = g) w w' := by
  have hl : (Builtin.zeroCells z.cells m).toList.length = m * z.cells.size := by simp [Builtin.zeroCells]
  have hst := run_storeCells_at P g o e (Builtin.zeroCells z.cells m).toList 0 cur w hc (by rw [hl]; omega) (fun u hu => by
    simp only [Builtin.zeroCells, Array.toList_map, List.mem_map] at hu
    obtain ⟨i, hi, rfl⟩ := hu
    have hi' : i < m * z.cells.size := by simpa using hi
    have hpos : 0 < z.cells.size := by
      rcases Nat.eq_zero_or_pos z.cells.size with h | h
      · rw [h] at hi'; simp at hi'
      · exact h
    have hlt := Nat.mod_lt i hpos
    rw [getElem!_pos z.cells _ hlt]
    exact h1 _ (by simp))
  obtain ⟨cur', hcur⟩ : ∃ cur', cur' = (cur.toList.take (o + 0) ++ (Builtin.zeroCells z.cells m).toList ++ cur.toList.drop (o + 0 + (Builtin.zeroCells z.cells m).toList.length)).toArray := ⟨_, rfl⟩
  rw [← hcur] at hst
  obtain ⟨k, hk⟩ : ∃ k, m = k + 1 := ⟨m - 1, by omega⟩
  refine ⟨w.setRow g cur', cur', ?_, setRow_heap w g cur cur' e _ hc, ?_, fun j hj => ?_, ?_⟩
  · subst hk
    simp [Builtin.clear_, run_underlying ht, hz, hst]
  · rw [hcur]; simp [hl]; omega
  · rw [hcur]
    simp only [List.getElem?_toArray]
    rw [List.getElem?_append_left (by simp; omega), List.getElem?_append_left (by simp; omega), List.getElem?_take_of_lt (by omega)]
    simp
  · refine ⟨rfl, rfl, rfl, by simp [World.setRow], fun b _ hb => ?_⟩
    have : g ≠ b := fun e => hb e.symm
    simp [World.setRow, Array.getElem?_modify, this]
/-- clear(s[i:]) -/
theorem wpList_clear_cells {P : Program} (w : World) {ops : Array Oper} {rest : List Oper} {o : Oper} {a : Act} {Q : Exit → Act → World → Prop} (hg : o.guard = none) (x : Operand) (t : TypeId) (hop : o.op = .call { callee := .builtin .clear, args := #[x], argTypes := #[t] })
    (e : TypeId) (z : Value) (ht : P.underlying t = some (.slice e)) (hz : ∀ w, (zeroValue e).run P w = .ok z w) (g off m c : Nat) (cur : Array Value) (hx : a.eval x = .slice (some ⟨g, off, none⟩) m c) (hc : Cells w g e cur) (hm : 0 < m) (hfit : off + m * z.cells.size ≤ cur.size) (h1 : ∀ u ∈ z.cells.toList, u.oneCell' = true)
    (hK : ∀ w' cur', Cells w' g e cur' → cur'.size = cur.size → (∀ j, j < off → cur'[j]? = cur[j]?) → Mods (fun k => k = g) w w' → wpList P ops Q rest (a.put o.dst (.tuple #[])) w') : wpList P ops Q (o :: rest) a w := by
  refine wpList_plain hg fun K' hK' => ?_
  obtain ⟨w', cur', hrun, r1, r2, r3, r4⟩ := run_clear_cells t o.type z ht hz hc hm hfit h1
  unfold Oper.wp
  simp [execOp, hop, resolve, invoke, builtin, hx, Result.andThen]
  rw [hrun]
  exact hK' _ _ (hK w' cur' r1 r2 r3 r4)
end Go.Tum
namespace Go.Proofs.YtcifajfmdpjfiaaDoor
open Go.RowKit Go.Tum Go.Lib Go.Sort
set_option maxRecDepth 100000
def sortL__ren : Go.Shelf.Ren := ⟨fun | 6 => 56 | 15 => 68 | 14 => 67 | 28 => 84 | 29 => 85 | 20 => 76 | 21 => 77 | 22 => 78 | 23 => 79 | 24 => 80 | 25 => 81 | 26 => 82 | 27 => 83 | 46 => 93 | 47 => 94 | 48 => 95 | 49 => 96 | 50 => 97 | 57 => 103 | n => n, fun | 22 => 31 | 24 => 103 | 25 => 116 | 3 => 3 | 39 => 123 | 0 => 0 | 53 => 130 | 55 => 41 | 4 => 4 | 46 => 138 | 45 => 137 | 50 => 100 | 5 => 5 | 9 => 9 | 66 => 151 | 70 => 155 | 76 => 162 | 77 => 163 | n => n, fun | n => n⟩
set_option maxRecDepth 100000 in
theorem sortL_ : Go.Proofs.SlLaysF0.n6 Tryd.prog sortL__ren := {
  mixed := by kernel_rfl,
  f6 := ⟨Tryd.f56.name, by decide, Tryd.func56.trans (congrArg some (by kernel_rfl))⟩,
  f14 := ⟨Tryd.f67.name, by decide, Tryd.func67.trans (congrArg some (by kernel_rfl))⟩,
  f15 := Tryd.func68.trans (congrArg some (by kernel_rfl)),
  f20 := ⟨Tryd.f76.name, by decide, Tryd.func76.trans (congrArg some (by kernel_rfl))⟩,
  f21 := ⟨Tryd.f77.name, by decide, Tryd.func77.trans (congrArg some (by kernel_rfl))⟩,
  f22 := ⟨Tryd.f78.name, by decide, Tryd.func78.trans (congrArg some (by kernel_rfl))⟩,
  f23 := ⟨Tryd.f79.name, by decide, Tryd.func79.trans (congrArg some (by kernel_rfl))⟩,
  f24 := ⟨Tryd.f80.name, by decide, Tryd.func80.trans (congrArg some (by kernel_rfl))⟩,
  f25 := ⟨Tryd.f81.name, by decide, Tryd.func81.trans (congrArg some (by kernel_rfl))⟩,
  f26 := ⟨Tryd.f82.name, by decide, Tryd.func82.trans (congrArg some (by kernel_rfl))⟩,
  f27 := ⟨Tryd.f83.name, by decide, Tryd.func83.trans (congrArg some (by kernel_rfl))⟩,
  f28 := Tryd.func84.trans (congrArg some (by kernel_rfl)),
  f29 := Tryd.func85.trans (congrArg some (by kernel_rfl)),
  f46 := ⟨Tryd.f93.name, by decide, Tryd.func93.trans (congrArg some (by kernel_rfl))⟩,
  f47 := Tryd.func94.trans (congrArg some (by kernel_rfl)),
  f48 := Tryd.func95.trans (congrArg some (by kernel_rfl)),
  f49 := ⟨Tryd.f96.name, by decide, Tryd.func96.trans (congrArg some (by kernel_rfl))⟩,
  f50 := ⟨Tryd.f97.name, by decide, Tryd.func97.trans (congrArg some (by kernel_rfl))⟩,
  f57 := ⟨Tryd.f103.name, by decide, Tryd.func103.trans (congrArg some (by kernel_rfl))⟩,
  t0 := Tryd.underlying0,
  a0 := Tryd.isAgg0,
  z0 := Tryd.sizeOf0,
  v0 := Tryd.zeroValue0,
  t3 := Tryd.underlying3,
  a3 := Tryd.isAgg3,
  z3 := Tryd.sizeOf3,
  v3 := Tryd.zeroValue3,
  t4 := Tryd.underlying4,
  a4 := Tryd.isAgg4,
  z4 := Tryd.sizeOf4,
  v4 := Tryd.zeroValue4,
  t5 := Tryd.underlying5,
  a5 := Tryd.isAgg5,
  z5 := Tryd.sizeOf5,
  v5 := Tryd.zeroValue5,
  t9 := Tryd.underlying9,
  a9 := Tryd.isAgg9,
  z9 := Tryd.sizeOf9,
  v9 := Tryd.zeroValue9,
  t22 := Tryd.underlying31,
  a22 := Tryd.isAgg31,
  z22 := Tryd.sizeOf31,
  v22 := Tryd.zeroValue31,
  t25 := Tryd.underlying116,
  a25 := Tryd.isAgg116,
  z25 := Tryd.sizeOf116,
  v25 := Tryd.zeroValue116,
  t39 := Tryd.underlying123,
  a39 := Tryd.isAgg123,
  z39 := Tryd.sizeOf123,
  v39 := Tryd.zeroValue123,
  t45 := Tryd.underlying137,
  a45 := Tryd.isAgg137,
  z45 := Tryd.sizeOf137,
  v45 := Tryd.zeroValue137,
  t46 := Tryd.underlying138,
  a46 := Tryd.isAgg138,
  z46 := Tryd.sizeOf138,
  v46 := Tryd.zeroValue138,
  t50 := Tryd.underlying100,
  a50 := Tryd.isAgg100,
  z50 := Tryd.sizeOf100,
  v50 := Tryd.zeroValue100,
  t53 := Tryd.underlying130,
  a53 := Tryd.isAgg130,
  z53 := Tryd.sizeOf130,
  v53 := Tryd.zeroValue130,
  t55 := Tryd.underlying41,
  a55 := Tryd.isAgg41,
  z55 := Tryd.sizeOf41,
  v55 := Tryd.zeroValue41,
  t66 := Tryd.underlying151,
  a66 := Tryd.isAgg151,
  z66 := Tryd.sizeOf151,
  v66 := Tryd.zeroValue151,
  t70 := Tryd.underlying155,
  a70 := Tryd.isAgg155,
  z70 := Tryd.sizeOf155,
  v70 := Tryd.zeroValue155,
  t76 := Tryd.underlying162,
  a76 := Tryd.isAgg162,
  z76 := Tryd.sizeOf162,
  v76 := Tryd.zeroValue162,
  t77 := Tryd.underlying163,
  a77 := Tryd.isAgg163,
  z77 := Tryd.sizeOf163,
  v77 := Tryd.zeroValue163 }
theorem cmpLaysP (blk off size : Nat) (w : World) : CmpLays Tryd.prog 57 #[] pl 2 cmpP blk off size w := fun _ _ _ _ x y =>
  (order_G _ x y).mono fun e w' he => by
    cases e with
    | returned v => obtain ⟨rfl, q, os, h⟩ := he; exact ⟨rfl, q, os, h⟩
    | panicked c => exact he.elim
    | outgrown => exact he.elim
theorem ltOf_cmpP (a b : Plc) : ltOf cmpP a b = ltP a b := cmpP_lt a b
theorem swoP : SWO (ltOf cmpP) where
  irrefl x := by rw [ltOf_cmpP]; exact sto_P.irrefl x
  trans x y z h1 h2 := by rw [ltOf_cmpP] at *; exact sto_P.trans _ _ _ h1 h2
  ntrans x y z h1 h2 := by rw [ltOf_cmpP] at *; exact sto_P.le_trans h2 h1
theorem totP (x y : Plc) (h1 : ltOf cmpP x y = false) (h2 : ltOf cmpP y x = false) : x = y := by
  rw [ltOf_cmpP] at h1 h2
  exact sto_P.eq_of h1 h2
theorem sort_K (w : World) (F : Nat → Prop) (v : Value) (L : List Plc) (h : Own w F 103 2 v L.length (plcs L)) (hn : L.length ≤ 65536) :
    Calls Tryd.prog 56 #[v, .func (.func 57) #[] #[]] w (Ret fun _ w' => Own w' F 103 2 v L.length (plcs (sortL ltP L)) ∧ Mods F w w') := by
  rcases Nat.eq_zero_or_pos L.length with hz | hz
  · obtain ⟨A, c, rfl, _, _⟩ := h.form
    obtain rfl : L = [] := List.eq_nil_of_length_eq_zero hz
    have hl : sortL ltP ([] : List Plc) = [] := by simp [sortL]
    refine (AnyF.slices_SortFunc_none sortL_ A c (.func (.func 57) #[] #[]) w).mono fun e w' ⟨e1, e2⟩ => ?_
    subst e1 e2
    exact ⟨by rw [hl]; exact h, Mods.refl _ _⟩
  · obtain ⟨g, c, rfl, hg, hc, _⟩ := h.cells hz
    obtain ⟨cur, hcur⟩ := h.typed g rfl
    have hsz : L.toArray.size = L.length := by simp
    have hcon := AnyQ.slices_SortFunc_total sortL_ 2 Tryd.isAgg103 Tryd.sizeOf103 pl pl_len pl_one cmpP swoP 57 #[] g 0 c L.toArray w
      (enters_of Tryd.func57 (by kernel_rfl) rfl) (cmpLaysP _ _ _ _) (own_holdsK pl_len rfl h) hcur.lt (by rw [hsz]; omega) totP
    rw [hsz] at hcon
    refine hcon.mono fun e w' ⟨e1, m, os, e2⟩ => ?_
    subst e1 e2
    have e3 : (L.toArray.toList.mergeSort fun x y => !(ltOf cmpP) y x) = sortL ltP L := by
      unfold sortL
      congr 1
      funext x y
      rw [ltOf_cmpP]
    rw [e3]
    obtain ⟨k1, k2⟩ := own_sorted pl_len (by rw [(sortL_perm ltP L).length_eq]) h m os
    exact ⟨k1, k2.mono fun _ _ e => e ▸ hg⟩
end Go.Proofs.YtcifajfmdpjfiaaDoor
