/- The reference's ring: has; in memory. -/
import Derived.Test.YtcifajfmdpjfiaaDoorRfB
import Derived.Test.YtcifajfmdpjfiaaDoorMPl
namespace Go.Proofs.YtcifajfmdpjfiaaDoor
open Go.RowKit Go.Tum Go.Lib Go.Sort
set_option maxRecDepth 100000
set_option maxHeartbeats 1600000 in
theorem has_K (w : World) (F : Nat → Prop) (v : Value) (l : List Tx) (s : Tx) (hr : Rd w F 1 v l.length (l.map ks)) : Calls Tryd.prog 43 #[v, ks s] w (Ret fun u w' => u = .bool (decide (s ∈ l)) ∧ w = w') := by
  obtain ⟨A, c, rfl, hac, hmx⟩ := hr.form
  unfold maxLen at hmx
  have Hhr := Lib.hid hr
  clear hr
  unfold ks
  go_enter Tryd.func43, Tryd.ntmps43
  go_wp2_with (first | ((with_reducible refine wp_region_por ?_ ?_ ?_ ?_); kernel_rfl; kernel_rfl; (with_reducible repeat (first | exact calm_ret | refine calm_then ?_ | refine calm_in ?_ | refine calm_chk ?_ | refine calm_noGoto ?_))) | ((with_reducible refine chk_end ?_ ?_); kernel_rfl))
  go_loopg [5] l.length (fun k v5 wr => ∃ i : Nat, v5 = .int .i64 i ∧ i ≤ l.length ∧ k + i = l.length ∧ s ∉ l.take i ∧ wr = w)
  case atStart => exact ⟨0, rfl, Nat.zero_le _, rfl, by simp, rfl⟩
  case round =>
    obtain ⟨i, rfl, hi, hki, hno, rfl⟩ := hrel
    have Hki := Lib.hid hki
    have Hno := Lib.hid hno
    clear hki hno
    rcases Nat.lt_or_ge i l.length with h1 | h1
    · obtain ⟨x, hx⟩ := lt_get h1
      obtain ⟨b, o, rfl, _, x0⟩ := Hhr.out.tx rfl hx
      unfold ks at x0
      by_cases e : x = s
      · have hs : (x == s) = true := by simp [e]
        have He := Lib.hid (show decide (s ∈ l) = true from decide_eq_true (e ▸ List.mem_of_getElem? hx))
        clear hx e
        go_wp2_with (first | ((with_reducible refine wp_region_por ?_ ?_ ?_ ?_); kernel_rfl; kernel_rfl; (with_reducible repeat (first | exact calm_ret | refine calm_then ?_ | refine calm_in ?_ | refine calm_chk ?_ | refine calm_noGoto ?_))) | ((with_reducible refine chk_end ?_ ?_); kernel_rfl))
        go_ret
        exact ⟨by rw [He.out]; rfl, rfl⟩
      · have hs : (x == s) = false := by simp [e]
        have Hx := Lib.hid (And.intro hx e)
        clear hx e
        go_wp2_with (first | ((with_reducible refine wp_region_por ?_ ?_ ?_ ?_); kernel_rfl; kernel_rfl; (with_reducible repeat (first | exact calm_ret | refine calm_then ?_ | refine calm_in ?_ | refine calm_chk ?_ | refine calm_noGoto ?_))) | ((with_reducible refine chk_end ?_ ?_); kernel_rfl))
        go_roundg (gk - 1)
        case rel => exact ⟨i + 1, by go_num, h1, by have := Hki.out; omega, fun h => by
          rw [take_nx Hx.out.1] at h
          rcases List.mem_append.1 h with h | h
          · exact Hno.out h
          · exact Hx.out.2 (List.mem_singleton.1 h).symm, rfl⟩
        case measure => have := Hki.out; omega
    · obtain rfl : i = l.length := by omega
      go_wp2_with (first | ((with_reducible refine wp_region_por ?_ ?_ ?_ ?_); kernel_rfl; kernel_rfl; (with_reducible repeat (first | exact calm_ret | refine calm_then ?_ | refine calm_in ?_ | refine calm_chk ?_ | refine calm_noGoto ?_))) | ((with_reducible refine chk_end ?_ ?_); kernel_rfl))
      go_ret
      have h := Hno.out
      rw [List.take_length] at h
      exact ⟨by rw [decide_eq_false h]; rfl, rfl⟩
/-- What was there at the call, but the ring's own block. -/
abbrev But (w : World) (r : Nat) : Nat → Prop := fun g => g < w.heap.size ∧ g ≠ r
/-- The reference's ring at r: c copies, nodes N, places L. -/
structure RfK (w : World) (r c : Nat) (nv pv : Value) (N : List Tx) (L : List Plc) : Prop where
  cells : Cells w r 33 #[.int .i64 (c : Int), nv, pv]
  nown : Own w (But w r) 9 1 nv N.length (N.map ks)
  pown : Own w (But w r) 103 2 pv L.length (plcs L)
theorem RfK.nrd {w : World} {r c : Nat} {nv pv : Value} {N : List Tx} {L : List Plc} (h : RfK w r c nv pv N L) : Rd w (But w r) 1 nv N.length (N.map ks) := h.nown.rd
theorem RfK.prd {w : World} {r c : Nat} {nv pv : Value} {N : List Tx} {L : List Plc} (h : RfK w r c nv pv N L) : Rd w (But w r) 2 pv L.length (plcs L) := h.pown.rd
theorem _root_.Go.Tum.Own.but {w w' : World} {r size n : Nat} {e : TypeId} {v : Value} {xs : List Value} (h : Tum.Own w (But w r) e size v n xs) (hm : Mods (fun k => k = r) w w') : Tum.Own w' (But w' r) e size v n xs :=
  (Tum.Own.mods h hm fun g hg e => (h.2 g hg).2 e).more fun _ e => ⟨Nat.lt_of_lt_of_le e.1 hm.size, e.2⟩
theorem RfK.no {w w' : World} {r c : Nat} {nv pv : Value} {N : List Tx} {L : List Plc} (h : RfK w r c nv pv N L) (hm : Mods No w w') : RfK w' r c nv pv N L :=
  ⟨h.cells.mods hm fun e => e, h.nown.but (hm.mono fun _ _ e => e.elim), h.pown.but (hm.mono fun _ _ e => e.elim)⟩
end Go.Proofs.YtcifajfmdpjfiaaDoor
