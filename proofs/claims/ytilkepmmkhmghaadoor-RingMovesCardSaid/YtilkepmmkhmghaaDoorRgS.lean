/- The law's helper without; the law RingPicks, walked. -/
import Derived.Test.YtilkepmmkhmghaaDoorRgP
import Derived.Test.YtilkepmmkhmghaaDoorRing7
namespace Go.Proofs.YtilkepmmkhmghaaDoor
open Go.RowKit Go.Tum Go.Lib Go.Sort
set_option maxRecDepth 100000

structure WoI (w wr : World) (l : List Tx) (s : Tx) (i : Nat) (v : Value) : Prop where
  own : Own wr (fun g => w.heap.size ≤ g) 9 1 v (less1 (l.take i) s).length ((less1 (l.take i) s).map ks)
  hm : Mods No w wr
theorem less1_next {l : List Tx} {s : Tx} {i : Nat} {x : Tx} (h : l[i]? = some x) : less1 (l.take (i + 1)) s = if x = s then less1 (l.take i) s else less1 (l.take i) s ++ [x] := by
  unfold less1
  rw [take_nx h, List.filter_append, List.filter_cons]
  by_cases e : x = s <;> simp [e]
theorem WoI.stay {w wr : World} {l : List Tx} {s : Tx} {i : Nat} {v : Value} (h : WoI w wr l s i v) {x : Tx} (hx : l[i]? = some x) (e : x = s) : WoI w wr l s (i + 1) v := by
  have h1 := less1_next (s := s) hx
  rw [if_pos e] at h1
  exact ⟨by rw [h1]; exact h.own, h.hm⟩
theorem WoI.more {w wr w3 : World} {l : List Tx} {s : Tx} {i : Nat} {v u : Value} (h : WoI w wr l s i v) {x : Tx} (hx : l[i]? = some x) (e : ¬ x = s) {acc : List Tx} (hacc : acc = less1 (l.take i) s) {wx : World} (hm : Mods No wr wx)
    (h3 : Own w3 (fun k => v.ownBlock = some k ∨ k = wx.heap.size) 9 1 u (acc.length + 1) (acc.map ks ++ [ks x])) (hm3 : Mods (fun k => v.ownBlock = some k) wx w3) : WoI w w3 l s (i + 1) u := by
  subst hacc
  have h1 := less1_next (s := s) hx
  rw [if_neg e] at h1
  have hsz := Nat.le_trans h.hm.size hm.size
  refine ⟨?_, (h.hm.trans hm fun _ _ e => e).trans hm3 fun k hk e => absurd hk (Nat.not_lt.2 (h.own.2 k e))⟩
  rw [h1, List.map_append, List.length_append]
  refine h3.more fun g hg => ?_
  rcases hg with e | e
  · exact h.own.2 g e
  · exact e ▸ hsz
set_option maxHeartbeats 3200000 in
theorem without_K (w : World) (v : Value) (l : List Tx) (s : Tx) (hr : Rd w (fun g => g < w.heap.size) 1 v l.length (l.map ks)) (hl : l.length ≤ 65536) :
    Calls Tryd.prog 21 #[v, ks s] w (Ret fun u w' => Own w' (fun g => w.heap.size ≤ g) 9 1 u (less1 l s).length ((less1 l s).map ks) ∧ Mods No w w') := by
  obtain ⟨A, cp, rfl, hac, hmx⟩ := hr.form
  have Hhr := Lib.hid hr
  clear hr
  unfold ks
  go_enter Tryd.func21, Tryd.ntmps21
  go_wp2_with (first | ((with_reducible refine wp_region_por ?_ ?_ ?_ ?_); kernel_rfl; kernel_rfl; (with_reducible repeat (first | exact calm_ret | refine calm_then ?_ | refine calm_in ?_ | refine calm_chk ?_ | refine calm_noGoto ?_))) | ((with_reducible refine chk_end ?_ ?_); kernel_rfl))
  go_loopg [5, 6] l.length (fun k v5 v6 wr => ∃ (i : Nat), v6 = .int .i64 i ∧ i ≤ l.length ∧ k + i = l.length ∧ WoI w wr l s i v5)
  case atStart => exact ⟨0, rfl, Nat.zero_le _, rfl, Own.nil _ _ _ _, Mods.refl _ _⟩
  case round =>
    obtain ⟨i, rfl, hi, hki, hin⟩ := hrel
    have Hin := Lib.hid hin
    have Hki := Lib.hid hki
    obtain ⟨acc, hacc⟩ : ∃ acc, acc = less1 (l.take i) s := ⟨_, rfl⟩
    have ho := hin.own
    rw [← hacc] at ho
    have hac8 : acc.length ≤ 65536 := by rw [hacc]; have := List.length_filter_le (fun x => !decide (x = s)) (l.take i); rw [List.length_take] at this; unfold less1; omega
    have HA := Lib.hid hacc
    have HO := Lib.hid ho
    obtain ⟨A7, c7, rfl, _, _⟩ := ho.form
    clear hin hki hacc ho
    rcases Nat.lt_or_ge i l.length with h1 | h1
    · obtain ⟨x, hx⟩ := lt_get h1
      obtain ⟨b1, o1, rfl, _, x0⟩ := (Hhr.out.keep Hin.out.hm).tx rfl hx
      unfold ks at x0
      by_cases e : x = s
      · have hs : (x == s) = true := by simp [e]
        have Hst := Lib.hid (Hin.out.stay hx e)
        clear hx e
        go_wp2_with (first | ((with_reducible refine wp_region_por ?_ ?_ ?_ ?_); kernel_rfl; kernel_rfl; (with_reducible repeat (first | exact calm_ret | refine calm_then ?_ | refine calm_in ?_ | refine calm_chk ?_ | refine calm_noGoto ?_))) | ((with_reducible refine chk_end ?_ ?_); kernel_rfl))
        go_roundg (gk - 1)
        case rel => exact ⟨i + 1, by go_num, h1, by have := Hki.out; omega, Hst.out⟩
        case measure => have := Hki.out; omega
      · have hs : (x == s) = false := by simp [e]
        have Hx := Lib.hid (And.intro hx e)
        clear hx e
        go_wp2_with (first | (at_builtin; ((refine wpList_append _ rfl (.tmp 19) (.tmp 24) 22 rfl 9 (.string ⟨#[]⟩) 1 16 Tryd.underlying22 infoTx rfl (by decide) (F := fun g => w.heap.size ≤ g) (n := acc.length) (xs := acc.map ks) (by rfl) (HO.out.mods ((Mods.refl No wr).alloc (.cells #[ks x] 9)) fun _ _ e => e) (G := fun g => g = wr.heap.size) (y := .slice (some ⟨wr.heap.size, 0, none⟩) 1 1) (m := 1) (news := [ks x]) (by rfl) (Rd.box _ #[ks x] _ rfl rfl (by decide)) (fun u hu => by rw [List.mem_singleton.1 hu]; rfl) (by omega) (by decide) ?_); intro v8 w8 hown8 hm8 _; have HE8 := Lib.hid (Hin.out.more Hx.out.1 Hx.out.2 HA.out ((Mods.refl No wr).alloc (.cells #[ks x] 9)) hown8 hm8); obtain ⟨A8, c8, rfl, _, _⟩ := hown8.form; clear hown8 hm8)) | ((with_reducible refine wp_region_por ?_ ?_ ?_ ?_); kernel_rfl; kernel_rfl; (with_reducible repeat (first | exact calm_ret | refine calm_then ?_ | refine calm_in ?_ | refine calm_chk ?_ | refine calm_noGoto ?_))) | ((with_reducible refine chk_end ?_ ?_); kernel_rfl))
        go_roundg (gk - 1)
        case rel => exact ⟨i + 1, by go_num, h1, by have := Hki.out; omega, HE8.out⟩
        case measure => have := Hki.out; omega
    · obtain rfl : i = l.length := by omega
      go_wp2_with (first | ((with_reducible refine wp_region_por ?_ ?_ ?_ ?_); kernel_rfl; kernel_rfl; (with_reducible repeat (first | exact calm_ret | refine calm_then ?_ | refine calm_in ?_ | refine calm_chk ?_ | refine calm_noGoto ?_))) | ((with_reducible refine chk_end ?_ ?_); kernel_rfl))
      go_ret
      have hA := HA.out
      rw [List.take_length] at hA
      rw [← hA]
      exact ⟨HO.out, Hin.out.hm⟩
end Go.Proofs.YtilkepmmkhmghaaDoor
