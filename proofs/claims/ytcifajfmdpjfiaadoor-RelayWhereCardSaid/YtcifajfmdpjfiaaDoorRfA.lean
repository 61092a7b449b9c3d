/- Package tumblerref01: numbers, as far as tumblerref13 prints them. -/
import Derived.Test.YtcifajfmdpjfiaaDoorRgP
import Derived.Shelf.Spec.TrailingZeros
namespace Go.Proofs.YtcifajfmdpjfiaaDoor
open Go.RowKit Go.Tum Go.Lib Go.Sort
set_option maxRecDepth 100000
def vus (l : List Nat) : List Value := l.map fun (x : Nat) => Value.int .u32 ((x : Nat) : Int)
theorem infoU32 : (Tryd.prog.info? 130).map (fun i => (i.zero, i.size, i.bytes)) = some (some (.int .u32 0), 1, 4) := by kernel_rfl
def TrimIs (v : Value) (xs : List Nat) (u : Value) : Prop := ∃ A c m, v = .slice A xs.length c ∧ u = .slice A m c ∧ m ≤ xs.length ∧ (∀ j x, m ≤ j → xs[j]? = some x → x = 0) ∧ (∀ j x, m = j + 1 → xs[j]? = some x → x ≠ 0)
theorem vus_at {w : World} {F : Nat → Prop} {A : Option Addr} {c n : Nat} {l : List Nat} (h : Rd w F 1 (.slice A n c) n (vus l)) (hn : l.length = n) {i x : Nat} (hx : l[i]? = some x) :
    ∃ b off, A = some ⟨b, off, none⟩ ∧ F b ∧ w.cell? ⟨b, off + i, none⟩ = some (.int .u32 (x : Int)) := by
  subst hn
  obtain ⟨hi, _⟩ := List.getElem?_eq_some_iff.1 hx
  obtain ⟨b, off, c', e, hF, hc⟩ := h.cells (by omega)
  injection e with e
  refine ⟨b, off, e, hF, ?_⟩
  rw [hc _ (by omega), vus, List.getElem?_map, hx]; rfl
set_option maxHeartbeats 1600000 in
theorem trim_K (w : World) (F : Nat → Prop) (v : Value) (xs : List Nat) (hr : Rd w F 1 v xs.length (vus xs)) : Calls Tryd.prog 70 #[v] w (Ret fun u w' => TrimIs v xs u ∧ w = w') := by
  obtain ⟨A, c, rfl, hac, hmx⟩ := hr.form
  unfold maxLen at hmx
  obtain ⟨n, hn⟩ : ∃ n, n = xs.length := ⟨_, rfl⟩
  rw [← hn] at hr hac ⊢
  have HN := Lib.hid hn
  clear hn
  have Hhr := Lib.hid hr
  clear hr
  go_enter Tryd.func70, Tryd.ntmps70
  go_wp2_with (first | ((with_reducible refine wp_region_por ?_ ?_ ?_ ?_); kernel_rfl; kernel_rfl; (with_reducible repeat (first | exact calm_ret | refine calm_then ?_ | refine calm_in ?_ | refine calm_chk ?_ | refine calm_noGoto ?_))) | ((with_reducible refine chk_end ?_ ?_); kernel_rfl))
  go_loopg [0] n (fun k v0 wr => ∃ m : Nat, v0 = .slice A m c ∧ k = m ∧ m ≤ n ∧ (∀ j x, m ≤ j → xs[j]? = some x → x = 0) ∧ wr = w)
  case atStart => exact ⟨n, rfl, rfl, Nat.le_refl _, fun j x hj hx => (by rw [List.getElem?_eq_none (by rw [← HN.out]; exact hj)] at hx; cases hx), rfl⟩
  case round =>
    obtain ⟨m, rfl, hk, hm, hz, rfl⟩ := hrel
    have Hk := Lib.hid hk
    have Hz := Lib.hid hz
    clear hk hz
    rcases m with _ | m
    · go_wp2_with (first | ((with_reducible refine wp_region_por ?_ ?_ ?_ ?_); kernel_rfl; kernel_rfl; (with_reducible repeat (first | exact calm_ret | refine calm_then ?_ | refine calm_in ?_ | refine calm_chk ?_ | refine calm_noGoto ?_))) | ((with_reducible refine chk_end ?_ ?_); kernel_rfl))
      go_ret
      exact ⟨⟨A, c, 0, by rw [HN.out], rfl, Nat.zero_le _, Hz.out, fun j x e => by cases e⟩, rfl⟩
    · have hml : m < xs.length := by rw [← HN.out]; omega
      obtain ⟨x, hx⟩ := lt_get hml
      obtain ⟨b, off, rfl, _, x0⟩ := vus_at Hhr.out HN.out.symm hx
      by_cases h0 : x = 0
      · have h0' : ((x : Int) == 0) = true := by simp [h0]
        have Hx := Lib.hid (And.intro hx h0)
        clear hx h0 hml
        go_wp2_with (first | ((with_reducible refine wp_region_por ?_ ?_ ?_ ?_); kernel_rfl; kernel_rfl; (with_reducible repeat (first | exact calm_ret | refine calm_then ?_ | refine calm_in ?_ | refine calm_chk ?_ | refine calm_noGoto ?_))) | ((with_reducible refine chk_end ?_ ?_); kernel_rfl))
        go_roundg (gk - 1)
        case rel => exact ⟨m, rfl, by have := Hk.out; omega, by omega, fun j y hj hy => by
          rcases Nat.lt_or_ge m j with h | h
          · exact Hz.out j y h hy
          · obtain rfl : j = m := by omega
            rw [Hx.out.1] at hy; injection hy with hy; rw [← hy]; exact Hx.out.2, rfl⟩
        case measure => have := Hk.out; omega
      · have h0' : ((x : Int) == 0) = false := by rw [beq_eq_false_iff_ne]; omega
        have Hx := Lib.hid (And.intro hx h0)
        clear hx h0 hml
        go_wp2_with (first | ((with_reducible refine wp_region_por ?_ ?_ ?_ ?_); kernel_rfl; kernel_rfl; (with_reducible repeat (first | exact calm_ret | refine calm_then ?_ | refine calm_in ?_ | refine calm_chk ?_ | refine calm_noGoto ?_))) | ((with_reducible refine chk_end ?_ ?_); kernel_rfl))
        go_ret
        exact ⟨⟨_, c, m + 1, by rw [HN.out], rfl, by rw [← HN.out]; exact hm, Hz.out, fun j y e hy => by
          obtain rfl : j = m := by omega
          rw [Hx.out.1] at hy; injection hy with hy; rw [← hy]; exact Hx.out.2⟩, rfl⟩
set_option maxHeartbeats 1600000 in
theorem make2_K (w : World) (F : Nat → Prop) (v : Value) (xs : List Nat) (hr : Rd w F 1 v xs.length (vus xs)) (hF : ∀ g, F g → g < w.heap.size) : Calls Tryd.prog 87 #[.bool false, v] w (Ret fun u w' => (∃ l, u = .agg #[.bool false, l] ∧ TrimIs v xs l) ∧ Mods No w w') := by
  have htr := fun w' (hm : Mods No w w') => trim_K w' F v xs (hr.same (hm.same fun k hk => ⟨hF k hk, fun e => e⟩))
  obtain ⟨A, c, rfl, hac, hmx⟩ := hr.form
  have Hhr := Lib.hid hr
  clear hr
  have Hhtr := Lib.hid htr
  clear htr
  go_enter Tryd.func87, Tryd.ntmps87
  go_wp2_with (first | (go_at_call 70; (refine ret_use (Hhtr.out _ (by repeat (first | exact Mods.refl _ _ | apply Mods.alloc | apply Mods.drew))) ?_; rintro v w2 ⟨ht2, rfl⟩; have HT2 := Lib.hid ht2; obtain ⟨A2, c2, m2, e1, rfl, _, _, _⟩ := ht2)) | ((with_reducible refine wp_region_por ?_ ?_ ?_ ?_); kernel_rfl; kernel_rfl; (with_reducible repeat (first | exact calm_ret | refine calm_then ?_ | refine calm_in ?_ | refine calm_chk ?_ | refine calm_noGoto ?_))) | ((with_reducible refine chk_end ?_ ?_); kernel_rfl))
  refine bodyPost_ret (results_cell_row rfl _ _ w.heap.size 120 _ (0, 0) _ rfl (Cells.new w _ _) Tryd.underlying120 rfl rfl) rfl ?_
  exact ⟨⟨_, rfl, HT2.out⟩, by repeat (first | exact Mods.refl _ _ | apply Mods.alloc | apply Mods.drew)⟩
theorem of_K (w : World) (i : Nat) (hi : i < 65536) : Calls Tryd.prog 72 #[.int .i64 (i : Int)] w (Ret fun u w' => u = .agg #[.int .i64 0, .int .u64 (i : Int)] ∧ Mods No w w') := by
  go_enter Tryd.func72, Tryd.ntmps72
  go_wp2_with (first | ((with_reducible refine wp_region_por ?_ ?_ ?_ ?_); kernel_rfl; kernel_rfl; (with_reducible repeat (first | exact calm_ret | refine calm_then ?_ | refine calm_in ?_ | refine calm_chk ?_ | refine calm_noGoto ?_))) | ((with_reducible refine chk_end ?_ ?_); kernel_rfl))
  refine bodyPost_ret (results_cell_row rfl _ _ w.heap.size 43 _ (0, 0) _ rfl (Cells.new w _ _) Tryd.underlying43 rfl rfl) rfl ?_
  exact ⟨rfl, by repeat (first | exact Mods.refl _ _ | apply Mods.alloc | apply Mods.drew)⟩
theorem and_low (i : Nat) (hi : i < 65536) : bits .and .u32 (i : Int) 65535 = (i : Int) := by
  have h := bits_and_u32_nat i 65535 (by omega) (by omega)
  rw [show ((65535 : Nat) : Int) = 65535 from rfl] at h
  rw [h, show (65535 : Nat) = 2 ^ 16 - 1 from rfl, Nat.and_two_pow_sub_one_eq_mod, Nat.mod_eq_of_lt (by omega)]
theorem and_zero' : bits .and .u32 0 65535 = 0 := by decide
theorem u32_one (x : Int) : ∀ u ∈ [Value.int .u32 x], u.oneCell' = true := fun u hu => by rw [List.mem_singleton.1 hu]; rfl
/-- Between two rounds of From's loops. -/
structure FrI (w W wr : World) (i m : Nat) (v : Value) : Prop where
  own : Own wr (fun g => W.heap.size ≤ g) 130 1 v m (vus ([i, 0, 0, 0, 0, 0, 0, 0].take m))
  hm : Mods No W wr
theorem FrI.more {w W wr w3 : World} {i m : Nat} {v u : Value} (h : FrI w W wr i m v) {x : Nat} (hx : ([i, 0, 0, 0, 0, 0, 0, 0] : List Nat)[m]? = some x) {y : Int} (hy : y = (x : Int)) {wx : World} (hm : Mods No wr wx)
    (h3 : Own w3 (fun k => v.ownBlock = some k ∨ k = wx.heap.size) 130 1 u (m + 1) (vus ([i, 0, 0, 0, 0, 0, 0, 0].take m) ++ [.int .u32 y])) (hm3 : Mods (fun k => v.ownBlock = some k) wx w3) : FrI w W w3 i (m + 1) u := by
  subst hy
  have hsz := Nat.le_trans h.hm.size hm.size
  refine ⟨?_, (h.hm.trans hm fun _ _ e => e).trans hm3 fun k hk e => absurd hk (Nat.not_lt.2 (h.own.2 k e))⟩
  have e : vus ([i, 0, 0, 0, 0, 0, 0, 0].take (m + 1)) = vus ([i, 0, 0, 0, 0, 0, 0, 0].take m) ++ [.int .u32 (x : Int)] := by
    unfold vus
    rw [take_nx hx, List.map_append]; rfl
  rw [e]
  refine h3.more fun g hg => ?_
  rcases hg with e | e
  · exact h.own.2 g e
  · exact e ▸ hsz
set_option maxHeartbeats 3200000 in
theorem from_K (w : World) (i : Nat) (hi : i < 65536) : Calls Tryd.prog 71 #[.agg #[.int .i64 0, .int .u64 (i : Int)]] w (Ret fun u w' => (∃ v l, Rd w' (fun g => w.heap.size ≤ g ∧ g < w'.heap.size) 1 v 8 (vus [i, 0, 0, 0, 0, 0, 0, 0]) ∧ u = .agg #[.bool false, l] ∧ TrimIs v [i, 0, 0, 0, 0, 0, 0, 0] l) ∧ Mods No w w') := by
  go_enter Tryd.func71, Tryd.ntmps71
  go_wp2_with (first | ((with_reducible refine wp_region_por ?_ ?_ ?_ ?_); kernel_rfl; kernel_rfl; (with_reducible repeat (first | exact calm_ret | refine calm_then ?_ | refine calm_in ?_ | refine calm_chk ?_ | refine calm_noGoto ?_))) | ((with_reducible refine chk_end ?_ ?_); kernel_rfl))
  obtain ⟨W, hW⟩ : ∃ W, W = ((w.alloc (.cells #[.int .i64 0, .int .u64 (i : Int)] 43)).alloc (.cells #[.bool false, .slice none 0 0] 120)).drew := ⟨_, rfl⟩
  have ha0 := and_low i hi
  have ha1 := and_zero'
  have hd1 : (i : Int) / 65536 = 0 := by omega
  have hd2 : (i : Int) / 4294967296 = 0 := by omega
  have hd3 : (i : Int) / 281474976710656 = 0 := by omega
  go_loopg [3, 7] 4 (fun k v3 v7 wr => ∃ m : Nat, v7 = .int .i64 m ∧ m ≤ 4 ∧ k + m = 4 ∧ FrI w W wr i m v3)
  case atStart => exact ⟨0, rfl, by omega, rfl, Own.nil _ _ _ _, hW ▸ Mods.refl _ _⟩
  case round =>
    obtain ⟨m, rfl, hm, hk, hin⟩ := hrel
    have Hin := Lib.hid hin
    have Hk := Lib.hid hk
    clear hk
    obtain ⟨A3, c3, rfl, _, _⟩ := hin.own.form
    clear hin
    have hc : m = 0 ∨ m = 1 ∨ m = 2 ∨ m = 3 ∨ m = 4 := by omega
    rcases hc with rfl | rfl | rfl | rfl | rfl
    · skip
      go_wp2_with (first | (at_builtin; ((refine wpList_append _ rfl (.tmp 31) (.tmp 39) 118 rfl 130 (.int .u32 0) 1 4 Tryd.underlying118 infoU32 rfl (by decide) (F := fun g => W.heap.size ≤ g) (n := 0) (xs := vus ([i, 0, 0, 0, 0, 0, 0, 0].take 0)) (by rfl) (Hin.out.own.mods ((Mods.refl No wr).alloc (.cells #[.int .u32 (i : Int)] 130)) fun _ _ e => e) (G := fun g => g = wr.heap.size) (y := .slice (some ⟨wr.heap.size, 0, none⟩) 1 1) (m := 1) (news := [.int .u32 (i : Int)]) (by rfl) (Rd.box _ #[.int .u32 (i : Int)] _ rfl rfl (by decide)) (u32_one _) (by omega) (by decide) ?_); intro v8 w8 hown8 hm8 _; have HE8 := Lib.hid (Hin.out.more (x := i) rfl rfl ((Mods.refl No wr).alloc (.cells #[.int .u32 (i : Int)] 130)) hown8 hm8); obtain ⟨A8, c8, rfl, _, _⟩ := hown8.form; clear hown8 hm8)) | ((with_reducible refine wp_region_por ?_ ?_ ?_ ?_); kernel_rfl; kernel_rfl; (with_reducible repeat (first | exact calm_ret | refine calm_then ?_ | refine calm_in ?_ | refine calm_chk ?_ | refine calm_noGoto ?_))) | ((with_reducible refine chk_end ?_ ?_); kernel_rfl))
      go_roundg (gk - 1)
      case rel => exact ⟨0 + 1, by go_num, by omega, by have := Hk.out; omega, HE8.out⟩
      case measure => have := Hk.out; omega
    · skip
      go_wp2_with (first | (at_builtin; ((refine wpList_append _ rfl (.tmp 31) (.tmp 39) 118 rfl 130 (.int .u32 0) 1 4 Tryd.underlying118 infoU32 rfl (by decide) (F := fun g => W.heap.size ≤ g) (n := 1) (xs := vus ([i, 0, 0, 0, 0, 0, 0, 0].take 1)) (by rfl) (Hin.out.own.mods ((Mods.refl No wr).alloc (.cells #[.int .u32 0] 130)) fun _ _ e => e) (G := fun g => g = wr.heap.size) (y := .slice (some ⟨wr.heap.size, 0, none⟩) 1 1) (m := 1) (news := [.int .u32 0]) (by rfl) (Rd.box _ #[.int .u32 0] _ rfl rfl (by decide)) (u32_one _) (by omega) (by decide) ?_); intro v8 w8 hown8 hm8 _; have HE8 := Lib.hid (Hin.out.more (x := 0) rfl rfl ((Mods.refl No wr).alloc (.cells #[.int .u32 0] 130)) hown8 hm8); obtain ⟨A8, c8, rfl, _, _⟩ := hown8.form; clear hown8 hm8)) | ((with_reducible refine wp_region_por ?_ ?_ ?_ ?_); kernel_rfl; kernel_rfl; (with_reducible repeat (first | exact calm_ret | refine calm_then ?_ | refine calm_in ?_ | refine calm_chk ?_ | refine calm_noGoto ?_))) | ((with_reducible refine chk_end ?_ ?_); kernel_rfl))
      go_roundg (gk - 1)
      case rel => exact ⟨1 + 1, by go_num, by omega, by have := Hk.out; omega, HE8.out⟩
      case measure => have := Hk.out; omega
    · skip
      go_wp2_with (first | (at_builtin; ((refine wpList_append _ rfl (.tmp 31) (.tmp 39) 118 rfl 130 (.int .u32 0) 1 4 Tryd.underlying118 infoU32 rfl (by decide) (F := fun g => W.heap.size ≤ g) (n := 2) (xs := vus ([i, 0, 0, 0, 0, 0, 0, 0].take 2)) (by rfl) (Hin.out.own.mods ((Mods.refl No wr).alloc (.cells #[.int .u32 0] 130)) fun _ _ e => e) (G := fun g => g = wr.heap.size) (y := .slice (some ⟨wr.heap.size, 0, none⟩) 1 1) (m := 1) (news := [.int .u32 0]) (by rfl) (Rd.box _ #[.int .u32 0] _ rfl rfl (by decide)) (u32_one _) (by omega) (by decide) ?_); intro v8 w8 hown8 hm8 _; have HE8 := Lib.hid (Hin.out.more (x := 0) rfl rfl ((Mods.refl No wr).alloc (.cells #[.int .u32 0] 130)) hown8 hm8); obtain ⟨A8, c8, rfl, _, _⟩ := hown8.form; clear hown8 hm8)) | ((with_reducible refine wp_region_por ?_ ?_ ?_ ?_); kernel_rfl; kernel_rfl; (with_reducible repeat (first | exact calm_ret | refine calm_then ?_ | refine calm_in ?_ | refine calm_chk ?_ | refine calm_noGoto ?_))) | ((with_reducible refine chk_end ?_ ?_); kernel_rfl))
      go_roundg (gk - 1)
      case rel => exact ⟨2 + 1, by go_num, by omega, by have := Hk.out; omega, HE8.out⟩
      case measure => have := Hk.out; omega
    · skip
      go_wp2_with (first | (at_builtin; ((refine wpList_append _ rfl (.tmp 31) (.tmp 39) 118 rfl 130 (.int .u32 0) 1 4 Tryd.underlying118 infoU32 rfl (by decide) (F := fun g => W.heap.size ≤ g) (n := 3) (xs := vus ([i, 0, 0, 0, 0, 0, 0, 0].take 3)) (by rfl) (Hin.out.own.mods ((Mods.refl No wr).alloc (.cells #[.int .u32 0] 130)) fun _ _ e => e) (G := fun g => g = wr.heap.size) (y := .slice (some ⟨wr.heap.size, 0, none⟩) 1 1) (m := 1) (news := [.int .u32 0]) (by rfl) (Rd.box _ #[.int .u32 0] _ rfl rfl (by decide)) (u32_one _) (by omega) (by decide) ?_); intro v8 w8 hown8 hm8 _; have HE8 := Lib.hid (Hin.out.more (x := 0) rfl rfl ((Mods.refl No wr).alloc (.cells #[.int .u32 0] 130)) hown8 hm8); obtain ⟨A8, c8, rfl, _, _⟩ := hown8.form; clear hown8 hm8)) | ((with_reducible refine wp_region_por ?_ ?_ ?_ ?_); kernel_rfl; kernel_rfl; (with_reducible repeat (first | exact calm_ret | refine calm_then ?_ | refine calm_in ?_ | refine calm_chk ?_ | refine calm_noGoto ?_))) | ((with_reducible refine chk_end ?_ ?_); kernel_rfl))
      go_roundg (gk - 1)
      case rel => exact ⟨3 + 1, by go_num, by omega, by have := Hk.out; omega, HE8.out⟩
      case measure => have := Hk.out; omega
    · have h0 := Hin.out
      clear Hin Hk
      have Hin := Lib.hid h0
      clear h0
      go_wp2_with (first | ((with_reducible refine wp_region_por ?_ ?_ ?_ ?_); kernel_rfl; kernel_rfl; (with_reducible repeat (first | exact calm_ret | refine calm_then ?_ | refine calm_in ?_ | refine calm_chk ?_ | refine calm_noGoto ?_))) | ((with_reducible refine chk_end ?_ ?_); kernel_rfl))
      go_loopg [3, 8] 4 (fun k v3 v8 wr => ∃ m : Nat, v8 = .int .i64 m ∧ m ≤ 4 ∧ k + m = 4 ∧ FrI w W wr i (4 + m) v3)
      case atStart => exact ⟨0, rfl, by omega, rfl, Hin.out⟩
      case round =>
        clear Hin
        obtain ⟨m, rfl, hm, hk, hin⟩ := hrel
        have Hin := Lib.hid hin
        have Hk := Lib.hid hk
        clear hk
        obtain ⟨A3, c3, rfl, _, _⟩ := hin.own.form
        clear hin
        have hc : m = 0 ∨ m = 1 ∨ m = 2 ∨ m = 3 ∨ m = 4 := by omega
        rcases hc with rfl | rfl | rfl | rfl | rfl
        · skip
          go_wp2_with (first | (at_builtin; ((refine wpList_append _ rfl (.tmp 45) (.tmp 53) 118 rfl 130 (.int .u32 0) 1 4 Tryd.underlying118 infoU32 rfl (by decide) (F := fun g => W.heap.size ≤ g) (n := 4) (xs := vus ([i, 0, 0, 0, 0, 0, 0, 0].take 4)) (by rfl) (Hin.out.own.mods ((Mods.refl No wr).alloc (.cells #[.int .u32 0] 130)) fun _ _ e => e) (G := fun g => g = wr.heap.size) (y := .slice (some ⟨wr.heap.size, 0, none⟩) 1 1) (m := 1) (news := [.int .u32 0]) (by rfl) (Rd.box _ #[.int .u32 0] _ rfl rfl (by decide)) (u32_one _) (by omega) (by decide) ?_); intro v8 w8 hown8 hm8 _; have HE8 := Lib.hid (Hin.out.more (x := 0) rfl rfl ((Mods.refl No wr).alloc (.cells #[.int .u32 0] 130)) hown8 hm8); obtain ⟨A8, c8, rfl, _, _⟩ := hown8.form; clear hown8 hm8)) | ((with_reducible refine wp_region_por ?_ ?_ ?_ ?_); kernel_rfl; kernel_rfl; (with_reducible repeat (first | exact calm_ret | refine calm_then ?_ | refine calm_in ?_ | refine calm_chk ?_ | refine calm_noGoto ?_))) | ((with_reducible refine chk_end ?_ ?_); kernel_rfl))
          go_roundg (gk - 1)
          case rel => exact ⟨0 + 1, by go_num, by omega, by have := Hk.out; omega, HE8.out⟩
          case measure => have := Hk.out; omega
        · skip
          go_wp2_with (first | (at_builtin; ((refine wpList_append _ rfl (.tmp 45) (.tmp 53) 118 rfl 130 (.int .u32 0) 1 4 Tryd.underlying118 infoU32 rfl (by decide) (F := fun g => W.heap.size ≤ g) (n := 5) (xs := vus ([i, 0, 0, 0, 0, 0, 0, 0].take 5)) (by rfl) (Hin.out.own.mods ((Mods.refl No wr).alloc (.cells #[.int .u32 0] 130)) fun _ _ e => e) (G := fun g => g = wr.heap.size) (y := .slice (some ⟨wr.heap.size, 0, none⟩) 1 1) (m := 1) (news := [.int .u32 0]) (by rfl) (Rd.box _ #[.int .u32 0] _ rfl rfl (by decide)) (u32_one _) (by omega) (by decide) ?_); intro v8 w8 hown8 hm8 _; have HE8 := Lib.hid (Hin.out.more (x := 0) rfl rfl ((Mods.refl No wr).alloc (.cells #[.int .u32 0] 130)) hown8 hm8); obtain ⟨A8, c8, rfl, _, _⟩ := hown8.form; clear hown8 hm8)) | ((with_reducible refine wp_region_por ?_ ?_ ?_ ?_); kernel_rfl; kernel_rfl; (with_reducible repeat (first | exact calm_ret | refine calm_then ?_ | refine calm_in ?_ | refine calm_chk ?_ | refine calm_noGoto ?_))) | ((with_reducible refine chk_end ?_ ?_); kernel_rfl))
          go_roundg (gk - 1)
          case rel => exact ⟨1 + 1, by go_num, by omega, by have := Hk.out; omega, HE8.out⟩
          case measure => have := Hk.out; omega
        · skip
          go_wp2_with (first | (at_builtin; ((refine wpList_append _ rfl (.tmp 45) (.tmp 53) 118 rfl 130 (.int .u32 0) 1 4 Tryd.underlying118 infoU32 rfl (by decide) (F := fun g => W.heap.size ≤ g) (n := 6) (xs := vus ([i, 0, 0, 0, 0, 0, 0, 0].take 6)) (by rfl) (Hin.out.own.mods ((Mods.refl No wr).alloc (.cells #[.int .u32 0] 130)) fun _ _ e => e) (G := fun g => g = wr.heap.size) (y := .slice (some ⟨wr.heap.size, 0, none⟩) 1 1) (m := 1) (news := [.int .u32 0]) (by rfl) (Rd.box _ #[.int .u32 0] _ rfl rfl (by decide)) (u32_one _) (by omega) (by decide) ?_); intro v8 w8 hown8 hm8 _; have HE8 := Lib.hid (Hin.out.more (x := 0) rfl rfl ((Mods.refl No wr).alloc (.cells #[.int .u32 0] 130)) hown8 hm8); obtain ⟨A8, c8, rfl, _, _⟩ := hown8.form; clear hown8 hm8)) | ((with_reducible refine wp_region_por ?_ ?_ ?_ ?_); kernel_rfl; kernel_rfl; (with_reducible repeat (first | exact calm_ret | refine calm_then ?_ | refine calm_in ?_ | refine calm_chk ?_ | refine calm_noGoto ?_))) | ((with_reducible refine chk_end ?_ ?_); kernel_rfl))
          go_roundg (gk - 1)
          case rel => exact ⟨2 + 1, by go_num, by omega, by have := Hk.out; omega, HE8.out⟩
          case measure => have := Hk.out; omega
        · skip
          go_wp2_with (first | (at_builtin; ((refine wpList_append _ rfl (.tmp 45) (.tmp 53) 118 rfl 130 (.int .u32 0) 1 4 Tryd.underlying118 infoU32 rfl (by decide) (F := fun g => W.heap.size ≤ g) (n := 7) (xs := vus ([i, 0, 0, 0, 0, 0, 0, 0].take 7)) (by rfl) (Hin.out.own.mods ((Mods.refl No wr).alloc (.cells #[.int .u32 0] 130)) fun _ _ e => e) (G := fun g => g = wr.heap.size) (y := .slice (some ⟨wr.heap.size, 0, none⟩) 1 1) (m := 1) (news := [.int .u32 0]) (by rfl) (Rd.box _ #[.int .u32 0] _ rfl rfl (by decide)) (u32_one _) (by omega) (by decide) ?_); intro v8 w8 hown8 hm8 _; have HE8 := Lib.hid (Hin.out.more (x := 0) rfl rfl ((Mods.refl No wr).alloc (.cells #[.int .u32 0] 130)) hown8 hm8); obtain ⟨A8, c8, rfl, _, _⟩ := hown8.form; clear hown8 hm8)) | ((with_reducible refine wp_region_por ?_ ?_ ?_ ?_); kernel_rfl; kernel_rfl; (with_reducible repeat (first | exact calm_ret | refine calm_then ?_ | refine calm_in ?_ | refine calm_chk ?_ | refine calm_noGoto ?_))) | ((with_reducible refine chk_end ?_ ?_); kernel_rfl))
          go_roundg (gk - 1)
          case rel => exact ⟨3 + 1, by go_num, by omega, by have := Hk.out; omega, HE8.out⟩
          case measure => have := Hk.out; omega
        · have hmk := make2_K wr _ _ [i, 0, 0, 0, 0, 0, 0, 0] Hin.out.own.rdlt (fun g hg => hg)
          have hcw : Cells W (w.heap.size + 1) 120 #[.bool false, .slice none 0 0] := by
            have h := Cells.new (w.alloc (.cells #[.int .i64 0, .int .u64 (i : Int)] 43)) 120 #[.bool false, .slice none 0 0]
            rw [World.size_alloc] at h
            rw [hW]
            exact h
          have hWs : W.heap.size = w.heap.size + 2 := by rw [hW]; show ((w.alloc _).alloc _).heap.size = _; rw [World.size_alloc, World.size_alloc]
          have hWm : Mods No w W := by rw [hW]; exact (((Mods.refl No w).alloc _).alloc _).drew
          have HC := Lib.hid (hcw.mods Hin.out.hm fun e => e)
          have HWs := Lib.hid hWs
          have HWm := Lib.hid hWm
          clear hcw hWs hWm
          have Hhmk := Lib.hid hmk
          clear hmk
          go_wp2_with (first | (go_at_call 87; (refine ret_use (Hhmk.out) ?_; rintro v w9 ⟨⟨l, rfl, htr⟩, hm9⟩; have HT := Lib.hid htr; have HM9 := Lib.hid hm9; have HC9 := Lib.hid (HC.out.mods hm9 fun e => e); have k0 := HC9.out.at_ 0 rfl; have k1 := HC9.out.at_ 1 rfl; have f0 := HC9.out.frozen 0; have f1 := HC9.out.frozen 1; have ll := HC9.out.lt; obtain ⟨A9, c9, m9, e9, rfl, _, _, _⟩ := htr; clear hm9)) | ((with_reducible refine wp_region_por ?_ ?_ ?_ ?_); kernel_rfl; kernel_rfl; (with_reducible repeat (first | exact calm_ret | refine calm_then ?_ | refine calm_in ?_ | refine calm_chk ?_ | refine calm_noGoto ?_))) | ((with_reducible refine chk_end ?_ ?_); kernel_rfl))
          refine bodyPost_ret (results_cell_row rfl _ _ (w.heap.size + 1) 120 _ (0, 0) _ rfl ((HC9.out.set_ 0 _).set_ 1 _) Tryd.underlying120 rfl rfl) rfl ?_
          have hne : (Value.slice A3 8 c3).ownBlock ≠ some (w.heap.size + 1) := fun e => by have := Hin.out.own.2 _ e; have := HWs.out; omega
          have ho := ((Hin.out.own.mods HM9.out fun _ _ e => e).far (p := ⟨w.heap.size + 1, 0, none⟩) hne (.bool false)).far (p := ⟨w.heap.size + 1, 1, none⟩) hne (.slice A3 m9 c3)
          exact ⟨⟨_, _, (Rd.of_own ho.1 fun g hg => ⟨by have := ho.2 g hg; have := HWs.out; omega, ho.lt g hg⟩), rfl, HT.out⟩, ((((HWm.out.trans Hin.out.hm fun _ _ e => e).trans HM9.out fun _ _ e => e).setCell _ _ fun h => absurd h (by show ¬ w.heap.size + 1 < w.heap.size; omega)).setCell _ _ fun h => absurd h (by show ¬ w.heap.size + 1 < w.heap.size; omega))⟩
end Go.Proofs.YtcifajfmdpjfiaaDoor
