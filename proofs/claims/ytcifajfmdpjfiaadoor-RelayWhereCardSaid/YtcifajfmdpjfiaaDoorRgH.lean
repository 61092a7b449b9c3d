/- Package ring: ContainsFunc, BinarySearchFunc, DeleteFunc. -/
import Derived.Test.YtcifajfmdpjfiaaDoorRgG
namespace Go.Proofs.YtcifajfmdpjfiaaDoor
open Go.RowKit Go.Tum Go.Lib Go.Sort
set_option maxRecDepth 100000
theorem idx_any {α : Type} (p : α → Bool) (L : List α) : decide (0 ≤ idx p L) = L.any p := by
  unfold idx
  cases h : L.findIdx? p with
  | none =>
    rw [List.findIdx?_eq_none_iff] at h
    have : L.any p = false := List.any_eq_false.2 fun x hx => by rw [h x hx]; decide
    rw [this]; rfl
  | some i =>
    rw [List.findIdx?_eq_some_iff_getElem] at h
    obtain ⟨h1, h2, _⟩ := h
    have : L.any p = true := List.any_eq_true.2 ⟨L[i], List.getElem_mem h1, h2⟩
    rw [this]
    exact decide_eq_true (Int.natCast_nonneg i)
theorem containsF_K (w : World) (F : Nat → Prop) (v : Value) (L : List Tx) (hr : Rd w F 1 v L.length (L.map ks)) (hF : ∀ g, F g → g < w.heap.size) (hs : L.length ≤ 65536) :
    Calls Tryd.prog 37 #[v, .func (.func 38) #[] #[]] w (Ret fun r w' => r = .bool (L.any fun s => !fitB s) ∧ Mods No w w') := by
  have hi := idxT_K w F v L (fun s => !fitB s) hr hF hs fun w' _ x => nodeF_K w' x
  have ha := idx_any (fun s => !fitB s) L
  obtain ⟨A, c, rfl, _, _⟩ := hr.form
  obtain ⟨z, hz⟩ : ∃ z, z = idx (fun s => !fitB s) L := ⟨_, rfl⟩
  obtain ⟨b, hb⟩ : ∃ b, b = L.any fun s => !fitB s := ⟨_, rfl⟩
  rw [← hz, ← hb] at ha
  rw [← hz] at hi
  rw [← hb]
  clear hz hb
  have Hhi := Lib.hid hi
  clear hi
  have Hhr := Lib.hid hr
  clear hr
  go_enter Tryd.func37, Tryd.ntmps37
  go_wp2_with (first | (go_at_call 52; (refine ret_use (Hhi.out) ?_; rintro u w2 ⟨rfl, hm2⟩; have HM2 := Lib.hid hm2; clear hm2)) | ((with_reducible refine wp_region_por ?_ ?_ ?_ ?_); kernel_rfl; kernel_rfl; (with_reducible repeat (first | exact calm_ret | refine calm_then ?_ | refine calm_in ?_ | refine calm_chk ?_ | refine calm_noGoto ?_))) | ((with_reducible refine chk_end ?_ ?_); kernel_rfl))
  go_ret
  exact ⟨rfl, HM2.out⟩
/-- The first place at or behind h. -/
def posP (L : List Plc) (h : Nat) : Nat := (L.takeWhile fun p => decide (p.1 < h)).length
theorem rising_at {L : List Plc} (h : Rising ltP L) (n : Nat) : Down (fun p => decide (p.1 < n)) L := h.imp fun {a b} k hb => by
  simp only [ltP, decide_eq_false_iff_not] at k
  simp only [decide_eq_true_eq] at hb ⊢
  omega
theorem cmpAt_lt (a h : Nat) : decide (cmpAt a h < 0) = decide (a < h) := by
  unfold cmpAt
  by_cases h1 : a < h
  · simp [h1]
  · rw [if_neg h1]
    by_cases h2 : h < a
    · rw [if_pos h2]; simp [h1]
    · rw [if_neg h2]; simp [h1]
def PosIs (n : Nat) (v : Value) : Prop := ∃ b, v = .tuple #[.int .i64 n, .bool b]
set_option maxHeartbeats 1600000 in
theorem bsearchF_K (w : World) (F : Nat → Prop) (v : Value) (L : List Plc) (h : Nat) (hr : Rd w F 2 v L.length (plcs L)) (hF : ∀ g, F g → g < w.heap.size) (hs : L.length ≤ 65536) (hL : Rising ltP L) :
    Calls Tryd.prog 45 #[v, .int .u64 (h : Int), .func (.func 47) #[] #[]] w (Ret fun v w' => PosIs (posP L h) v ∧ Mods No w w') := by
  obtain ⟨A, c, rfl, hac, hac2⟩ := hr.form
  have hr' := fun (w' : World) (hm : Mods No w w') => hr.same (hm.same fun k hk => ⟨hF k hk, fun e => e⟩)
  have hd := rising_at hL h
  clear hF
  have Hhr := Lib.hid hr
  clear hr
  have Hhr' := Lib.hid hr'
  clear hr'
  have Hhd := Lib.hid hd
  clear hd
  have HhL := Lib.hid hL
  clear hL
  unfold ks at *
  go_enter Tryd.func45, Tryd.ntmps45
  go_wp2_with (first | ((with_reducible refine wp_region_por ?_ ?_ ?_ ?_); kernel_rfl; kernel_rfl; (with_reducible repeat (first | exact calm_ret | refine calm_then ?_ | refine calm_in ?_ | refine calm_chk ?_ | refine calm_noGoto ?_))) | ((with_reducible refine chk_end ?_ ?_); kernel_rfl))
  go_loopg [9, 10] L.length (fun k v9 v10 wr => ∃ i j : Nat, v9 = .int .i64 i ∧ v10 = .int .i64 j ∧ i ≤ j ∧ j ≤ L.length ∧ k = j - i ∧ (∀ y ∈ L.take i, (fun p : Plc => decide (p.1 < h)) y = true) ∧ (∀ y ∈ L.drop j, (fun p : Plc => decide (p.1 < h)) y = false) ∧ Mods No w wr)
  case atStart => exact ⟨0, _, rfl, rfl, Nat.zero_le _, Nat.le_refl _, rfl, fun y hy => by simp at hy, fun y hy => by simp at hy, Mods.refl _ _⟩
  case round =>
    obtain ⟨i, j, rfl, rfl, hij, hj, hk, ha, hb, hm⟩ := hrel
    have Hk := Lib.hid hk
    have HM := Lib.hid hm
    clear hk hm
    have Hha := Lib.hid ha
    clear ha
    have Hhb := Lib.hid hb
    clear hb
    rcases Nat.lt_or_ge i j with h1 | h1
    · obtain ⟨m, hm, hm1, hm2⟩ : ∃ m : Nat, ((i : Int) + (j : Int)) / 2 = (m : Int) ∧ i ≤ m ∧ m < j := ⟨(i + j) / 2, by omega, by omega, by omega⟩
      obtain ⟨x, hx⟩ := lt_get (l := L) (i := m) (by omega)
      obtain ⟨b, off, rfl, _, x0, x1⟩ := (Hhr'.out _ HM.out).plc rfl hx
      unfold ks at x1
      have hc := at_K wr x h
      have hlt := cmpAt_lt x.1 h
      obtain ⟨cv, hcv⟩ : ∃ cv, cv = cmpAt x.1 h := ⟨_, rfl⟩
      rw [← hcv] at hc hlt
      obtain ⟨r, hrr⟩ : ∃ r, decide (x.1 < h) = r := ⟨_, rfl⟩
      rw [hrr] at hlt
      have Hx := Lib.hid (And.intro hx hrr)
      clear hx hcv hrr
      have Hhc := Lib.hid hc
      clear hc
      unfold ks at Hhc
      cases r with
      | true =>
        go_wp2_with (first | (go_at_call 47; (refine ret_use (Hhc.out) ?_; rintro u w2 ⟨rfl, hm2⟩; have HM2 := Lib.hid (HM.out.trans hm2 fun _ _ e => e); clear hm2)) | ((with_reducible refine wp_region_por ?_ ?_ ?_ ?_); kernel_rfl; kernel_rfl; (with_reducible repeat (first | exact calm_ret | refine calm_then ?_ | refine calm_in ?_ | refine calm_chk ?_ | refine calm_noGoto ?_))) | ((with_reducible refine chk_end ?_ ?_); kernel_rfl))
        go_roundg (j - (m + 1))
        case rel => exact ⟨m + 1, j, by go_num, rfl, by omega, hj, rfl, down_left Hhd.out Hx.out.1 Hx.out.2, Hhb.out, HM2.out⟩
        case measure => have := Hk.out; omega
      | false =>
        go_wp2_with (first | (go_at_call 47; (refine ret_use (Hhc.out) ?_; rintro u w2 ⟨rfl, hm2⟩; have HM2 := Lib.hid (HM.out.trans hm2 fun _ _ e => e); clear hm2)) | ((with_reducible refine wp_region_por ?_ ?_ ?_ ?_); kernel_rfl; kernel_rfl; (with_reducible repeat (first | exact calm_ret | refine calm_then ?_ | refine calm_in ?_ | refine calm_chk ?_ | refine calm_noGoto ?_))) | ((with_reducible refine chk_end ?_ ?_); kernel_rfl))
        go_roundg (m - i)
        case rel => exact ⟨i, m, rfl, rfl, by omega, by omega, rfl, Hha.out, down_right Hhd.out Hx.out.1 Hx.out.2, HM2.out⟩
        case measure => have := Hk.out; omega
    · obtain rfl : i = j := by omega
      have HP := Lib.hid (show posP L h = i from down_len hj Hha.out Hhb.out)
      rcases Nat.lt_or_ge i L.length with h2 | h2
      · obtain ⟨x, hx⟩ := lt_get h2
        obtain ⟨b, off, rfl, _, x0, x1⟩ := (Hhr'.out _ HM.out).plc rfl hx
        unfold ks at x1
        have hc := at_K wr x h
        obtain ⟨cv, hcv⟩ : ∃ cv, cv = cmpAt x.1 h := ⟨_, rfl⟩
        rw [← hcv] at hc
        clear hx hcv
        have Hhc := Lib.hid hc
        clear hc
        unfold ks at Hhc
        go_wp2_with (first | (go_at_call 47; (refine ret_use (Hhc.out) ?_; rintro u w2 ⟨rfl, hm2⟩; have HM2 := Lib.hid (HM.out.trans hm2 fun _ _ e => e); clear hm2)) | ((with_reducible refine wp_region_por ?_ ?_ ?_ ?_); kernel_rfl; kernel_rfl; (with_reducible repeat (first | exact calm_ret | refine calm_then ?_ | refine calm_in ?_ | refine calm_chk ?_ | refine calm_noGoto ?_))) | ((with_reducible refine chk_end ?_ ?_); kernel_rfl))
        go_ret2
        exact ⟨⟨_, by rw [HP.out]; rfl⟩, HM2.out⟩
      · go_wp2_with (first | ((with_reducible refine wp_region_por ?_ ?_ ?_ ?_); kernel_rfl; kernel_rfl; (with_reducible repeat (first | exact calm_ret | refine calm_then ?_ | refine calm_in ?_ | refine calm_chk ?_ | refine calm_noGoto ?_))) | ((with_reducible refine chk_end ?_ ?_); kernel_rfl))
        go_ret2
        exact ⟨⟨_, by rw [HP.out]; rfl⟩, HM.out⟩
end Go.Proofs.YtcifajfmdpjfiaaDoor
