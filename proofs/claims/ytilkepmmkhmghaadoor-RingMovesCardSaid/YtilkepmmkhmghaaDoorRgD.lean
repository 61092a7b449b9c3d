/- Package ring: searches in sorted texts. -/
import Derived.Test.YtilkepmmkhmghaaDoorRgC
import Derived.Test.YtilkepmmkhmghaaDoorRing2
namespace Go.Proofs.YtilkepmmkhmghaaDoor
open Go.RowKit Go.Tum Go.Lib Go.Sort
set_option maxRecDepth 100000
set_option maxHeartbeats 1600000 in
theorem bsearch_K (w : World) (F : Nat → Prop) (v : Value) (N : List Tx) (t : Tx) (hr : Rd w F 1 v N.length (N.map ks)) (hs : N.length ≤ 65536) (hN : Strict ltT N) :
    Calls Tryd.prog 42 #[v, ks t] w (Ret fun v w' => v = .tuple #[.int .i64 (posT N t), .bool (decide (t ∈ N))] ∧ w = w') := by
  obtain ⟨A, c, rfl, hac, hac2⟩ := hr.form
  have hl := fun w a b r h => less_K w a b r h
  have hd := hN.down sto_T t
  have hnan := fun w s => nan1_K w s
  have Hhr := Lib.hid hr
  clear hr
  have Hhl := Lib.hid hl
  clear hl
  have Hhd := Lib.hid hd
  clear hd
  have HhN := Lib.hid hN
  clear hN
  have Hhnan := Lib.hid hnan
  clear hnan
  unfold ks at *
  go_enter Tryd.func42, Tryd.ntmps42
  go_wp2_with (first | ((with_reducible refine wp_region_por ?_ ?_ ?_ ?_); kernel_rfl; kernel_rfl; (with_reducible repeat (first | exact calm_ret | refine calm_then ?_ | refine calm_in ?_ | refine calm_chk ?_ | refine calm_noGoto ?_))) | ((with_reducible refine chk_end ?_ ?_); kernel_rfl))
  go_loopg [7, 8] N.length (fun k v7 v8 wr => ∃ i j : Nat, v7 = .int .i64 i ∧ v8 = .int .i64 j ∧ i ≤ j ∧ j ≤ N.length ∧ k = j - i ∧ (∀ y ∈ N.take i, ltT y t = true) ∧ (∀ y ∈ N.drop j, ltT y t = false) ∧ w = wr)
  case atStart => exact ⟨0, _, rfl, rfl, Nat.zero_le _, Nat.le_refl _, rfl, fun y hy => by simp at hy, fun y hy => by simp at hy, rfl⟩
  case round =>
    obtain ⟨i, j, rfl, rfl, hij, hj, hk, ha, hb, rfl⟩ := hrel
    have Hk := Lib.hid hk
    clear hk
    have Hha := Lib.hid ha
    clear ha
    have Hhb := Lib.hid hb
    clear hb
    rcases Nat.lt_or_ge i j with h1 | h1
    · obtain ⟨m, hm, hm1, hm2⟩ : ∃ m : Nat, ((i : Int) + (j : Int)) / 2 = (m : Int) ∧ i ≤ m ∧ m < j := ⟨(i + j) / 2, by omega, by omega, by omega⟩
      obtain ⟨x, hx⟩ := lt_get (l := N) (i := m) (by omega)
      obtain ⟨b, off, rfl, _, x0⟩ := Hhr.out.tx rfl hx
      have Hx := Lib.hid hx
      clear hx
      unfold ks at x0
      obtain ⟨r, hlt⟩ : ∃ r, ltT x t = r := ⟨_, rfl⟩
      have Hlt := Lib.hid hlt
      clear hlt
      cases r with
      | true =>
        go_wp2_with (first | (go_at_call 55; (refine ret_use (Hhl.out _ x t true Hlt.out) ?_; rintro v w2 ⟨rfl, rfl⟩)) | ((with_reducible refine wp_region_por ?_ ?_ ?_ ?_); kernel_rfl; kernel_rfl; (with_reducible repeat (first | exact calm_ret | refine calm_then ?_ | refine calm_in ?_ | refine calm_chk ?_ | refine calm_noGoto ?_))) | ((with_reducible refine chk_end ?_ ?_); kernel_rfl))
        go_roundg (j - (m + 1))
        case rel => exact ⟨m + 1, j, by go_num, rfl, by omega, hj, rfl, down_left Hhd.out Hx.out Hlt.out, Hhb.out, rfl⟩
        case measure => have := Hk.out; omega
      | false =>
        go_wp2_with (first | (go_at_call 55; (refine ret_use (Hhl.out _ x t false Hlt.out) ?_; rintro v w2 ⟨rfl, rfl⟩)) | ((with_reducible refine wp_region_por ?_ ?_ ?_ ?_); kernel_rfl; kernel_rfl; (with_reducible repeat (first | exact calm_ret | refine calm_then ?_ | refine calm_in ?_ | refine calm_chk ?_ | refine calm_noGoto ?_))) | ((with_reducible refine chk_end ?_ ?_); kernel_rfl))
        go_roundg (m - i)
        case rel => exact ⟨i, m, rfl, rfl, by omega, by omega, rfl, Hha.out, down_right Hhd.out Hx.out Hlt.out, rfl⟩
        case measure => have := Hk.out; omega
    · obtain rfl : i = j := by omega
      have HP := Lib.hid (show posT N t = i from down_len hj Hha.out Hhb.out)
      have hf := pos_found HhN.out Hha.out
      have Hhf := Lib.hid hf
      clear hf
      rcases Nat.lt_or_ge i N.length with h2 | h2
      · obtain ⟨x, hx⟩ := lt_get h2
        obtain ⟨b, off, rfl, _, x0⟩ := Hhr.out.tx rfl hx
        unfold ks at x0
        by_cases e : x = t
        · have hs' : (x == t) = true := by simp [e]
          have HM := Lib.hid (Hhf.out.1 ⟨x, hx, e⟩).1
          clear hx e
          go_wp2_with (first | ((with_reducible refine wp_region_por ?_ ?_ ?_ ?_); kernel_rfl; kernel_rfl; (with_reducible repeat (first | exact calm_ret | refine calm_then ?_ | refine calm_in ?_ | refine calm_chk ?_ | refine calm_noGoto ?_))) | ((with_reducible refine chk_end ?_ ?_); kernel_rfl))
          go_ret2
          exact ⟨by rw [HP.out, decide_eq_true HM.out]; rfl, rfl⟩
        · have hs' : (x == t) = false := by simp [e]
          have HM := Lib.hid (show ¬ t ∈ N from fun h => by
            obtain ⟨y, hy, e2⟩ := Hhf.out.2 ⟨h, Hhb.out⟩
            rw [hx] at hy; injection hy with hy; exact e (hy.trans e2))
          clear hx e
          go_wp2_with (first | (go_at_call 56; (refine ret_use (Hhnan.out _ _) ?_; rintro v w2 ⟨rfl, rfl⟩)) | ((with_reducible refine wp_region_por ?_ ?_ ?_ ?_); kernel_rfl; kernel_rfl; (with_reducible repeat (first | exact calm_ret | refine calm_then ?_ | refine calm_in ?_ | refine calm_chk ?_ | refine calm_noGoto ?_))) | ((with_reducible refine chk_end ?_ ?_); kernel_rfl))
          go_ret2
          exact ⟨by rw [HP.out, decide_eq_false HM.out]; rfl, rfl⟩
      · have HM := Lib.hid (show ¬ t ∈ N from fun h => by
          obtain ⟨y, hy, e2⟩ := Hhf.out.2 ⟨h, Hhb.out⟩
          rw [List.getElem?_eq_none h2] at hy; cases hy)
        go_wp2_with (first | ((with_reducible refine wp_region_por ?_ ?_ ?_ ?_); kernel_rfl; kernel_rfl; (with_reducible repeat (first | exact calm_ret | refine calm_then ?_ | refine calm_in ?_ | refine calm_chk ?_ | refine calm_noGoto ?_))) | ((with_reducible refine chk_end ?_ ?_); kernel_rfl))
        go_ret2
        exact ⟨by rw [HP.out, decide_eq_false HM.out]; rfl, rfl⟩
end Go.Proofs.YtilkepmmkhmghaaDoor
