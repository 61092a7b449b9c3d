/- The law RelayWhere, walked. -/
import Derived.Test.YtcifajfmdpjfiaaDoorRlWa
namespace Go.Proofs.YtcifajfmdpjfiaaDoor
open Go.RowKit Go.Tum Go.Lib Go.Sort
set_option maxRecDepth 100000
set_option maxHeartbeats 6400000 in
theorem relayWhere_K (w : World) (nodes : List Tx) (C R H : Int) (nw : Bool) (sc : List OpA) (p : Tx) (down : List Tx) (vn vs vd : Value) (ht : Tab w) (hrn : Rd w (fun g => g < w.heap.size) 1 vn nodes.length (nodes.map ks)) (hr : Rd w (fun g => g < w.heap.size) 7 vs sc.length (opcs sc)) (hp : ∀ o ∈ sc, o.2.1.1.length ≤ maxLen) (hn : sc.length ≤ 144115188075855872) (hpl : p.length ≤ maxLen) (hrd : Rd w (fun g => g < w.heap.size) 1 vd down.length (down.map ks)) :
    Calls Tryd.prog 6 #[.agg #[vn, .int .i64 C, .int .i64 R, .int .i64 H, .bool nw], vs, ks p, vd] w (Ret fun v w' => v = .bool true ∧ Mods No w w') := by
  obtain ⟨An, cn, rfl, hnc, hnx⟩ := hrn.form
  obtain ⟨A, c, rfl, hac, hmx⟩ := hr.form
  obtain ⟨Ad, cd, rfl, hdc, hdx⟩ := hrd.form
  have hM0 : Mods No w (w.alloc (.cells #[.slice An nodes.length cn, .int .i64 C, .int .i64 R, .int .i64 H, .bool nw] 26)) := (Mods.refl No w).alloc _
  have hbx := Cells.new w 26 #[.slice An nodes.length cn, .int .i64 C, .int .i64 R, .int .i64 H, .bool nw]
  have hrn2 := rrnew_K (w.alloc (.cells #[.slice An nodes.length cn, .int .i64 C, .int .i64 R, .int .i64 H, .bool nw] 26)) An cn nodes C R H nw (hrn.keep hM0)
  have hnn := fun w' (hm : Mods No (w.alloc (.cells #[.slice An nodes.length cn, .int .i64 C, .int .i64 R, .int .i64 H, .bool nw] 26)) w') => relnew_K w' _ nodes C R H nw ((hrn.keep hM0).keep hm) ((ht.no hM0).no hm)
  have hal := fun w' (hm : Mods No (w.alloc (.cells #[.slice An nodes.length cn, .int .i64 C, .int .i64 R, .int .i64 H, .bool nw] 26)) w') => ralive_K w' ((ht.no hM0).no hm)
  obtain ⟨e, he⟩ : ∃ e, e = relE nodes C R H := ⟨_, rfl⟩
  unfold RrNewIs at hrn2
  rw [← he] at hrn2
  have HBX := Lib.hid hbx
  have HM0 := Lib.hid hM0
  have b0 := hbx.at_ 0 rfl
  have b1 := hbx.at_ 1 rfl
  have b2 := hbx.at_ 2 rfl
  have b3 := hbx.at_ 3 rfl
  have b4 := hbx.at_ 4 rfl
  have bl := hbx.lt
  unfold maxLen at hnx hmx hdx
  by_cases h0 : e = 0
  · have hz := relE_zero (he.symm.trans h0)
    have hzr : relE nodes.reverse C R H = 0 := by rw [relE_rev]; exact he.symm.trans h0
    have hok := fun w1 w' v (h : RelNew w1 w' nodes C R H nw v) => relnew_ok h (he.symm.trans h0)
    have hokr := fun w1 w' v (h : RelNew w1 w' nodes.reverse C R H nw v) => relnew_ok h hzr
    have hn64 := (newE_zero hz.1).2.2.1
    have hc1 := (newE_zero hz.1).1
    obtain ⟨C, rfl⟩ : ∃ k : Nat, C = (k : Int) := ⟨C.toNat, by omega⟩
    obtain ⟨R, rfl⟩ : ∃ k : Nat, R = (k : Int) := ⟨R.toNat, by omega⟩
    obtain ⟨H, rfl⟩ : ∃ k : Nat, H = (k : Int) := ⟨H.toNat, by omega⟩
    have hR8 : R ≤ 8 := by omega
    have hH6 : H ≤ 65536 := by omega
    subst h0
    have HR := Lib.hid hr
    have HRN := Lib.hid hrn
    have HRD := Lib.hid hrd
    have Hp := Lib.hid hp
    have Hpl := Lib.hid hpl
    have Hhrn := Lib.hid hrn2
    have Hz := Lib.hid (he.symm)
    obtain ⟨W0, hW0⟩ : ∃ W0, W0 = (w.alloc (.cells #[.slice An nodes.length cn, .int .i64 C, .int .i64 R, .int .i64 H, .bool nw] 26)) := ⟨_, rfl⟩
    have HW0 := Lib.hid hW0
    clear hz he hbx hM0 hp hr hrn hrd hrn2 hc1 hzr hpl hW0
    have Hht := Lib.hid ht
    clear ht
    have Hhnn := Lib.hid hnn
    clear hnn
    have Hhal := Lib.hid hal
    clear hal
    have Hhok := Lib.hid hok
    clear hok
    have Hhokr := Lib.hid hokr
    clear hokr
    unfold ks
    go_enter Tryd.func6, Tryd.ntmps6
    go_upto_region 5 with (first | (go_at_call 11; (refine ret_use (Hhrn.out) ?_; rintro v w3 hn3; obtain ⟨A0, n0, c0, C', R', H', nw', cc, A1, n1, c1, A2, n2, c2, A3, n3, c3, rfl, hm3, hn4⟩ := hn3; obtain ⟨rfl, rfl, rfl, rfl, rfl, rfl, rfl, rfl, _, h2, h3⟩ := hn4 (by trivial); have HM3 := Lib.hid hm3; have HM4 := Lib.hid (hm3.alloc (.cells #[.slice A0 nodes.length c0, .int .i64 (C : Int), .int .i64 (R : Int), .int .i64 (H : Int), .bool nw', .int .i64 (C : Int), .slice A1 n1 c1, .slice A2 n2 c2, .slice A3 n3 c3] 36)); have HQ := Lib.hid (And.intro h2 h3); have hb2 := HBX.out.mods HM4.out fun e => e; have d0 := hb2.at_ 0 rfl; have d1 := hb2.at_ 1 rfl; have d2 := hb2.at_ 2 rfl; have d3 := hb2.at_ 3 rfl; have d4 := hb2.at_ 4 rfl; have dl := hb2.lt; clear hm3 h2 h3 hn4 hb2)) | (go_at_call 10; (refine ret_use (Hhnn.out _ HM4.out) ?_; rintro v w5 hn5; obtain ⟨rb, rfl, hr5, hm5⟩ := Hhok.out _ _ _ hn5; have HR5 := Lib.hid hr5; have HM5 := Lib.hid hm5; have hb2 := HBX.out.mods (HM4.out.trans hm5 fun _ _ e => e) fun e => e; have e0 := hb2.at_ 0 rfl; have e1 := hb2.at_ 1 rfl; have e2 := hb2.at_ 2 rfl; have e3 := hb2.at_ 3 rfl; have e4 := hb2.at_ 4 rfl; have el := hb2.lt; clear hn5 hm5 hr5 hb2)) | ((with_reducible refine wp_region_por ?_ ?_ ?_ ?_); kernel_rfl; kernel_rfl; (with_reducible repeat (first | exact calm_ret | refine calm_then ?_ | refine calm_in ?_ | refine calm_chk ?_ | refine calm_noGoto ?_))) | ((with_reducible refine chk_end ?_ ?_); kernel_rfl))
    clear b0 b1 b2 b3 b4 bl d0 d1 d2 d3 d4 dl
    have HM05 := Lib.hid (HM4.out.trans HM5.out fun _ _ e => e)
    rw [← HW0.out] at HM05
    go_wp2_with (first | ((with_reducible refine wp_region_por ?_ ?_ ?_ ?_); kernel_rfl; kernel_rfl; (with_reducible repeat (first | exact calm_ret | refine calm_then ?_ | refine calm_in ?_ | refine calm_chk ?_ | refine calm_noGoto ?_))) | ((with_reducible refine chk_end ?_ ?_); kernel_rfl))
    go_loopg [14] nodes.length (fun k v14 wr => ∃ i : Nat, k = i ∧ i ≤ nodes.length ∧ (i = 0 ∧ v14 = .int .i64 (-1) ∨ ∃ j : Nat, i = j + 1 ∧ v14 = .int .i64 j) ∧ ∃ v, WdI w5 wr w5.heap.size nodes (C : Int) (R : Int) (H : Int) nw' i v)
    case atStart =>
      refine ⟨nodes.length, rfl, Nat.le_refl _, ?_, .slice none 0 0, ⟨Cells.new w5 _ _, by rw [List.drop_length]; exact Own.nil _ _ _ _, Nat.le_refl _, (Mods.refl No w5).alloc _⟩⟩
      rcases hz : nodes.length with _ | j
      · exact .inl ⟨rfl, rfl⟩
      · exact .inr ⟨j, rfl, by go_num⟩
    case round =>
      obtain ⟨i, hki, hi, hv, v, hin⟩ := hrel
      have Hin := Lib.hid hin
      have Hki := Lib.hid hki
      clear hin hki e0 e1 e2 e3 e4 el
      rcases hv with ⟨rfl, rfl⟩ | ⟨j, rfl, rfl⟩
      · obtain ⟨W2, rfl⟩ : ∃ W2, W2 = wr := ⟨_, rfl⟩
        obtain ⟨acc, hacc⟩ : ∃ acc, acc = nodes.reverse := ⟨_, rfl⟩
        have ho := Hin.out.own
        rw [List.drop_zero, ← hacc] at ho
        have hW2 : Mods No W0 W2 := HM05.out.trans Hin.out.hm fun _ _ e => e
        have hnr := relnew_K W2 v acc (C : Int) (R : Int) (H : Int) nw' ho.rdlt ((Hht.out.no HM0.out).no (HW0.out ▸ hW2))
        have hok3 := fun w' v (h : RelNew W2 w' acc (C : Int) (R : Int) (H : Int) nw' v) => relnew_ok h (by rw [hacc, relE_rev]; exact Hz.out)
        have hmade := fun w8 sb (hr8 : RelK w8 sb (C : Int).toNat (R : Int).toNat (H : Int).toNat nw' (nodesOf acc) (List.replicate acc.length stn0) [] (fun b => W2.heap.size ≤ b)) (hm8 : Mods No W2 w8) => (show ∃ F E G, Tri W0 w8 rb sb w3.heap.size C R H nw' (nodesOf nodes) (List.replicate nodes.length stn0) [] (List.replicate nodes.length stn0) [] (List.replicate nodes.length stn0) [] F E G from by
          have e1 : nodesOf acc = nodesOf nodes := by rw [hacc]; exact nodesOf_rev HR5.out.strict (hacc ▸ hr8.strict)
          have e2 : acc.length = nodes.length := by rw [hacc, List.length_reverse]
          rw [e1, e2] at hr8
          have hq := ref_made (A := A0) (n := nodes.length) (c := c0) (A1 := A1) (n1 := n1) (c1 := c1) (nw := nw') Hz.out HR5.out.strict HR5.out.1 (HW0.out ▸ HM3.out : Mods No W0 w3) (by rw [HW0.out]; exact HQ.out.1) (by rw [HW0.out]; exact HQ.out.2)
          exact ⟨_, _, _, tri_made (HW0.out ▸ HM4.out : Mods No W0 _) HM5.out Hin.out.hm hm8 hq (fun b e => by rw [World.size_alloc]; exact e) HR5.out hr8⟩)
        obtain ⟨A2', c2', rfl, _, _⟩ := ho.form
        have d0 := Hin.out.box.at_ 0 rfl
        have d1 := Hin.out.box.at_ 1 rfl
        have d2 := Hin.out.box.at_ 2 rfl
        have d3 := Hin.out.box.at_ 3 rfl
        have d4 := Hin.out.box.at_ 4 rfl
        have dl := Hin.out.box.lt
        have HAcc := Lib.hid hacc
        clear ho hacc hW2
        have Hhnr := Lib.hid hnr
        clear hnr
        have Hhok3 := Lib.hid hok3
        clear hok3
        have Hhmade := Lib.hid hmade
        clear hmade
        go_wp2_with (first | (go_at_call 10; (refine ret_use (Hhnr.out) ?_; rintro v w8 hn8; obtain ⟨sb, rfl, hr8, hm8⟩ := Hhok3.out _ _ hn8; have HTR := Lib.hid (Hhmade.out _ _ hr8 hm8); clear hn8 hm8 hr8)) | ((with_reducible refine wp_region_por ?_ ?_ ?_ ?_); kernel_rfl; kernel_rfl; (with_reducible repeat (first | exact calm_ret | refine calm_then ?_ | refine calm_in ?_ | refine calm_chk ?_ | refine calm_noGoto ?_))) | ((with_reducible refine chk_end ?_ ?_); kernel_rfl))
        clear d0 d1 d2 d3 d4 dl
        obtain ⟨F0, E0, G0, htr⟩ := HTR.out
        have HT0 := Lib.hid htr
        obtain ⟨N, hN⟩ : ∃ N, N = nodesOf nodes := ⟨_, rfl⟩
        have HN := Lib.hid hN
        have HNl := Lib.hid (show N.length = nodes.length by rw [hN, nodesOf_len])
        rw [← hN] at HT0
        clear htr hN
        go_loopg [17] sc.length (fun k v17 wr => ∃ (i : Nat) (S : List Stn) (F : Nat → Prop), v17 = .int .i64 i ∧ i ≤ sc.length ∧ k + i = sc.length ∧ tot S ≤ 8 * i ∧ Tri W0 wr rb sb w3.heap.size C R H nw' N S [] (List.replicate nodes.length stn0) [] (List.replicate nodes.length stn0) [] F E0 G0)
        case atStart => exact ⟨0, _, F0, rfl, Nat.zero_le _, rfl, by rw [tot_new]; exact Nat.zero_le _, HT0.out⟩
        case round =>
          obtain ⟨i, S, F, rfl, hi, hki, htt, hin⟩ := hrel
          have Hki2 := Lib.hid hki
          have HT := Lib.hid hin
          have Htt := Lib.hid htt
          rcases Nat.lt_or_ge i sc.length with h1 | h1
          · obtain ⟨⟨kd, ⟨q, xh, xl, xt⟩, s, m⟩, hx⟩ := lt_get h1
            have hql : q.length ≤ maxLen := Hp.out _ (List.mem_of_getElem? hx)
            obtain ⟨bs, os, rfl, _, y0, y1, y2, y3, y4, y5, y6⟩ := (HR.out.keep (HM0.out.trans (HW0.out ▸ hin.hm) fun _ _ e => e)).opa rfl hx
            have hB : tot S ≤ 2305843009213693952 := by omega
            have hput := fun w' (h : Mods No wr w') => tri_put (hin.no h) (q, xh, xl, xt) hql hB
            have htk := fun w' (h : Mods No wr w') => tri_take (s := s) (n := m) (hin.no h) hB
            clear hin hx hB htt hki
            have Hhput := Lib.hid hput
            clear hput
            have Hhtk := Lib.hid htk
            clear htk
            unfold rv at Hhput
            unfold ks at Hhput Hhtk
            by_cases e1 : kd = 1
            · subst e1
              go_wp2_with (first | (go_at_call 13; (refine ret_use (Hhput.out _ (by repeat (with_reducible first | exact Mods.refl No _ | apply Mods.drew))) ?_; rintro v w5 ⟨⟨q5, rfl⟩, S5, F5, ht5, hk5⟩; have HT5 := Lib.hid (And.intro ht5 hk5); clear ht5 hk5)) | ((with_reducible refine wp_region_por ?_ ?_ ?_ ?_); kernel_rfl; kernel_rfl; (with_reducible repeat (first | exact calm_ret | refine calm_then ?_ | refine calm_in ?_ | refine calm_chk ?_ | refine calm_noGoto ?_))) | ((with_reducible refine chk_end ?_ ?_); kernel_rfl))
              go_roundg (gk - 1)
              case rel => exact ⟨i + 1, S5, F5, by go_num, h1, by have := Hki2.out; omega, by have := HT5.out.1; have := Htt.out; omega, HT5.out.2⟩
              case measure => have := Hki2.out; omega
            · have f1 : (kd == 1) = false := beq_eq_false_iff_ne.2 e1
              by_cases e2 : kd = 2
              · subst e2
                clear e1
                go_wp2_with (first | (go_at_call 14; (refine ret_use (Hhtk.out _ (by repeat (with_reducible first | exact Mods.refl No _ | apply Mods.drew))) ?_; rintro v w5 ⟨⟨A5, m5, c5, e5, rfl⟩, S5, F5, ht5, hk5⟩; have HT5 := Lib.hid (And.intro ht5 hk5); clear ht5 hk5)) | ((with_reducible refine wp_region_por ?_ ?_ ?_ ?_); kernel_rfl; kernel_rfl; (with_reducible repeat (first | exact calm_ret | refine calm_then ?_ | refine calm_in ?_ | refine calm_chk ?_ | refine calm_noGoto ?_))) | ((with_reducible refine chk_end ?_ ?_); kernel_rfl))
                go_roundg (gk - 1)
                case rel => exact ⟨i + 1, S5, F5, by go_num, h1, by have := Hki2.out; omega, by have := HT5.out.1; have := Htt.out; omega, HT5.out.2⟩
                case measure => have := Hki2.out; omega
              · have f2 : (kd == 2) = false := beq_eq_false_iff_ne.2 e2
                go_wp2_with (first | ((with_reducible refine wp_region_por ?_ ?_ ?_ ?_); kernel_rfl; kernel_rfl; (with_reducible repeat (first | exact calm_ret | refine calm_then ?_ | refine calm_in ?_ | refine calm_chk ?_ | refine calm_noGoto ?_))) | ((with_reducible refine chk_end ?_ ?_); kernel_rfl))
                go_roundg (gk - 1)
                case rel => exact ⟨i + 1, S, F, by go_num, h1, by have := Hki2.out; omega, by have := Htt.out; omega, HT.out⟩
                case measure => have := Hki2.out; omega
          · obtain rfl : i = sc.length := by omega
            clear hin hki htt
            obtain ⟨T0, hT0⟩ : ∃ T0, T0 = List.replicate nodes.length stn0 := ⟨_, rfl⟩
            rw [← hT0] at HT
            have HTz := Lib.hid hT0
            clear hT0
            go_wp2_with (first | ((with_reducible refine wp_region_por ?_ ?_ ?_ ?_); kernel_rfl; kernel_rfl; (with_reducible repeat (first | exact calm_ret | refine calm_then ?_ | refine calm_in ?_ | refine calm_chk ?_ | refine calm_noGoto ?_))) | ((with_reducible refine chk_end ?_ ?_); kernel_rfl))
            go_loopg [18] down.length (fun k v18 wr => ∃ (i : Nat) (F E : Nat → Prop), v18 = .int .i64 i ∧ i ≤ down.length ∧ k + i = down.length ∧ Tri W0 wr rb sb w3.heap.size C R H nw' N S (downF N (down.take i)) T0 (downF N (down.take i)) T0 (downF N (down.take i)) F E G0)
            case atStart => exact ⟨0, F, E0, rfl, Nat.zero_le _, rfl, HT.out⟩
            case round =>
              obtain ⟨i, F, E, rfl, hi, hki, hin⟩ := hrel
              have Hki3 := Lib.hid hki
              have HT3 := Lib.hid hin
              clear hki
              rcases Nat.lt_or_ge i down.length with h1 | h1
              · obtain ⟨s, hx⟩ := lt_get h1
                obtain ⟨bd, od, rfl, _, x0⟩ := (HRD.out.keep (HM0.out.trans (HW0.out ▸ hin.hm) fun _ _ e => e)).tx rfl hx
                have hbk := fun w' (hm : Mods No W0 w') => (HRD.out.keep (HM0.out.trans (HW0.out ▸ hm) fun _ _ e => e)).tx_at3 rfl hx
                obtain ⟨D, hD⟩ : ∃ D, D = downF N (down.take i) := ⟨_, rfl⟩
                have hD1 : downF N (down.take (i + 1)) = downL N D s := by rw [hD]; exact downF_next hx
                rw [← hD] at hin
                have hdw := down_K wr rb C R H nw' N S D F s hin.rel
                have hdw2 := fun w' F (h : Tri W0 w' rb sb w3.heap.size C R H nw' N S (downL N D s) T0 D T0 D F E G0) => down_K w' sb C R H nw' N T0 D E s h.oth
                have hdw3 := fun w' F E (h : Tri W0 w' rb sb w3.heap.size C R H nw' N S (downL N D s) T0 (downL N D s) T0 D F E G0) => rdown_ref w' w3.heap.size C R H nw' N T0 D G0 s h.ref
                have HT4 := Lib.hid hin
                have HD1 := Lib.hid hD1
                clear hin hx hD hD1
                have Hhbk := Lib.hid hbk
                clear hbk
                have Hhdw := Lib.hid hdw
                clear hdw
                have Hhdw2 := Lib.hid hdw2
                clear hdw2
                have Hhdw3 := Lib.hid hdw3
                clear hdw3
                unfold ks at x0 Hhdw Hhdw2 Hhdw3
                go_wp2_with (first | (go_at_call 21; (fail_if_success have := DA); (refine ret_use (Hhdw.out) ?_; rintro v w5 ⟨rfl, hr5, hm5⟩; have DA := True.intro; have HT5 := Lib.hid (HT4.out.first hr5 hm5); have x0 := Hhbk.out _ (HT4.out.first hr5 hm5).hm; clear hr5 hm5)) | (go_at_call 21; (refine ret_use (Hhdw2.out _ _ HT5.out) ?_; rintro v w6 ⟨rfl, hr6, hm6⟩; have HT6 := Lib.hid (HT5.out.second hr6 hm6); have x0 := Hhbk.out _ (HT5.out.second hr6 hm6).hm; clear hr6 hm6)) | (go_at_call 22; (refine ret_use (Hhdw3.out _ _ _ HT6.out) ?_; rintro v w7 ⟨rfl, hr7, hm7⟩; have HT7 := Lib.hid (HT6.out.third hr7 hm7); clear hr7 hm7)) | ((with_reducible refine wp_region_por ?_ ?_ ?_ ?_); kernel_rfl; kernel_rfl; (with_reducible repeat (first | exact calm_ret | refine calm_then ?_ | refine calm_in ?_ | refine calm_chk ?_ | refine calm_noGoto ?_))) | ((with_reducible refine chk_end ?_ ?_); kernel_rfl))
                go_roundg (gk - 1)
                case rel => exact ⟨i + 1, _, _, by go_num, h1, by have := Hki3.out; omega, by rw [HD1.out]; exact HT7.out⟩
                case measure => have := Hki3.out; omega
              · obtain rfl : i = down.length := by omega
                rw [List.take_length] at hin
                obtain ⟨D, hD⟩ : ∃ D, D = downF N down := ⟨_, rfl⟩
                have HDm := Lib.hid (show ∀ t, t ∈ D ↔ t ∈ down ∧ t ∈ N from fun t => by rw [hD]; exact downF_mem N down t)
                rw [← hD] at hin
                have hBt : tot S ≤ 2305843009213693952 := by have := Htt.out; omega
                have hBz : tot T0 ≤ 2305843009213693952 := by rw [HTz.out, tot_new]; decide
                obtain ⟨Q, hQ⟩ : ∃ Q, Q = wants D R (allV (placesOf C N) (fnv64 p)) := ⟨_, rfl⟩
                have hwh := rwhere_ref hin.ref p Hpl.out
                have hct := fun w' (hm : Mods No wr w') => counts_K w' rb C R H nw' N S D F (hin.no hm).rel
                have hpt := fun w' (hm : Mods No wr w') => relput_K w' rb C R H nw' N S D F (p, 0, 0, 0) (hin.no hm).rel Hpl.out (stb_of hin.rel.1 hBt)
                have hpt2 := fun w' S1 F (h : Tri W0 w' rb sb w3.heap.size C R H nw' N S1 D T0 D T0 D F E G0) => relput_K w' sb C R H nw' N T0 D E (p, 0, 0, 0) h.oth Hpl.out (stb_of h.oth.1 hBz)
                have hct2 := fun w' S1 T1 F E (h : Tri W0 w' rb sb w3.heap.size C R H nw' N S1 D T1 D T0 D F E G0) => counts_K w' rb C R H nw' N S1 D F h.rel
                have hct3 := fun w' S1 T1 F E (h : Tri W0 w' rb sb w3.heap.size C R H nw' N S1 D T1 D T0 D F E G0) => counts_K w' sb C R H nw' N T1 D E h.oth
                have hnd : Q.Nodup := by rw [hQ]; exact hin.rel.wnd _
                have hsub : ∀ t ∈ Q, t ∈ N := by rw [hQ]; exact hin.rel.wsub _
                have hnD : ∀ t ∈ Q, t ∉ D := fun t ht => (wants_mem (hQ ▸ ht)).2
                dsimp only at hpt hpt2
                rw [← hQ] at hwh hpt hpt2
                have HQs := Lib.hid (And.intro hnd (And.intro hsub hnD))
                have HIs := Lib.hid (And.intro hin.rel.1 (And.intro hin.rel.strict hin.oth.1))
                have HFE := Lib.hid (And.intro hin.fu hin.eu)
                have HT4 := Lib.hid hin
                clear hD hQ hnd hsub hnD hin hBt hBz
                obtain ⟨S1, hS1⟩ : ∃ S1, S1 = dealAll H nw' N (p, 0, 0, 0) Q S := ⟨_, rfl⟩
                obtain ⟨T1, hT1⟩ : ∃ T1, T1 = dealAll H nw' N (p, 0, 0, 0) Q T0 := ⟨_, rfl⟩
                rw [← hS1] at hpt
                rw [← hT1] at hpt2
                have HS1 := Lib.hid (And.intro hS1 hT1)
                clear hS1 hT1
                have Hhwh := Lib.hid hwh
                clear hwh
                have Hhct := Lib.hid hct
                clear hct
                have Hhpt := Lib.hid hpt
                clear hpt
                have Hhpt2 := Lib.hid hpt2
                clear hpt2
                have Hhct2 := Lib.hid hct2
                clear hct2
                have Hhct3 := Lib.hid hct3
                clear hct3
                unfold rv at Hhpt Hhpt2
                unfold ks at Hhpt Hhpt2 Hhwh
                go_wp2_with (first | (go_at_call 23; (refine ret_use (Hhwh.out) ?_; rintro v wa ⟨ho, hm⟩; have HOa := Lib.hid ho; have HMa := Lib.hid hm; obtain ⟨Aa, ca, rfl, _, _⟩ := ho.form; clear ho hm)) | (go_at_call 16; (fail_if_success have := CA); (refine ret_use (Hhct.out _ HMa.out) ?_; rintro v wb ⟨ho, hm⟩; have CA := True.intro; have HOb := Lib.hid (ho.more (G := fun g => wr.heap.size ≤ g) fun g e => Nat.le_trans HMa.out.size e); have HOa := Lib.hid (Tum.Own.mods HOa.out hm fun _ _ e => e); have HMb := Lib.hid (HMa.out.trans hm fun _ _ e => e); obtain ⟨Ab, cb, rfl, _, _⟩ := ho.form; clear ho hm)) | (go_at_call 13; (fail_if_success have := PA); (refine ret_use (Hhpt.out _ HMb.out) ?_; rintro v wc ⟨rfl, hr5, hm5⟩; have PA := True.intro; have HOa := Lib.hid (Tum.Own.mods HOa.out hm5 fun g hg e => absurd (HFE.out.1 g e) (Nat.not_lt.2 (HOa.out.2 g hg))); have HOb := Lib.hid (Tum.Own.mods HOb.out hm5 fun g hg e => absurd (HFE.out.1 g e) (Nat.not_lt.2 (HOb.out.2 g hg))); have HTc := Lib.hid ((HT4.out.no HMb.out).first hr5 hm5); clear hr5 hm5)) | (go_at_call 13; (refine ret_use (Hhpt2.out _ _ _ HTc.out) ?_; rintro v wd ⟨rfl, hr5, hm5⟩; have HOa := Lib.hid (Tum.Own.mods HOa.out hm5 fun g hg e => absurd (HFE.out.2 g e) (Nat.not_lt.2 (HOa.out.2 g hg))); have HOb := Lib.hid (Tum.Own.mods HOb.out hm5 fun g hg e => absurd (HFE.out.2 g e) (Nat.not_lt.2 (HOb.out.2 g hg))); have HTd := Lib.hid (HTc.out.second hr5 hm5); clear hr5 hm5)) | (go_at_call 16; (fail_if_success have := CB); (refine ret_use (Hhct2.out _ _ _ _ _ HTd.out) ?_; rintro v we ⟨ho, hm⟩; have CB := True.intro; have HOa := Lib.hid (Tum.Own.mods HOa.out hm fun _ _ e => e); have HOb := Lib.hid (Tum.Own.mods HOb.out hm fun _ _ e => e); have HOe := Lib.hid ho; have HTe := Lib.hid (HTd.out.no hm); obtain ⟨Ae, ce, rfl, _, _⟩ := ho.form; clear ho hm)) | (go_at_call 16; (refine ret_use (Hhct3.out _ _ _ _ _ HTe.out) ?_; rintro v wf ⟨ho, hm⟩; have HRa := Lib.hid (Tum.Own.mods HOa.out hm fun _ _ e => e).rdlt; have HRb := Lib.hid (Tum.Own.mods HOb.out hm fun _ _ e => e).rdlt; have HRe := Lib.hid (Tum.Own.mods HOe.out hm fun _ _ e => e).rdlt; have HRf := Lib.hid ho.rdlt; have HTf := Lib.hid (HTe.out.no hm); obtain ⟨Af, cf, rfl, _, _⟩ := ho.form; clear ho hm)) | ((with_reducible refine wp_region_por ?_ ?_ ?_ ?_); kernel_rfl; kernel_rfl; (with_reducible repeat (first | exact calm_ret | refine calm_then ?_ | refine calm_in ?_ | refine calm_chk ?_ | refine calm_noGoto ?_))) | ((with_reducible refine chk_end ?_ ?_); kernel_rfl))
                obtain ⟨m, hm⟩ : ∃ m, m = N.length := ⟨_, rfl⟩
                have HM := Lib.hid hm
                rw [← hm] at HRb HRe HRf ⊢
                have hm8 : m ≤ 9223372036854775807 := by have := HNl.out; omega
                clear hm
                go_loopg [23] m (fun k v23 wr => ∃ i : Nat, v23 = .int .i64 i ∧ i ≤ m ∧ k + i = m ∧ Mods No wf wr)
                case atStart => exact ⟨0, rfl, Nat.zero_le _, rfl, Mods.refl _ _⟩
                case round =>
                  obtain ⟨i, rfl, hi, hki, hmi⟩ := hrel
                  have Hki4 := Lib.hid hki
                  have HMi := Lib.hid hmi
                  clear hki hmi
                  rcases Nat.lt_or_ge i m with h1 | h1
                  · have hiN : i < N.length := by rw [← HM.out]; exact h1
                    obtain ⟨s, hs⟩ := lt_get hiN
                    obtain ⟨st, hst⟩ := lt_get (show i < S.length by rw [HIs.out.1.len]; exact hiN)
                    have ht0 : T0[i]? = some stn0 := by rw [HTz.out, List.getElem?_replicate, if_pos (by rw [← HNl.out]; exact hiN)]
                    have hp1 := put_at (H := H) (nw := nw') HIs.out.2.1 (p, 0, 0, 0) HQs.out.1 HQs.out.2.1 hs hst
                    have hp2 := put_at (H := H) (nw := nw') HIs.out.2.1 (p, 0, 0, 0) HQs.out.1 HQs.out.2.1 hs ht0
                    rw [← HS1.out.1] at hp1
                    rw [← HS1.out.2] at hp2
                    have hcn : ∀ (X : List Stn) (x : Stn), X[i]? = some x → (countsV N X D)[i]? = some (cntOf D s x) := fun X x h => by unfold countsV; rw [List.getElem?_zipWith, hs, h]
                    have hlen : ∀ X : List Stn, X.length = N.length → (countsV N X D).length = m := fun X h => by rw [countsV_len h, HM.out]
                    have hS1l : S1.length = N.length := by rw [HS1.out.1, dealAll_len, HIs.out.1.len]
                    have hT1l : T1.length = N.length := by rw [HS1.out.2, dealAll_len, HIs.out.2.2.len]
                    obtain ⟨bb, ob, rfl, _, x0, x1, x2, x3, x4⟩ := (HRb.out.keep HMi.out).cnt (hlen S HIs.out.1.len) (hcn S _ hst)
                    obtain ⟨be, oe, rfl, _, y0, y1, y2, y3, y4⟩ := (HRe.out.keep HMi.out).cnt (hlen S1 hS1l) (hcn S1 _ hp1)
                    obtain ⟨bf, of, rfl, _, z0, z1, z2, z3, z4⟩ := (HRf.out.keep HMi.out).cnt (hlen T1 hT1l) (hcn T1 _ hp2)
                    have hix := fun w' (h : Mods No wf w') => index_K w' (fun g => g < w'.heap.size) (.slice Aa Q.length ca) Q s (HRa.out.keep h)
                    have hix2 := fun w' (h : Mods No wf w') => index_K w' (fun g => g < w'.heap.size) (.slice Ad down.length cd) down s (HRD.out.keep (HM0.out.trans (HW0.out ▸ HTf.out.hm.trans h fun _ _ e => e) fun _ _ e => e))
                    have hst1 : st.L.length ≤ 65536 := Nat.le_trans (HIs.out.1.held st (List.mem_of_getElem? hst)) hH6
                    have hst2 : st.dropped ≤ 2305843009213693952 := by
                      have h2 := tot_mem (List.mem_of_getElem? hst)
                      unfold sz at h2
                      have := Htt.out; omega
                    have hsN := List.mem_of_getElem? hs
                    have hDs : decide (s ∈ D) = decide (s ∈ down) := by
                      by_cases h : s ∈ down
                      · rw [decide_eq_true h, decide_eq_true ((HDm.out s).2 ⟨h, hsN⟩)]
                      · rw [decide_eq_false h, decide_eq_false fun e => h ((HDm.out s).1 e).1]
                    have hH1 := HIs.out.1.h1
                    unfold cntOf at x0 x1 x2 x3 x4 y0 y1 y2 y3 y4 z0 z1 z2 z3 z4
                    dsimp only at x0 x1 x2 x3 x4 y0 y1 y2 y3 y4 z0 z1 z2 z3 z4
                    clear hp1 hp2 hcn hlen hS1l hT1l ht0 hs hst hiN
                    obtain ⟨zq, hzq⟩ : ∃ z, z = idxV Q s := ⟨_, rfl⟩
                    obtain ⟨zd, hzd⟩ : ∃ z, z = idxV down s := ⟨_, rfl⟩
                    rw [← hzq] at hix
                    rw [← hzd] at hix2
                    have q1 : decide (0 ≤ zq) = decide (s ∈ Q) := hzq ▸ idxV_iff Q s
                    have q2 : decide (zd < 0) = !decide (s ∈ down) := hzd ▸ idxV_iff' down s
                    clear hzq hzd
                    rw [hDs] at x1 y1 z1
                    have Hhix := Lib.hid hix
                    clear hix
                    have Hhix2 := Lib.hid hix2
                    clear hix2
                    unfold ks at Hhix Hhix2 x0 y0 z0
                    by_cases hq : s ∈ Q
                    · have hd : s ∉ down := fun e => HQs.out.2.2 s hq ((HDm.out s).2 ⟨e, hsN⟩)
                      rw [if_pos hq] at y2 y4 z2 z4
                      rw [decide_eq_true hq] at q1
                      rw [decide_eq_false hd] at q2 x1 y1 z1
                      have e1 := hd_deal hH1 nw' (p, 0, 0, 0) st
                      have e2 := hd_deal hH1 nw' (p, 0, 0, 0) stn0
                      obtain ⟨h0, hh0⟩ : ∃ n, n = st.L.length := ⟨_, rfl⟩
                      obtain ⟨d0, hd0⟩ : ∃ n, n = st.dropped := ⟨_, rfl⟩
                      obtain ⟨h9, hh9⟩ : ∃ n, n = (deal H nw' (p, 0, 0, 0) st).L.length := ⟨_, rfl⟩
                      obtain ⟨d9, hd9⟩ : ∃ n, n = (deal H nw' (p, 0, 0, 0) st).dropped := ⟨_, rfl⟩
                      obtain ⟨h7, hh7⟩ : ∃ n, n = (deal H nw' (p, 0, 0, 0) stn0).L.length := ⟨_, rfl⟩
                      obtain ⟨d7, hd7⟩ : ∃ n, n = (deal H nw' (p, 0, 0, 0) stn0).dropped := ⟨_, rfl⟩
                      rw [← hh0] at x2 e1 hst1
                      rw [← hd0] at x4 e1 hst2
                      rw [← hh9] at y2 e1
                      rw [← hd9] at y4 e1
                      rw [← hh7] at z2 e2
                      rw [← hd7] at z4 e2
                      have e2' : h7 + d7 = 1 := e2
                      clear hh0 hd0 hh9 hd9 hh7 hd7 e2 hDs hq hd hsN hH1 x3 y3 z3
                      have hs9 : h9 + d9 ≤ 2305843009213759490 := by omega
                      have hs7 : h7 + d7 ≤ 1 := Nat.le_of_eq e2'
                      rw [Bool.not_false] at x1 y1 z1 q2
                      have hmr : (h9 : Int) + (d9 : Int) - (h0 : Int) - (d0 : Int) = 1 := by have := e1; omega
                      have hmo : (h7 : Int) + (d7 : Int) = 1 := by have := e2'; omega
                      have He1 := Lib.hid e1
                      clear e1
                      have He2' := Lib.hid e2'
                      clear e2'
                      go_upto_region 38 with (first | ((with_reducible refine wp_region_por ?_ ?_ ?_ ?_); kernel_rfl; kernel_rfl; (with_reducible repeat (first | exact calm_ret | refine calm_then ?_ | refine calm_in ?_ | refine calm_chk ?_ | refine calm_noGoto ?_))) | ((with_reducible refine chk_end ?_ ?_); kernel_rfl))
                      go_quiet (fail)
                      go_upto_region 40 with (first | (go_at_call 24; (refine ret_use (Hhix.out _ (by have := HMi.out; repeat (first | exact this | apply Mods.drew | apply Mods.drewN))) ?_; rintro v w6 ⟨rfl, rfl⟩)) | ((with_reducible refine wp_region_por ?_ ?_ ?_ ?_); kernel_rfl; kernel_rfl; (with_reducible repeat (first | exact calm_ret | refine calm_then ?_ | refine calm_in ?_ | refine calm_chk ?_ | refine calm_noGoto ?_))) | ((with_reducible refine chk_end ?_ ?_); kernel_rfl))
                      go_quiet (exact ret_quiet (Hhix2.out _ (by have := HMi.out; repeat (first | exact this | apply Mods.drew | apply Mods.drewN))) ⟨_, rfl⟩)
                      go_wp2
                      go_quiet (fail)
                      go_wp2_with (first | ((with_reducible refine wp_region_por ?_ ?_ ?_ ?_); kernel_rfl; kernel_rfl; (with_reducible repeat (first | exact calm_ret | refine calm_then ?_ | refine calm_in ?_ | refine calm_chk ?_ | refine calm_noGoto ?_))) | ((with_reducible refine chk_end ?_ ?_); kernel_rfl))
                      go_roundg (gk - 1)
                      case rel => exact ⟨i + 1, by go_num, h1, by have := Hki4.out; omega, by have := HMi.out; repeat (first | exact this | apply Mods.drew | apply Mods.drewN)⟩
                      case measure => have := Hki4.out; omega
                    · rw [if_neg hq] at y2 y4 z2 z4
                      rw [decide_eq_false hq] at q1
                      obtain ⟨h0, hh0⟩ : ∃ n, n = st.L.length := ⟨_, rfl⟩
                      obtain ⟨d0, hd0⟩ : ∃ n, n = st.dropped := ⟨_, rfl⟩
                      obtain ⟨dd, hdd⟩ : ∃ b, b = decide (s ∈ down) := ⟨_, rfl⟩
                      rw [← hh0] at x2 y2 hst1
                      rw [← hd0] at x4 y4 hst2
                      rw [← hdd] at x1 y1 z1 q2
                      have hmr : (h0 : Int) + (d0 : Int) - (h0 : Int) - (d0 : Int) = 0 := by omega
                      change _ = some (Value.int .i64 0) at z2
                      change _ = some (Value.int .i64 0) at z4
                      clear hh0 hd0 hdd hDs hq hsN hH1 x3 y3 z3
                      cases dd with
                      | true =>
                        rw [Bool.not_true] at x1 y1 z1 q2
                        go_upto_region 38 with (first | ((with_reducible refine wp_region_por ?_ ?_ ?_ ?_); kernel_rfl; kernel_rfl; (with_reducible repeat (first | exact calm_ret | refine calm_then ?_ | refine calm_in ?_ | refine calm_chk ?_ | refine calm_noGoto ?_))) | ((with_reducible refine chk_end ?_ ?_); kernel_rfl))
                        go_quiet (fail)
                        go_upto_region 40 with (first | (go_at_call 24; (refine ret_use (Hhix.out _ (by have := HMi.out; repeat (first | exact this | apply Mods.drew | apply Mods.drewN))) ?_; rintro v w6 ⟨rfl, rfl⟩)) | ((with_reducible refine wp_region_por ?_ ?_ ?_ ?_); kernel_rfl; kernel_rfl; (with_reducible repeat (first | exact calm_ret | refine calm_then ?_ | refine calm_in ?_ | refine calm_chk ?_ | refine calm_noGoto ?_))) | ((with_reducible refine chk_end ?_ ?_); kernel_rfl))
                        go_quiet (exact ret_quiet (Hhix2.out _ (by have := HMi.out; repeat (first | exact this | apply Mods.drew | apply Mods.drewN))) ⟨_, rfl⟩)
                        go_wp2
                        go_quiet (fail)
                        go_wp2_with (first | ((with_reducible refine wp_region_por ?_ ?_ ?_ ?_); kernel_rfl; kernel_rfl; (with_reducible repeat (first | exact calm_ret | refine calm_then ?_ | refine calm_in ?_ | refine calm_chk ?_ | refine calm_noGoto ?_))) | ((with_reducible refine chk_end ?_ ?_); kernel_rfl))
                        go_roundg (gk - 1)
                        case rel => exact ⟨i + 1, by go_num, h1, by have := Hki4.out; omega, by have := HMi.out; repeat (first | exact this | apply Mods.drew | apply Mods.drewN)⟩
                        case measure => have := Hki4.out; omega
                      | false =>
                        rw [Bool.not_false] at x1 y1 z1 q2
                        go_upto_region 38 with (first | ((with_reducible refine wp_region_por ?_ ?_ ?_ ?_); kernel_rfl; kernel_rfl; (with_reducible repeat (first | exact calm_ret | refine calm_then ?_ | refine calm_in ?_ | refine calm_chk ?_ | refine calm_noGoto ?_))) | ((with_reducible refine chk_end ?_ ?_); kernel_rfl))
                        go_quiet (fail)
                        go_upto_region 40 with (first | (go_at_call 24; (refine ret_use (Hhix.out _ (by have := HMi.out; repeat (first | exact this | apply Mods.drew | apply Mods.drewN))) ?_; rintro v w6 ⟨rfl, rfl⟩)) | ((with_reducible refine wp_region_por ?_ ?_ ?_ ?_); kernel_rfl; kernel_rfl; (with_reducible repeat (first | exact calm_ret | refine calm_then ?_ | refine calm_in ?_ | refine calm_chk ?_ | refine calm_noGoto ?_))) | ((with_reducible refine chk_end ?_ ?_); kernel_rfl))
                        go_quiet (exact ret_quiet (Hhix2.out _ (by have := HMi.out; repeat (first | exact this | apply Mods.drew | apply Mods.drewN))) ⟨_, rfl⟩)
                        go_wp2
                        go_quiet (fail)
                        go_wp2_with (first | ((with_reducible refine wp_region_por ?_ ?_ ?_ ?_); kernel_rfl; kernel_rfl; (with_reducible repeat (first | exact calm_ret | refine calm_then ?_ | refine calm_in ?_ | refine calm_chk ?_ | refine calm_noGoto ?_))) | ((with_reducible refine chk_end ?_ ?_); kernel_rfl))
                        go_roundg (gk - 1)
                        case rel => exact ⟨i + 1, by go_num, h1, by have := Hki4.out; omega, by have := HMi.out; repeat (first | exact this | apply Mods.drew | apply Mods.drewN)⟩
                        case measure => have := Hki4.out; omega
                  · obtain rfl : i = m := by omega
                    go_wp2_with (first | (go_at_call 12; (refine ret_use (Hhal.out _ (HW0.out ▸ HTf.out.hm.trans HMi.out fun _ _ e => e)) ?_; rintro v w4 ⟨rfl, hm4⟩; have HM4z := Lib.hid hm4; clear hm4)) | ((with_reducible refine wp_region_por ?_ ?_ ?_ ?_); kernel_rfl; kernel_rfl; (with_reducible repeat (first | exact calm_ret | refine calm_then ?_ | refine calm_in ?_ | refine calm_chk ?_ | refine calm_noGoto ?_))) | ((with_reducible refine chk_end ?_ ?_); kernel_rfl))
                    go_ret
                    exact ⟨rfl, HM0.out.trans ((HW0.out ▸ HTf.out.hm.trans HMi.out fun _ _ e => e).trans HM4z.out fun _ _ e => e) fun _ _ e => e⟩
      · obtain ⟨acc, hacc⟩ : ∃ acc, acc = (nodes.drop (j + 1)).reverse := ⟨_, rfl⟩
        have ho := Hin.out.own
        rw [← hacc] at ho
        have hac8 : acc.length ≤ 65536 := by rw [hacc, List.length_reverse, List.length_drop]; omega
        have HA := Lib.hid hacc
        have HO := Lib.hid ho
        obtain ⟨A7, c7, rfl, _, _⟩ := ho.form
        obtain ⟨x, hx⟩ := lt_get (show j < nodes.length by omega)
        have hmr := HM05.out.trans Hin.out.hm fun _ _ e => e
        obtain ⟨b1, o1, rfl, _, x0⟩ := (HRN.out.keep (HM0.out.trans (HW0.out ▸ hmr) fun _ _ e => e)).tx rfl hx
        unfold ks at x0
        have Hx := Lib.hid hx
        have hcb := HBX.out.mods (HW0.out ▸ hmr) fun e => e
        have b0 := hcb.at_ 0 rfl
        have bl := hcb.lt
        have j0 := Hin.out.box.at_ 0 rfl
        have jl := Hin.out.box.lt
        have jf := Hin.out.box.frozen 0
        clear ho hacc hx hcb hmr
        go_wp2_with (first | ((with_reducible refine wp_region_one 10 (fun g => g = w5.heap.size) [1] 7 ?_ ?_ ?_ ?_ ?_); kernel_rfl; kernel_rfl; kernel_rfl; (with_reducible repeat (first | exact calm_ret | refine calm_then ?_ | refine calm_in ?_ | refine calm_chk ?_ | refine calm_noGoto ?_)); simp only [List.drop_succ_cons, List.drop_zero, List.take_succ_cons, List.take_zero]) | (with_reducible refine segEnd ?_) | (refine And.intro (Keep.one ((Mods.refl No _).alloc _) Hin.out.box (fun e => e)) ?_) | ((with_reducible refine chkM_end (fun g => g = w5.heap.size) ?_ [.pointer (some ⟨w5.heap.size, 0, none⟩)] ?_ ?_ ?_); kernel_rfl; kernel_rfl; (intro v hv x hx; simp only [List.mem_cons, List.not_mem_nil, or_false] at hv; subst hv; (injection hx with hx; injection hx with hx; subst hx; simp))) | (at_builtin; ((refine wpList_append _ rfl (.tmp 63) (.tmp 69) 22 rfl 9 (.string ⟨#[]⟩) 1 16 Tryd.underlying22 infoTx rfl (by decide) (F := fun g => w5.heap.size ≤ g) (n := acc.length) (xs := acc.map ks) (by rfl) (HO.out.mods ((Mods.refl No wr).alloc (.cells #[ks x] 9)).drew fun _ _ e => e) (G := fun g => g = wr.heap.size) (y := .slice (some ⟨wr.heap.size, 0, none⟩) 1 1) (m := 1) (news := [ks x]) (by rfl) (Rd.box wr #[ks x] _ rfl rfl (by decide)) (fun u hu => by rw [List.mem_singleton.1 hu]; rfl) (by omega) (by decide) ?_); intro v8 w8 hown8 hm8 _; have HE8 := Lib.hid (Hin.out.more Hx.out HA.out ((Mods.refl No wr).alloc (.cells #[ks x] 9)).drew hown8 hm8); have hc8 := (Hin.out.box.mods ((Mods.refl No wr).alloc (.cells #[ks x] 9)).drew fun e => e).mods hm8 (Hin.out.own.ne_cells Hin.out.box (by decide)); have j0 := hc8.at_ 0 rfl; have jf := hc8.frozen 0; have jl := hc8.lt; obtain ⟨A8, c8, rfl, _, _⟩ := hown8.form; clear hown8 hm8 hc8)) | ((with_reducible refine wp_region_por ?_ ?_ ?_ ?_); kernel_rfl; kernel_rfl; (with_reducible repeat (first | exact calm_ret | refine calm_then ?_ | refine calm_in ?_ | refine calm_chk ?_ | refine calm_noGoto ?_))) | ((with_reducible refine chk_end ?_ ?_); kernel_rfl))
        go_roundg j
        case rel =>
          refine ⟨j, rfl, by omega, ?_, _, HE8.out⟩
          rcases j with _ | j
          · exact .inl ⟨rfl, by go_num⟩
          · exact .inr ⟨j, rfl, by go_num⟩
        case measure => have := Hki.out; omega
  · have he1 : (e != 0) = true := bne_iff_ne.2 h0
    have hbad := fun w1 w' v (h : RelNew w1 w' nodes C R H nw v) => relnew_bad h he h0
    have Hhrn := Lib.hid hrn2
    clear he h0 hbx hM0 hrn2 hr hrn hp hrd
    have Hht := Lib.hid ht
    clear ht
    have Hhnn := Lib.hid hnn
    clear hnn
    have Hhal := Lib.hid hal
    clear hal
    have Hhbad := Lib.hid hbad
    clear hbad
    unfold ks
    go_enter Tryd.func6, Tryd.ntmps6
    go_wp2_with (first | (go_at_call 11; (refine ret_use (Hhrn.out) ?_; rintro v w3 hn3; obtain ⟨A0, n0, c0, C', R', H', nw', cc, A1, n1, c1, A2, n2, c2, A3, n3, c3, rfl, hm3, -⟩ := hn3; have HM3 := Lib.hid (hm3.alloc (.cells #[.slice A0 n0 c0, .int .i64 C', .int .i64 R', .int .i64 H', .bool nw', .int .i64 cc, .slice A1 n1 c1, .slice A2 n2 c2, .slice A3 n3 c3] 36)); have hb2 := HBX.out.mods HM3.out fun e => e; have d0 := hb2.at_ 0 rfl; have d1 := hb2.at_ 1 rfl; have d2 := hb2.at_ 2 rfl; have d3 := hb2.at_ 3 rfl; have d4 := hb2.at_ 4 rfl; have dl := hb2.lt; clear hm3 hb2)) | (go_at_call 10; (refine ret_use (Hhnn.out _ HM3.out) ?_; rintro v w2 hn2; obtain ⟨rfl, hm2⟩ := Hhbad.out _ _ _ hn2; have HM2 := Lib.hid (HM3.out.trans hm2 fun _ _ e => e); clear hn2 hm2)) | (go_at_call 12; (refine ret_use (Hhal.out _ HM2.out) ?_; rintro v w4 ⟨rfl, hm4⟩; have HM4 := Lib.hid hm4; clear hm4)) | ((with_reducible refine wp_region_por ?_ ?_ ?_ ?_); kernel_rfl; kernel_rfl; (with_reducible repeat (first | exact calm_ret | refine calm_then ?_ | refine calm_in ?_ | refine calm_chk ?_ | refine calm_noGoto ?_))) | ((with_reducible refine chk_end ?_ ?_); kernel_rfl))
    go_ret
    exact ⟨rfl, HM0.out.trans (HM2.out.trans HM4.out fun _ _ e => e) fun _ _ e => e⟩
end Go.Proofs.YtcifajfmdpjfiaaDoor
