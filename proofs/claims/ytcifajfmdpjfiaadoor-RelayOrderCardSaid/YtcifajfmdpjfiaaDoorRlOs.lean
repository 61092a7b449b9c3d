/- The law RelayOrder, walked. -/
import Derived.Test.YtcifajfmdpjfiaaDoorRlOr
namespace Go.Proofs.YtcifajfmdpjfiaaDoor
open Go.RowKit Go.Tum Go.Lib Go.Sort
set_option maxRecDepth 100000
/-- Byte i of a list that reads. -/
theorem _root_.Go.Tum.Rd.byt {w : World} {F : Nat → Prop} {A : Option Addr} {c n : Nat} {l : List UInt8} (h : Rd w F 1 (.slice A n c) n (vbs l)) (hn : l.length = n) {i : Nat} {x : UInt8} (hx : l[i]? = some x) :
    ∃ b off, A = some ⟨b, off, none⟩ ∧ F b ∧ w.cell? ⟨b, off + i, none⟩ = some (.int .u8 (x.toNat : Int)) := by
  subst hn
  obtain ⟨hi, _⟩ := List.getElem?_eq_some_iff.1 hx
  obtain ⟨b, off, c', e, hF, hc⟩ := h.cells (by omega)
  injection e with e
  refine ⟨b, off, e, hF, ?_⟩
  rw [hc _ (by omega), vbs, List.getElem?_map, hx]; rfl
theorem _root_.Go.Tum.Rd.byt_at {w : World} {F : Nat → Prop} {b off c n : Nat} {l : List UInt8} (h : Rd w F 1 (.slice (some ⟨b, off, none⟩) n c) n (vbs l)) (hn : l.length = n) {i : Nat} {x : UInt8} (hx : l[i]? = some x) : w.cell? ⟨b, off + i, none⟩ = some (.int .u8 (x.toNat : Int)) := by
  obtain ⟨_, _, e, _, h1⟩ := h.byt hn hx
  injection e with e
  injection e with e1 e2
  subst e1 e2
  exact h1
theorem _root_.Go.Tum.Rd.tx_at {w : World} {F : Nat → Prop} {b off c n : Nat} {l : List Tx} (h : Rd w F 1 (.slice (some ⟨b, off, none⟩) n c) n (l.map ks)) (hn : l.length = n) {i : Nat} {x : Tx} (hx : l[i]? = some x) : w.cell? ⟨b, off + i, none⟩ = some (.string ⟨x.toArray⟩) := by
  obtain ⟨_, _, e, _, h1⟩ := h.tx hn hx
  injection e with e
  injection e with e1 e2
  subst e1 e2
  exact h1
theorem take_app (l : List Rcd) (c m : Nat) : rcs (l.take c) ++ rcs ((l.drop c).take m) = rcs (l.take (c + m)) := by
  unfold rcs
  rw [← List.flatMap_append, ← List.take_add]
/-- What a further append makes. -/
theorem or_app {W w w' : World} {rb C i c m : Nat} {nodes : List Tx} {l : List Rcd} {F : Nat → Prop} {S : List Stn} {s : Tx} {v v' : Value} (h : OrS W w rb C nodes l i (c + m) s F S) (hv : Own w (fun g => W.heap.size ≤ g ∧ ¬ F g) 45 4 v c (rcs (l.take c)))
    (ho : Own w' (fun k => v.ownBlock = some k ∨ k = w.heap.size) 45 4 v' (c + m) (rcs (l.take c) ++ rcs ((l.drop c).take m))) (hm : Mods (fun k => v.ownBlock = some k) w w') :
    OrS W w' rb C nodes l i (c + m) s F S ∧ Own w' (fun g => W.heap.size ≤ g ∧ ¬ F g) 45 4 v' (c + m) (rcs (l.take (c + m))) := by
  refine ⟨h.mods hm (fun b e => (hv.2 b e).2) fun b e => (hv.2 b e).1, ?_⟩
  rw [take_app] at ho
  refine ho.more fun b e => ?_
  rcases e with e | e
  · exact hv.2 b e
  · exact ⟨by have := h.hm.size; omega, fun k => by have := h.up b k; omega⟩
/-- What was got stays got over a taking. -/
theorem got_take {W w w' : World} {F F' : Nat → Prop} {v : Value} {c : Nat} {xs : List Value} (hv : Own w (fun g => W.heap.size ≤ g ∧ ¬ F g) 45 4 v c xs) (hf : ∀ b, b < w.heap.size → F' b → F b) (hm : Mods F w w') : Own w' (fun g => W.heap.size ≤ g ∧ ¬ F' g) 45 4 v c xs := by
  have h1 := Tum.Own.mods hv hm fun b hb e => (hv.2 b hb).2 e
  exact ⟨h1.1, fun b hb => ⟨(hv.2 b hb).1, fun e => (hv.2 b hb).2 (hf b (hv.lt b hb) e)⟩⟩
theorem or_new {W w : World} {rb C : Nat} {nodes : List Tx} (h : RelK w rb (C : Int).toNat (8 : Int).toNat (65536 : Int).toNat false (nodesOf nodes) (List.replicate nodes.length stn0) [] (fun b => W.heap.size ≤ b)) (hm : Mods No W w) : OrP W w rb C (nodesOf nodes) [] :=
  ⟨by rw [nodesOf_len]; exact h, hm⟩
set_option maxHeartbeats 6400000 in
theorem relayOrder_K (w : World) (nodes : List Tx) (C : Int) (l : List Rcd) (tk : List UInt8) (vn vl vt : Value) (ht : Tab w) (hrn : Rd w (fun g => g < w.heap.size) 1 vn nodes.length (nodes.map ks)) (hr : Rd w (fun g => g < w.heap.size) 4 vl l.length (rcs l)) (hrt : Rd w (fun g => g < w.heap.size) 1 vt tk.length (vbs tk)) (hp : ∀ x ∈ l, x.1.length ≤ maxLen) :
    Calls Tryd.prog 3 #[vn, .int .i64 C, vl, vt] w (Ret fun v w' => v = .bool true ∧ Mods No w w') := by
  obtain ⟨An, cn, rfl, hnc, hnx⟩ := hrn.form
  obtain ⟨A, c, rfl, hac, hmx⟩ := hr.form
  obtain ⟨At, ct, rfl, htc, htx⟩ := hrt.form
  have hM0 : Mods No w (w.alloc (.cells #[.slice An nodes.length cn, .int .i64 C, .int .i64 8, .int .i64 65536, .bool false] 26)) := (Mods.refl No w).alloc _
  have hbx := Cells.new w 26 #[.slice An nodes.length cn, .int .i64 C, .int .i64 8, .int .i64 65536, .bool false]
  have hn := relnew_K (w.alloc (.cells #[.slice An nodes.length cn, .int .i64 C, .int .i64 8, .int .i64 65536, .bool false] 26)) _ nodes C 8 65536 false (hrn.keep hM0) (ht.no hM0)
  have hrn2 := fun w' (hm : Mods No (w.alloc (.cells #[.slice An nodes.length cn, .int .i64 C, .int .i64 8, .int .i64 65536, .bool false] 26)) w') => rrnew_K w' An cn nodes C 8 65536 false ((hrn.keep hM0).keep hm)
  have hal := fun w' (hm : Mods No (w.alloc (.cells #[.slice An nodes.length cn, .int .i64 C, .int .i64 8, .int .i64 65536, .bool false] 26)) w') => ralive_K w' ((ht.no hM0).no hm)
  obtain ⟨e, he⟩ : ∃ e, e = relE nodes C 8 65536 := ⟨_, rfl⟩
  unfold RrNewIs at hrn2
  rw [← he] at hrn2
  have HBX := Lib.hid hbx
  have HM0 := Lib.hid hM0
  have b0 := hbx.at_ 0 rfl
  have b1 := hbx.at_ 1 rfl
  have b2 := hbx.at_ 2 rfl
  have b3 := hbx.at_ 3 rfl
  have b4 := hbx.at_ 4 rfl
  have bl := hbx.lt
  unfold maxLen at hnx hmx htx
  by_cases h0 : e = 0
  · have he1 : (e != 0) = false := by rw [h0]; rfl
    have hz := relE_zero (he.symm.trans h0)
    have hok := fun w' v (h : RelNew (w.alloc (.cells #[.slice An nodes.length cn, .int .i64 C, .int .i64 8, .int .i64 65536, .bool false] 26)) w' nodes C 8 65536 false v) => relnew_ok h (he.symm.trans h0)
    have hnd := (newE_zero hz.1).2.2.2.2
    have hc1 := (newE_zero hz.1).1
    obtain ⟨C, rfl⟩ : ∃ k : Nat, C = (k : Int) := ⟨C.toNat, by omega⟩
    subst h0
    have Hnd := Lib.hid hnd
    have Hp := Lib.hid hp
    clear hz he hbx hM0 hp hnd hc1
    have Hhrn := Lib.hid hrn2
    have HR := Lib.hid hr
    have HRN := Lib.hid hrn
    have HRT := Lib.hid hrt
    clear hrn2 hr hrn hrt
    have Hht := Lib.hid ht
    clear ht
    have Hhn := Lib.hid hn
    clear hn
    have Hhal := Lib.hid hal
    clear hal
    have Hhok := Lib.hid hok
    clear hok
    by_cases a1 : 8 < nodes.length
    · go_enter Tryd.func3, Tryd.ntmps3
      go_wp2_with (first | (go_at_call 10; (refine ret_use (Hhn.out) ?_; rintro v w2 hn2; obtain ⟨rb, rfl, hr2, hm2⟩ := Hhok.out _ _ hn2; have HM2 := Lib.hid hm2; have hb2 := HBX.out.mods hm2 fun e => e; have d0 := hb2.at_ 0 rfl; have d1 := hb2.at_ 1 rfl; have d2 := hb2.at_ 2 rfl; have d3 := hb2.at_ 3 rfl; have d4 := hb2.at_ 4 rfl; have dl := hb2.lt; clear hn2 hm2 hb2 hr2)) | (go_at_call 11; (refine ret_use (Hhrn.out _ HM2.out) ?_; rintro v w3 hn3; obtain ⟨A0, n0, c0, C', R', H', nw', cc, A1, n1, c1, A2, n2, c2, A3, n3, c3, rfl, hm3, -⟩ := hn3; have HM3 := Lib.hid hm3; clear hm3)) | (go_at_call 12; (refine ret_use (Hhal.out _ (HM2.out.trans (HM3.out.alloc _) fun _ _ e => e)) ?_; rintro v w4 ⟨rfl, hm4⟩; have HM4 := Lib.hid hm4; clear hm4)) | ((with_reducible refine wp_region_por ?_ ?_ ?_ ?_); kernel_rfl; kernel_rfl; (with_reducible repeat (first | exact calm_ret | refine calm_then ?_ | refine calm_in ?_ | refine calm_chk ?_ | refine calm_noGoto ?_))) | ((with_reducible refine chk_end ?_ ?_); kernel_rfl))
      go_ret
      exact ⟨rfl, HM0.out.trans ((HM2.out.trans (HM3.out.alloc _) fun _ _ e => e).trans HM4.out fun _ _ e => e) fun _ _ e => e⟩
    · by_cases a2 : 65536 < l.length
      · go_enter Tryd.func3, Tryd.ntmps3
        go_wp2_with (first | (go_at_call 10; (refine ret_use (Hhn.out) ?_; rintro v w2 hn2; obtain ⟨rb, rfl, hr2, hm2⟩ := Hhok.out _ _ hn2; have HM2 := Lib.hid hm2; have hb2 := HBX.out.mods hm2 fun e => e; have d0 := hb2.at_ 0 rfl; have d1 := hb2.at_ 1 rfl; have d2 := hb2.at_ 2 rfl; have d3 := hb2.at_ 3 rfl; have d4 := hb2.at_ 4 rfl; have dl := hb2.lt; clear hn2 hm2 hb2 hr2)) | (go_at_call 11; (refine ret_use (Hhrn.out _ HM2.out) ?_; rintro v w3 hn3; obtain ⟨A0, n0, c0, C', R', H', nw', cc, A1, n1, c1, A2, n2, c2, A3, n3, c3, rfl, hm3, -⟩ := hn3; have HM3 := Lib.hid hm3; clear hm3)) | (go_at_call 12; (refine ret_use (Hhal.out _ (HM2.out.trans (HM3.out.alloc _) fun _ _ e => e)) ?_; rintro v w4 ⟨rfl, hm4⟩; have HM4 := Lib.hid hm4; clear hm4)) | ((with_reducible refine wp_region_por ?_ ?_ ?_ ?_); kernel_rfl; kernel_rfl; (with_reducible repeat (first | exact calm_ret | refine calm_then ?_ | refine calm_in ?_ | refine calm_chk ?_ | refine calm_noGoto ?_))) | ((with_reducible refine chk_end ?_ ?_); kernel_rfl))
        go_ret
        exact ⟨rfl, HM0.out.trans ((HM2.out.trans (HM3.out.alloc _) fun _ _ e => e).trans HM4.out fun _ _ e => e) fun _ _ e => e⟩
      · go_enter Tryd.func3, Tryd.ntmps3
        go_wp2_with (first | (go_at_call 10; (refine ret_use (Hhn.out) ?_; rintro v w2 hn2; obtain ⟨rb, rfl, hr2, hm2⟩ := Hhok.out _ _ hn2; have HM2 := Lib.hid hm2; have HP2 := Lib.hid (or_new hr2 hm2); have hb2 := HBX.out.mods hm2 fun e => e; have d0 := hb2.at_ 0 rfl; have d1 := hb2.at_ 1 rfl; have d2 := hb2.at_ 2 rfl; have d3 := hb2.at_ 3 rfl; have d4 := hb2.at_ 4 rfl; have dl := hb2.lt; clear hn2 hm2 hb2 hr2)) | (go_at_call 11; (refine ret_use (Hhrn.out _ HM2.out) ?_; rintro v w3 hn3; obtain ⟨A0, n0, c0, C', R', H', nw', cc, A1, n1, c1, A2, n2, c2, A3, n3, c3, rfl, hm3, -⟩ := hn3; have HM3 := Lib.hid hm3; clear hm3)) | ((with_reducible refine wp_region_por ?_ ?_ ?_ ?_); kernel_rfl; kernel_rfl; (with_reducible repeat (first | exact calm_ret | refine calm_then ?_ | refine calm_in ?_ | refine calm_chk ?_ | refine calm_noGoto ?_))) | ((with_reducible refine chk_end ?_ ?_); kernel_rfl))
        clear d0 d1 d2 d3 d4 b0 b1 b2 b3 b4
        have HP3 := Lib.hid (show OrP (w.alloc (.cells #[.slice An nodes.length cn, .int .i64 (C : Int), .int .i64 8, .int .i64 65536, .bool false] 26)) (w3.alloc (.cells #[.slice A0 n0 c0, .int .i64 C', .int .i64 R', .int .i64 H', .bool nw', .int .i64 cc, .slice A1 n1 c1, .slice A2 n2 c2, .slice A3 n3 c3] 36)) rb C (nodesOf nodes) [] from ⟨(HP2.out.rel.no HM3.out).no ((Mods.refl No w3).alloc _), HM2.out.trans (HM3.out.alloc _) fun _ _ e => e⟩)
        go_loopg [14] l.length (fun k v14 wr => ∃ i : Nat, v14 = .int .i64 i ∧ i ≤ l.length ∧ k + i = l.length ∧ OrP (w.alloc (.cells #[.slice An nodes.length cn, .int .i64 (C : Int), .int .i64 8, .int .i64 65536, .bool false] 26)) wr rb C (nodesOf nodes) (l.take i))
        case atStart => exact ⟨0, rfl, Nat.zero_le _, rfl, HP3.out⟩
        case round =>
          obtain ⟨i, rfl, hi, hki, hin⟩ := hrel
          have Hki := Lib.hid hki
          have Hin := Lib.hid hin
          have hrr := HR.out.keep (HM0.out.trans hin.hm fun _ _ e => e)
          clear hki hin
          rcases Nat.lt_or_ge i l.length with h1 | h1
          · obtain ⟨x, hx⟩ := lt_get h1
            obtain ⟨b1, o1, rfl, _, x0, x1, x2, x3⟩ := hrr.rcd rfl hx
            have hpt := fun w' h => or_put (W := (w.alloc (.cells #[.slice An nodes.length cn, .int .i64 (C : Int), .int .i64 8, .int .i64 65536, .bool false] 26))) (w := w') (rb := rb) (C := C) (N := nodesOf nodes) (d := l.take i) (x := x) h (by rw [nodesOf_len]; omega) (Hp.out x (List.mem_of_getElem? hx)) (by rw [List.length_take]; omega)
            rw [nodesOf_len] at hpt
            have Hx := Lib.hid hx
            clear hrr hx
            have Hhpt := Lib.hid hpt
            clear hpt
            unfold rv ks at Hhpt
            unfold ks at x0
            go_wp2_with (first | (go_at_call 13; (refine ret_use (Hhpt.out _ Hin.out) ?_; rintro v w5 ⟨rfl, hd5⟩; have HD5 := Lib.hid hd5; clear hd5)) | ((with_reducible refine wp_region_por ?_ ?_ ?_ ?_); kernel_rfl; kernel_rfl; (with_reducible repeat (first | exact calm_ret | refine calm_then ?_ | refine calm_in ?_ | refine calm_chk ?_ | refine calm_noGoto ?_))) | ((with_reducible refine chk_end ?_ ?_); kernel_rfl))
            go_roundg (gk - 1)
            case rel => exact ⟨i + 1, by go_num, h1, by have := Hki.out; omega, by rw [take_nx Hx.out]; exact HD5.out⟩
            case measure => have := Hki.out; omega
          · obtain rfl : i = l.length := by omega
            have hin := Hin.out
            rw [List.take_length] at hin
            have HO0 := Lib.hid hin.out
            clear hin
            go_wp2_with (first | ((with_reducible refine wp_region_por ?_ ?_ ?_ ?_); kernel_rfl; kernel_rfl; (with_reducible repeat (first | exact calm_ret | refine calm_then ?_ | refine calm_in ?_ | refine calm_chk ?_ | refine calm_noGoto ?_))) | ((with_reducible refine chk_end ?_ ?_); kernel_rfl))
            go_loopg [15] nodes.length (fun k v15 wr => ∃ (i : Nat) (F : Nat → Prop) (S : List Stn), v15 = .int .i64 i ∧ i ≤ nodes.length ∧ k + i = nodes.length ∧ OrO (w.alloc (.cells #[.slice An nodes.length cn, .int .i64 (C : Int), .int .i64 8, .int .i64 65536, .bool false] 26)) wr rb C nodes l i F S)
            case atStart => exact ⟨0, _, _, rfl, Nat.zero_le _, rfl, HO0.out⟩
            case round =>
              obtain ⟨i, F, S, rfl, hi, hki, hin⟩ := hrel
              obtain ⟨K2, hK2⟩ : ∃ K2, K2 = gk := ⟨_, rfl⟩
              have HK2 := Lib.hid hK2
              clear hK2
              have Hki2 := Lib.hid hki
              have HOI := Lib.hid hin
              clear hki hin
              rcases Nat.lt_or_ge i nodes.length with h1 | h1
              · obtain ⟨s, hs⟩ := lt_get h1
                have Hs := Lib.hid hs
                obtain ⟨bn, on, rfl, _, _⟩ := HRN.out.tx rfl hs
                have htk := fun w' F S c (h : OrS (w.alloc (.cells #[.slice (some ⟨bn, on, none⟩) nodes.length cn, .int .i64 (C : Int), .int .i64 8, .int .i64 65536, .bool false] 26)) w' rb C nodes l i c s F S) n => take_K w' rb C 8 65536 false (nodesOf nodes) S [] F s n h.rel fun t ht => by have := h.sum t ht; omega
                clear hs
                have Hhtk := Lib.hid htk
                clear htk
                unfold ks at Hhtk
                go_wp2_with (first | ((with_reducible refine wp_region_por ?_ ?_ ?_ ?_); kernel_rfl; kernel_rfl; (with_reducible repeat (first | exact calm_ret | refine calm_then ?_ | refine calm_in ?_ | refine calm_chk ?_ | refine calm_noGoto ?_))) | ((with_reducible refine chk_end ?_ ?_); kernel_rfl))
                go_loopg [16, 17] tk.length (fun k v16 v17 wr => ∃ (j c : Nat) (F : Nat → Prop) (S : List Stn), v17 = .int .i64 j ∧ j ≤ tk.length ∧ k + j = tk.length ∧ OrS (w.alloc (.cells #[.slice (some ⟨bn, on, none⟩) nodes.length cn, .int .i64 (C : Int), .int .i64 8, .int .i64 65536, .bool false] 26)) wr rb C nodes l i c s F S ∧ Own wr (fun g => ((w.alloc (.cells #[.slice (some ⟨bn, on, none⟩) nodes.length cn, .int .i64 (C : Int), .int .i64 8, .int .i64 65536, .bool false] 26))).heap.size ≤ g ∧ ¬ F g) 45 4 v16 c (rcs (l.take c)))
                case atStart => exact ⟨0, 0, F, S, rfl, Nat.zero_le _, rfl, HOI.out.start Hs.out, Own.nil _ _ _ _⟩
                case round =>
                  obtain ⟨j, c8, F4, S4, rfl, hj, hkj, hin, hgo⟩ := hrel
                  have Hkj := Lib.hid hkj
                  have HOS := Lib.hid hin
                  have HGO := Lib.hid hgo
                  obtain ⟨A9, k9, rfl, _, _⟩ := hgo.form
                  have hM4 := HM0.out.trans hin.hm fun _ _ e => e
                  have x0 := (HRN.out.keep hM4).tx_at rfl Hs.out
                  have hcl := hin.le
                  have HM4 := Lib.hid hM4
                  clear hkj hin hgo hM4
                  rcases Nat.lt_or_ge j tk.length with h2 | h2
                  · obtain ⟨t, htj⟩ := lt_get h2
                    obtain ⟨bt, ot, rfl, _, y0⟩ := (HRT.out.keep HM4.out).byt rfl htj
                    have Htj := Lib.hid htj
                    have ht8 : t.toNat ≤ 255 := by have := t.toNat_lt; omega
                    have hrt5 := fun w' (hm : Mods No w w') => (HRT.out.keep hm).byt_at rfl htj
                    obtain ⟨tn, htn⟩ : ∃ tn, tn = t.toNat := ⟨_, rfl⟩
                    rw [← htn] at y0 ht8 hrt5
                    have HOD := Lib.hid (HOS.out.mods (Mods.refl No wr).drew (fun _ e => e.elim) (fun _ e => e.elim))
                    have HGD := Lib.hid (Tum.Own.mods HGO.out (Mods.refl No wr).drew fun _ _ e => e)
                    have htk2 := Hhtk.out wr.drew F4 S4 c8 HOD.out ((tn : Int) + 1)
                    have hor := fun w' v (h : TakeIs wr.drew w' rb C 8 65536 false (nodesOf nodes) S4 [] F4 s ((tn : Int) + 1) v) => or_take HOD.out Hs.out Hnd.out (by omega) h
                    clear htj htn
                    have Hhtk2 := Lib.hid htk2
                    clear htk2
                    have Hhor := Lib.hid hor
                    clear hor
                    have Hhrt5 := Lib.hid hrt5
                    clear hrt5
                    go_wp2_with (first | (go_at_call 14; (refine ret_use (Hhtk2.out) ?_; rintro v w4 ht4; obtain ⟨A5, m5, k5, F5, S5, rfl, hm5, ho5, hs5, hf5, hmm5⟩ := Hhor.out _ _ ht4; have hml : m5 ≤ tn + 1 := (by omega); have hcm : c8 + m5 ≤ 65536 := (by omega); have HS := Lib.hid hs5; have HX5 := Lib.hid ho5; have HGT := Lib.hid (got_take HGD.out hf5 hmm5); have y5 := Hhrt5.out _ (HM0.out.trans hs5.hm fun _ _ e => e); clear ht4 hm5 ho5 hs5 hf5 hmm5)) | (at_builtin; ((refine wpList_append _ rfl (.tmp 117) (.tmp 118) 23 rfl 45 (.agg #[.string ⟨#[]⟩, .int .i64 0, .int .u64 0, .int .i64 0]) 4 40 Tryd.underlying23 infoRc rfl (by decide) (F := fun g => ((w.alloc (.cells #[.slice (some ⟨bn, on, none⟩) nodes.length cn, .int .i64 (C : Int), .int .i64 8, .int .i64 65536, .bool false] 26))).heap.size ≤ g ∧ ¬ F5 g) (n := c8) (xs := rcs (l.take c8)) (by rfl) HGT.out (y := .slice A5 m5 k5) (m := m5) (news := rcs ((l.drop c8).take m5)) (by rfl) HX5.out.rd (rcs_one _) (by omega) (by decide) ?_); intro v8 w8 hown8 hm8 _; have H8 := Lib.hid (or_app HS.out HGT.out hown8 hm8); obtain ⟨A8, k8, rfl, _, _⟩ := hown8.form; clear hown8 hm8)) | ((with_reducible refine wp_region_por ?_ ?_ ?_ ?_); kernel_rfl; kernel_rfl; (with_reducible repeat (first | exact calm_ret | refine calm_then ?_ | refine calm_in ?_ | refine calm_chk ?_ | refine calm_noGoto ?_))) | ((with_reducible refine chk_end ?_ ?_); kernel_rfl))
                    go_roundg (gk - 1)
                    case rel => exact ⟨j + 1, c8 + m5, F5, S5, by go_num, h2, by have := Hkj.out; omega, H8.out.1, H8.out.2⟩
                    case measure => have := Hkj.out; omega
                  · obtain rfl : j = tk.length := by omega
                    have htk2 := Hhtk.out wr F4 S4 c8 HOS.out 65536
                    have hor := fun w' v (h : TakeIs wr w' rb C 8 65536 false (nodesOf nodes) S4 [] F4 s 65536 v) => or_take HOS.out Hs.out Hnd.out (by decide) h
                    have Hhtk2 := Lib.hid htk2
                    clear htk2
                    have Hhor := Lib.hid hor
                    clear hor
                    go_wp2_with (first | (go_at_call 14; (fail_if_success have := TK1); (refine ret_use (Hhtk2.out) ?_; rintro v w4 ht4; have TK1 := True.intro; obtain ⟨A5, m5, k5, F5, S5, rfl, hm5, ho5, hs5, hf5, hmm5⟩ := Hhor.out _ _ ht4; have hcm : c8 + m5 = l.length := (by omega); have HCM := Lib.hid hcm; have hcm6 : c8 + m5 ≤ 65536 := (by omega); have HS5 := Lib.hid hs5; have HX5 := Lib.hid ho5; have HG5 := Lib.hid (got_take HGO.out hf5 hmm5); have x1 := (HRN.out.keep (HM0.out.trans hs5.hm fun _ _ e => e)).tx_at rfl Hs.out; have htk3 := Hhtk.out w4 F5 S5 (c8 + m5) hs5 1; have HTK3 := Lib.hid htk3; clear ht4 hm5 ho5 hs5 hf5 hmm5 hcm htk3)) | (go_at_call 14; (refine ret_use (HTK3.out) ?_; rintro v w5 ht5; obtain ⟨A6, m6, k6, F6, S6, rfl, hm6, ho6, hs6, hf6, hmm6⟩ := or_take HS5.out Hs.out Hnd.out (by decide) ht5; obtain rfl : m6 = 0 := (by have := HCM.out; omega); have HS := Lib.hid (show OrS (w.alloc (.cells #[.slice (some ⟨bn, on, none⟩) nodes.length cn, .int .i64 (C : Int), .int .i64 8, .int .i64 65536, .bool false] 26)) w5 rb C nodes l i (c8 + m5) s F6 S6 from hs6); have HGT := Lib.hid (got_take HG5.out hf6 hmm6); have HX6 := Lib.hid (Tum.Own.mods HX5.out hmm6 fun b hb e => (HX5.out.2 b hb).2 e); clear ht5 hm6 ho6 hs6 hf6 hmm6)) | (at_builtin; ((refine wpList_append_w _ (by rfl) (.tmp 150) (.tmp 151) 23 rfl 45 (.agg #[.string ⟨#[]⟩, .int .i64 0, .int .u64 0, .int .i64 0]) 4 40 Tryd.underlying23 infoRc rfl (by decide) (F := fun g => ((w.alloc (.cells #[.slice (some ⟨bn, on, none⟩) nodes.length cn, .int .i64 (C : Int), .int .i64 8, .int .i64 65536, .bool false] 26))).heap.size ≤ g ∧ ¬ F6 g) (n := c8) (xs := rcs (l.take c8)) (by rfl) HGT.out (y := .slice A5 m5 k5) (m := m5) (news := rcs ((l.drop c8).take m5)) (by rfl) HX6.out.rd (rcs_one _) (by omega) (by decide) ?_); intro v8 w8 hown8 hm8 _; have H8 := Lib.hid (or_app HS.out HGT.out hown8 hm8); obtain ⟨A8, k8, rfl, _, _⟩ := hown8.form; clear hown8 hm8; have hs8 := same2 (a := l.take (c8 + m5)) (b := l) (by rw [HCM.out, List.take_length]) rfl (by rw [HCM.out, List.take_length]) H8.out.2.rdlt (HR.out.keep (HM0.out.trans H8.out.1.hm fun _ _ e => e)) (fun _ e => e) (fun _ e => e); have HS8 := Lib.hid hs8; clear hs8)) | (go_at_call 15; (refine ret_use (HS8.out) ?_; rintro v w9 ⟨rfl, hm9⟩; have HM9 := Lib.hid hm9; clear hm9)) | ((with_reducible refine wp_region_por ?_ ?_ ?_ ?_); kernel_rfl; kernel_rfl; (with_reducible repeat (first | exact calm_ret | refine calm_then ?_ | refine calm_in ?_ | refine calm_chk ?_ | refine calm_noGoto ?_))) | ((with_reducible refine chk_end ?_ ?_); kernel_rfl))
                    go_roundg (K2 - 1)
                    case rel => exact ⟨i + 1, F6, S6, by go_num, h1, by have := Hki2.out; have := HK2.out; omega, (H8.out.1.mods HM9.out (fun _ e => e.elim) (fun _ e => e.elim)).next⟩
                    case measure => have := Hki2.out; have := HK2.out; omega
              · obtain rfl : i = nodes.length := by omega
                go_wp2_with (first | (go_at_call 12; (refine ret_use (Hhal.out _ HOI.out.hm) ?_; rintro v w4 ⟨rfl, hm4⟩; have HM4 := Lib.hid hm4; clear hm4)) | ((with_reducible refine wp_region_por ?_ ?_ ?_ ?_); kernel_rfl; kernel_rfl; (with_reducible repeat (first | exact calm_ret | refine calm_then ?_ | refine calm_in ?_ | refine calm_chk ?_ | refine calm_noGoto ?_))) | ((with_reducible refine chk_end ?_ ?_); kernel_rfl))
                go_ret
                exact ⟨rfl, HM0.out.trans (HOI.out.hm.trans HM4.out fun _ _ e => e) fun _ _ e => e⟩
  · have he1 : (e != 0) = true := bne_iff_ne.2 h0
    have hbad := fun w' v (h : RelNew (w.alloc (.cells #[.slice An nodes.length cn, .int .i64 C, .int .i64 8, .int .i64 65536, .bool false] 26)) w' nodes C 8 65536 false v) => relnew_bad h he h0
    have Hhrn := Lib.hid hrn2
    clear he h0 hbx hM0 hrn2 hr hrn hrt
    have Hht := Lib.hid ht
    clear ht
    have Hhn := Lib.hid hn
    clear hn
    have Hhal := Lib.hid hal
    clear hal
    have Hhbad := Lib.hid hbad
    clear hbad
    go_enter Tryd.func3, Tryd.ntmps3
    go_wp2_with (first | (go_at_call 10; (refine ret_use (Hhn.out) ?_; rintro v w2 hn2; obtain ⟨rfl, hm2⟩ := Hhbad.out _ _ hn2; have HM2 := Lib.hid hm2; have hb2 := HBX.out.mods hm2 fun e => e; have d0 := hb2.at_ 0 rfl; have d1 := hb2.at_ 1 rfl; have d2 := hb2.at_ 2 rfl; have d3 := hb2.at_ 3 rfl; have d4 := hb2.at_ 4 rfl; have dl := hb2.lt; clear hn2 hm2 hb2)) | (go_at_call 11; (refine ret_use (Hhrn.out _ HM2.out) ?_; rintro v w3 hn3; obtain ⟨A0, n0, c0, C', R', H', nw', cc, A1, n1, c1, A2, n2, c2, A3, n3, c3, rfl, hm3, -⟩ := hn3; have HM3 := Lib.hid hm3; clear hm3)) | (go_at_call 12; (refine ret_use (Hhal.out _ (HM2.out.trans (HM3.out.alloc _) fun _ _ e => e)) ?_; rintro v w4 ⟨rfl, hm4⟩; have HM4 := Lib.hid hm4; clear hm4)) | ((with_reducible refine wp_region_por ?_ ?_ ?_ ?_); kernel_rfl; kernel_rfl; (with_reducible repeat (first | exact calm_ret | refine calm_then ?_ | refine calm_in ?_ | refine calm_chk ?_ | refine calm_noGoto ?_))) | ((with_reducible refine chk_end ?_ ?_); kernel_rfl))
    go_ret
    exact ⟨rfl, HM0.out.trans ((HM2.out.trans (HM3.out.alloc _) fun _ _ e => e).trans HM4.out fun _ _ e => e) fun _ _ e => e⟩
end Go.Proofs.YtcifajfmdpjfiaaDoor
