/- The law RelayRuns, walked. -/
import Derived.Test.YtcifajfmdpjfiaaDoorRlKq
import Derived.Test.YtcifajfmdpjfiaaDoorRrI
import Derived.Test.YtcifajfmdpjfiaaDoorRrJ
namespace Go.Proofs.YtcifajfmdpjfiaaDoor
open Go.RowKit Go.Tum Go.Lib Go.Sort
set_option maxRecDepth 100000
set_option maxHeartbeats 6400000 in
theorem relayRuns_K (w : World) (nodes : List Tx) (C R H : Int) (nw : Bool) (sc : List OpA) (vn vs : Value) (ht : Tab w) (hrn : Rd w (fun g => g < w.heap.size) 1 vn nodes.length (nodes.map ks)) (hr : Rd w (fun g => g < w.heap.size) 7 vs sc.length (opcs sc)) (hp : ∀ o ∈ sc, o.2.1.1.length ≤ maxLen) (hn : sc.length ≤ 144115188075855872) :
    Calls Tryd.prog 7 #[.agg #[vn, .int .i64 C, .int .i64 R, .int .i64 H, .bool nw], vs] w (Ret fun v w' => v = .bool true ∧ Mods No w w') := by
  obtain ⟨An, cn, rfl, hnc, hnx⟩ := hrn.form
  obtain ⟨A, c, rfl, hac, hmx⟩ := hr.form
  have hM0 : Mods No w (w.alloc (.cells #[.slice An nodes.length cn, .int .i64 C, .int .i64 R, .int .i64 H, .bool nw] 26)) := (Mods.refl No w).alloc _
  have hbx := Cells.new w 26 #[.slice An nodes.length cn, .int .i64 C, .int .i64 R, .int .i64 H, .bool nw]
  have hnn := relnew_K (w.alloc (.cells #[.slice An nodes.length cn, .int .i64 C, .int .i64 R, .int .i64 H, .bool nw] 26)) _ nodes C R H nw (hrn.keep hM0) (ht.no hM0)
  have hrn2 := fun w' (hm : Mods No (w.alloc (.cells #[.slice An nodes.length cn, .int .i64 C, .int .i64 R, .int .i64 H, .bool nw] 26)) w') => rrnew_K w' An cn nodes C R H nw ((hrn.keep hM0).keep hm)
  have hal := fun w' (hm : Mods No (w.alloc (.cells #[.slice An nodes.length cn, .int .i64 C, .int .i64 R, .int .i64 H, .bool nw] 26)) w') => ralive_K w' ((ht.no hM0).no hm)
  obtain ⟨e, he⟩ : ∃ e, e = relE nodes C R H := ⟨_, rfl⟩
  unfold RrNewIs at hrn2
  rw [← he] at hrn2
  have HBX := Lib.hid hbx
  have HM0 := Lib.hid hM0
  have b0 := hbx.at_ 0 rfl
  have b1 := hbx.at_ 1 rfl
  have b2 := hbx.at_ 2 rfl
  have b3 := hbx.at_ 3 rfl
  have b4 := hbx.at_ 4 rfl
  have bl := hbx.lt
  unfold maxLen at hnx hmx
  by_cases h0 : e = 0
  · have hz := relE_zero (he.symm.trans h0)
    have hok := fun w' v (h : RelNew (w.alloc (.cells #[.slice An nodes.length cn, .int .i64 C, .int .i64 R, .int .i64 H, .bool nw] 26)) w' nodes C R H nw v) => relnew_ok h (he.symm.trans h0)
    have hn64 := (newE_zero hz.1).2.2.1
    have hc1 := (newE_zero hz.1).1
    obtain ⟨C, rfl⟩ : ∃ k : Nat, C = (k : Int) := ⟨C.toNat, by omega⟩
    obtain ⟨R, rfl⟩ : ∃ k : Nat, R = (k : Int) := ⟨R.toNat, by omega⟩
    obtain ⟨H, rfl⟩ : ∃ k : Nat, H = (k : Int) := ⟨H.toNat, by omega⟩
    have hR8 : R ≤ 8 := by omega
    have hH6 : H ≤ 65536 := by omega
    subst h0
    have HR := Lib.hid hr
    have HRN := Lib.hid hrn
    have Hp := Lib.hid hp
    have hmade := fun w2 w3 rb (hr2 : RelK w2 rb (C : Int).toNat (R : Int).toNat (H : Int).toNat nw (nodesOf nodes) (List.replicate nodes.length stn0) [] (fun b => ((w.alloc (.cells #[.slice An nodes.length cn, .int .i64 C, .int .i64 R, .int .i64 H, .bool nw] 26))).heap.size ≤ b)) hm2 hm3 A1 n1 c1 A2 n2 c2 A3 n3 c3 h2 h3 => two_made (W := (w.alloc (.cells #[.slice An nodes.length cn, .int .i64 C, .int .i64 R, .int .i64 H, .bool nw] 26))) (w2 := w2) (w3 := w3) (rb := rb) (A := An) (n := nodes.length) (c := cn) (A1 := A1) (n1 := n1) (c1 := c1) (A2 := A2) (n2 := n2) (c2 := c2) (A3 := A3) (n3 := n3) (c3 := c3) he.symm hr2 hm2 hm3 h2 h3
    have Hhrn := Lib.hid hrn2
    clear hz he hbx hM0 hp hr hrn hrn2 hc1
    have Hht := Lib.hid ht
    clear ht
    have Hhnn := Lib.hid hnn
    clear hnn
    have Hhal := Lib.hid hal
    clear hal
    have Hhok := Lib.hid hok
    clear hok
    have Hhmade := Lib.hid hmade
    clear hmade
    go_enter Tryd.func7, Tryd.ntmps7
    go_wp2_with (first | (go_at_call 10; (refine ret_use (Hhnn.out) ?_; rintro v w2 hn2; obtain ⟨rb, rfl, hr2, hm2⟩ := Hhok.out _ _ hn2; have HR2 := Lib.hid hr2; have HM2 := Lib.hid hm2; have hb2 := HBX.out.mods hm2 fun e => e; have d0 := hb2.at_ 0 rfl; have d1 := hb2.at_ 1 rfl; have d2 := hb2.at_ 2 rfl; have d3 := hb2.at_ 3 rfl; have d4 := hb2.at_ 4 rfl; have dl := hb2.lt; clear hn2 hm2 hb2 hr2)) | (go_at_call 11; (refine ret_use (Hhrn.out _ HM2.out) ?_; rintro v w3 hn3; obtain ⟨A0, n0, c0, C', R', H', nw', cc, A1, n1, c1, A2, n2, c2, A3, n3, c3, rfl, hm3, hn4⟩ := hn3; obtain ⟨rfl, rfl, rfl, rfl, rfl, rfl, rfl, rfl, _, h2, h3⟩ := hn4 (by trivial); have HM3 := Lib.hid hm3; have HTW := Lib.hid (Hhmade.out w2 w3 rb HR2.out HM2.out hm3 A1 n1 c1 A2 n2 c2 A3 n3 c3 h2 h3); clear hm3 h2 h3 hn4)) | (go_at_call 12; (refine ret_use (Hhal.out _ (HM2.out.trans (HM3.out.alloc _) fun _ _ e => e)) ?_; rintro v w4 ⟨rfl, hm4⟩; have HM4 := Lib.hid hm4; clear hm4)) | ((with_reducible refine wp_region_por ?_ ?_ ?_ ?_); kernel_rfl; kernel_rfl; (with_reducible repeat (first | exact calm_ret | refine calm_then ?_ | refine calm_in ?_ | refine calm_chk ?_ | refine calm_noGoto ?_))) | ((with_reducible refine chk_end ?_ ?_); kernel_rfl))
    obtain ⟨F0, G0, htw⟩ := HTW.out
    have HT4 := Lib.hid (htw.no HM4.out)
    clear htw d0 d1 d2 d3 d4 b0 b1 b2 b3 b4
    go_loopg [9] sc.length (fun k v9 wr => ∃ (i : Nat) (S : List Stn) (dn : List Tx) (F G : Nat → Prop), v9 = .int .i64 i ∧ i ≤ sc.length ∧ k + i = sc.length ∧ tot S ≤ 8 * i ∧ Two (w.alloc (.cells #[.slice A0 nodes.length c0, .int .i64 (C : Int), .int .i64 (R : Int), .int .i64 (H : Int), .bool nw'] 26)) wr rb w3.heap.size C R H nw' (nodesOf nodes) S dn S dn F G)
    case atStart => exact ⟨0, _, _, F0, G0, rfl, Nat.zero_le _, rfl, by rw [tot_new]; exact Nat.zero_le _, HT4.out⟩
    case round =>
      obtain ⟨i, S, dn, F, G, rfl, hi, hki, htt, hin⟩ := hrel
      have Hki := Lib.hid hki
      have Hin := Lib.hid hin
      have Htt := Lib.hid htt
      clear hki htt
      rcases Nat.lt_or_ge i sc.length with h1 | h1
      · obtain ⟨⟨kd, ⟨p, xh, xl, xt⟩, s, m⟩, hx⟩ := lt_get h1
        have hpl : p.length ≤ maxLen := Hp.out _ (List.mem_of_getElem? hx)
        obtain ⟨bs, os, rfl, _, y0, y1, y2, y3, y4, y5, y6⟩ := (HR.out.keep (HM0.out.trans hin.hm fun _ _ e => e)).opa rfl hx
        have hstp := step_K _ wr rb w3.heap.size C R H i nw' (nodesOf nodes) S dn F G kd p xh xl xt s m hin hpl Htt.out (by omega)
        clear hin hx
        have Hhstp := Lib.hid hstp
        clear hstp
        go_wp2_with (first | (go_at_call 25; (refine ret_use (Hhstp.out) ?_; rintro v w5 ⟨rfl, S5, dn5, F5, G5, ht5, htt5⟩; have HT5 := Lib.hid ht5; have Htt5 := Lib.hid htt5; clear ht5 htt5)) | ((with_reducible refine wp_region_por ?_ ?_ ?_ ?_); kernel_rfl; kernel_rfl; (with_reducible repeat (first | exact calm_ret | refine calm_then ?_ | refine calm_in ?_ | refine calm_chk ?_ | refine calm_noGoto ?_))) | ((with_reducible refine chk_end ?_ ?_); kernel_rfl))
        go_roundg (gk - 1)
        case rel => exact ⟨i + 1, S5, dn5, F5, G5, by go_num, h1, by have := Hki.out; omega, Htt5.out, HT5.out⟩
        case measure => have := Hki.out; omega
      · obtain rfl : i = sc.length := by omega
        have hct := counts_K wr rb C R H nw' (nodesOf nodes) S dn F hin.rel
        have hct2 := fun w' (hm : Mods No wr w') => rcounts_ref w' w3.heap.size C R H nw' (nodesOf nodes) S dn G (hin.ref.no hm)
        obtain ⟨L, hL⟩ : ∃ L, L = countsV (nodesOf nodes) S dn := ⟨_, rfl⟩
        have hLl : L.length = (nodesOf nodes).length := by rw [hL, countsV_len hin.rel.1.len]
        rw [← hL, ← hLl] at hct hct2
        clear hL hLl hin
        have Hhct := Lib.hid hct
        clear hct
        have Hhct2 := Lib.hid hct2
        clear hct2
        go_wp2_with (first | (go_at_call 16; (refine ret_use (Hhct.out) ?_; rintro v w5 ⟨ho5, hm5⟩; have HO5 := Lib.hid ho5; have HM5 := Lib.hid hm5; clear ho5 hm5)) | (go_at_call 20; (refine ret_use (Hhct2.out _ HM5.out) ?_; rintro v w6 ⟨ho6, hm6⟩; have hs6 := sameC_K w6 _ _ _ _ L L (Tum.Own.mods HO5.out hm6 fun _ _ e => e).rdlt ho6.rdlt (fun _ e => e) (fun _ e => e); rw [decide_eq_true rfl] at hs6; have HS6 := Lib.hid hs6; have HM6 := Lib.hid (HM5.out.trans hm6 fun _ _ e => e); clear ho6 hm6 hs6)) | (go_at_call 19; (refine ret_use (HS6.out) ?_; rintro v w7 ⟨rfl, hm7⟩; have HM7 := Lib.hid (HM6.out.trans hm7 fun _ _ e => e); clear hm7)) | ((with_reducible refine wp_region_por ?_ ?_ ?_ ?_); kernel_rfl; kernel_rfl; (with_reducible repeat (first | exact calm_ret | refine calm_then ?_ | refine calm_in ?_ | refine calm_chk ?_ | refine calm_noGoto ?_))) | ((with_reducible refine chk_end ?_ ?_); kernel_rfl))
        go_ret
        exact ⟨rfl, HM0.out.trans (Hin.out.hm.trans HM7.out fun _ _ e => e) fun _ _ e => e⟩
  · have he1 : (e != 0) = true := bne_iff_ne.2 h0
    have hbad := fun w' v (h : RelNew (w.alloc (.cells #[.slice An nodes.length cn, .int .i64 C, .int .i64 R, .int .i64 H, .bool nw] 26)) w' nodes C R H nw v) => relnew_bad h he h0
    have Hhrn := Lib.hid hrn2
    clear he h0 hbx hM0 hrn2 hr hrn hp
    have Hht := Lib.hid ht
    clear ht
    have Hhnn := Lib.hid hnn
    clear hnn
    have Hhal := Lib.hid hal
    clear hal
    have Hhbad := Lib.hid hbad
    clear hbad
    go_enter Tryd.func7, Tryd.ntmps7
    go_wp2_with (first | (go_at_call 10; (refine ret_use (Hhnn.out) ?_; rintro v w2 hn2; obtain ⟨rfl, hm2⟩ := Hhbad.out _ _ hn2; have HM2 := Lib.hid hm2; have hb2 := HBX.out.mods hm2 fun e => e; have d0 := hb2.at_ 0 rfl; have d1 := hb2.at_ 1 rfl; have d2 := hb2.at_ 2 rfl; have d3 := hb2.at_ 3 rfl; have d4 := hb2.at_ 4 rfl; have dl := hb2.lt; clear hn2 hm2 hb2)) | (go_at_call 11; (refine ret_use (Hhrn.out _ HM2.out) ?_; rintro v w3 hn3; obtain ⟨A0, n0, c0, C', R', H', nw', cc, A1, n1, c1, A2, n2, c2, A3, n3, c3, rfl, hm3, -⟩ := hn3; have HM3 := Lib.hid hm3; clear hm3)) | (go_at_call 12; (refine ret_use (Hhal.out _ (HM2.out.trans (HM3.out.alloc _) fun _ _ e => e)) ?_; rintro v w4 ⟨rfl, hm4⟩; have HM4 := Lib.hid hm4; clear hm4)) | ((with_reducible refine wp_region_por ?_ ?_ ?_ ?_); kernel_rfl; kernel_rfl; (with_reducible repeat (first | exact calm_ret | refine calm_then ?_ | refine calm_in ?_ | refine calm_chk ?_ | refine calm_noGoto ?_))) | ((with_reducible refine chk_end ?_ ?_); kernel_rfl))
    go_ret
    exact ⟨rfl, HM0.out.trans ((HM2.out.trans (HM3.out.alloc _) fun _ _ e => e).trans HM4.out fun _ _ e => e) fun _ _ e => e⟩
end Go.Proofs.YtcifajfmdpjfiaaDoor
