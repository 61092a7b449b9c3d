/- The law RelayNobody, walked. -/
import Derived.Test.YtcifajfmdpjfiaaDoorRlI
namespace Go.Proofs.YtcifajfmdpjfiaaDoor
open Go.RowKit Go.Tum Go.Lib Go.Sort
set_option maxRecDepth 100000
set_option maxHeartbeats 6400000 in
theorem relayNobody_K (w : World) (kd : Int) (x : Rcd) (s : Tx) (n : Int) (ht : Tab w) : Calls Tryd.prog 9 #[.agg #[.int .i64 kd, .string ⟨x.1.toArray⟩, .int .i64 x.2.1, .int .u64 x.2.2.1, .int .i64 x.2.2.2, .string ⟨s.toArray⟩, .int .i64 n]] w (Ret fun v w' => v = .bool true ∧ Mods No w w') := by
  obtain ⟨W, hW⟩ : ∃ W, W = (w.alloc (.cells #[.int .i64 kd, .string ⟨x.1.toArray⟩, .int .i64 x.2.1, .int .u64 x.2.2.1, .int .i64 x.2.2.2, .string ⟨s.toArray⟩, .int .i64 n] 61)).alloc (.cells #[.slice none 0 0, .int .i64 0, .int .i64 0, .int .i64 0, .bool false, .pointer none, .slice none 0 0, .slice none 0 0, .map none] 74) := ⟨_, rfl⟩
  have hz0 : (w.alloc (.cells #[.int .i64 kd, .string ⟨x.1.toArray⟩, .int .i64 x.2.1, .int .u64 x.2.2.1, .int .i64 x.2.2.2, .string ⟨s.toArray⟩, .int .i64 n] 61)).heap.size = w.heap.size + 1 := World.size_alloc _ _
  have hcr : Cells W (w.heap.size + 1) 74 #[.slice none 0 0, .int .i64 0, .int .i64 0, .int .i64 0, .bool false, .pointer none, .slice none 0 0, .slice none 0 0, .map none] := by
    have h := Cells.new (w.alloc (.cells #[.int .i64 kd, .string ⟨x.1.toArray⟩, .int .i64 x.2.1, .int .u64 x.2.2.1, .int .i64 x.2.2.2, .string ⟨s.toArray⟩, .int .i64 n] 61)) 74 #[.slice none 0 0, .int .i64 0, .int .i64 0, .int .i64 0, .bool false, .pointer none, .slice none 0 0, .slice none 0 0, .map none]
    rw [hz0] at h
    rw [hW]; exact h
  have hbx : Cells W w.heap.size 61 #[.int .i64 kd, .string ⟨x.1.toArray⟩, .int .i64 x.2.1, .int .u64 x.2.2.1, .int .i64 x.2.2.2, .string ⟨s.toArray⟩, .int .i64 n] := by rw [hW]; exact (Cells.new w _ _).alloc _
  have hWm : Mods No w W := by rw [hW]; exact ((Mods.refl No w).alloc _).alloc _
  have h1 := noRel_nil W
  have h2 := noRel_zero hcr rfl
  have hal := fun w' (hm : Mods No W w') => ralive_K w' (ht.no (hWm.trans hm fun _ _ e => e))
  have HM := Lib.hid (Mods.refl No W)
  have HBX := Lib.hid hbx
  have ta := rtake_no h1 s n
  have tb := rtake_no h2 s n
  have pa := rput_no h1 x
  have pb := rput_no h2 x
  have da := rdown_no h1 s
  have db := rdown_no h2 s
  have ua := rup_no h1 s
  have ub := rup_no h2 s
  have ca := rcounts_no h1
  have cb := rcounts_no h2
  have b1 := hbx.at_ 1 rfl
  have b2 := hbx.at_ 2 rfl
  have b3 := hbx.at_ 3 rfl
  have b4 := hbx.at_ 4 rfl
  have b5 := hbx.at_ 5 rfl
  have b6 := hbx.at_ 6 rfl
  have bl := hbx.lt
  have HWm := Lib.hid hWm
  have hWs : W.heap.size = w.heap.size + 2 := by rw [hW, World.size_alloc, World.size_alloc]
  clear h1 h2 hbx hcr hz0 hWm hWs
  subst hW
  have Hht := Lib.hid ht
  clear ht
  have Hhal := Lib.hid hal
  clear hal
  have Hta := Lib.hid ta
  clear ta
  have Htb := Lib.hid tb
  clear tb
  have Hpa := Lib.hid pa
  clear pa
  have Hpb := Lib.hid pb
  clear pb
  have Hda := Lib.hid da
  clear da
  have Hdb := Lib.hid db
  clear db
  have Hua := Lib.hid ua
  clear ua
  have Hub := Lib.hid ub
  clear ub
  have Hca := Lib.hid ca
  clear ca
  have Hcb := Lib.hid cb
  clear cb
  unfold rv ks at Hpa Hpb
  unfold ks at Hta Htb Hda Hdb Hua Hub
  go_enter Tryd.func9, Tryd.ntmps9
  go_wp2_with (first | (go_at_call 14; (fail_if_success have := D1); (refine ret_use (Hta.out _ HM.out) ?_; rintro v w2 ⟨rfl, hm2⟩; have D1 := True.intro; have HM := Lib.hid (HM.out.trans hm2 fun _ _ e => e); have hb := HBX.out.mods HM.out (fun e => e); have b1 := hb.at_ 1 rfl; have b2 := hb.at_ 2 rfl; have b3 := hb.at_ 3 rfl; have b4 := hb.at_ 4 rfl; have b5 := hb.at_ 5 rfl; have b6 := hb.at_ 6 rfl; have bl := hb.lt; clear hm2 hb)) | (go_at_call 14; (refine ret_use (Htb.out _ HM.out) ?_; rintro v w2 ⟨rfl, hm2⟩; have HM := Lib.hid (HM.out.trans hm2 fun _ _ e => e); have hb := HBX.out.mods HM.out (fun e => e); have b1 := hb.at_ 1 rfl; have b2 := hb.at_ 2 rfl; have b3 := hb.at_ 3 rfl; have b4 := hb.at_ 4 rfl; have b5 := hb.at_ 5 rfl; have b6 := hb.at_ 6 rfl; have bl := hb.lt; clear hm2 hb)) | (go_at_call 12; (refine ret_use (Hhal.out _ HM.out) ?_; rintro v w2 ⟨rfl, hm2⟩; have HM := Lib.hid (HM.out.trans hm2 fun _ _ e => e); have hb := HBX.out.mods HM.out (fun e => e); have b1 := hb.at_ 1 rfl; have b2 := hb.at_ 2 rfl; have b3 := hb.at_ 3 rfl; have b4 := hb.at_ 4 rfl; have b5 := hb.at_ 5 rfl; have b6 := hb.at_ 6 rfl; have bl := hb.lt; clear hm2 hb)) | (go_at_call 13; (fail_if_success have := D2); (refine ret_use (Hpa.out _ HM.out) ?_; rintro v w2 ⟨rfl, hm2⟩; have D2 := True.intro; have HM := Lib.hid (HM.out.trans hm2 fun _ _ e => e); have hb := HBX.out.mods HM.out (fun e => e); have b1 := hb.at_ 1 rfl; have b2 := hb.at_ 2 rfl; have b3 := hb.at_ 3 rfl; have b4 := hb.at_ 4 rfl; have b5 := hb.at_ 5 rfl; have b6 := hb.at_ 6 rfl; have bl := hb.lt; clear hm2 hb)) | (go_at_call 13; (refine ret_use (Hpb.out _ HM.out) ?_; rintro v w2 ⟨rfl, hm2⟩; have HM := Lib.hid (HM.out.trans hm2 fun _ _ e => e); have hb := HBX.out.mods HM.out (fun e => e); have b1 := hb.at_ 1 rfl; have b2 := hb.at_ 2 rfl; have b3 := hb.at_ 3 rfl; have b4 := hb.at_ 4 rfl; have b5 := hb.at_ 5 rfl; have b6 := hb.at_ 6 rfl; have bl := hb.lt; clear hm2 hb)) | (go_at_call 21; (fail_if_success have := D3); (refine ret_use (Hda.out _ HM.out) ?_; rintro v w2 ⟨rfl, hm2⟩; have D3 := True.intro; have HM := Lib.hid (HM.out.trans hm2 fun _ _ e => e); have hb := HBX.out.mods HM.out (fun e => e); have b1 := hb.at_ 1 rfl; have b2 := hb.at_ 2 rfl; have b3 := hb.at_ 3 rfl; have b4 := hb.at_ 4 rfl; have b5 := hb.at_ 5 rfl; have b6 := hb.at_ 6 rfl; have bl := hb.lt; clear hm2 hb)) | (go_at_call 21; (refine ret_use (Hdb.out _ HM.out) ?_; rintro v w2 ⟨rfl, hm2⟩; have HM := Lib.hid (HM.out.trans hm2 fun _ _ e => e); have hb := HBX.out.mods HM.out (fun e => e); have b1 := hb.at_ 1 rfl; have b2 := hb.at_ 2 rfl; have b3 := hb.at_ 3 rfl; have b4 := hb.at_ 4 rfl; have b5 := hb.at_ 5 rfl; have b6 := hb.at_ 6 rfl; have bl := hb.lt; clear hm2 hb)) | (go_at_call 26; (fail_if_success have := D4); (refine ret_use (Hua.out _ HM.out) ?_; rintro v w2 ⟨rfl, hm2⟩; have D4 := True.intro; have HM := Lib.hid (HM.out.trans hm2 fun _ _ e => e); have hb := HBX.out.mods HM.out (fun e => e); have b1 := hb.at_ 1 rfl; have b2 := hb.at_ 2 rfl; have b3 := hb.at_ 3 rfl; have b4 := hb.at_ 4 rfl; have b5 := hb.at_ 5 rfl; have b6 := hb.at_ 6 rfl; have bl := hb.lt; clear hm2 hb)) | (go_at_call 26; (refine ret_use (Hub.out _ HM.out) ?_; rintro v w2 ⟨rfl, hm2⟩; have HM := Lib.hid (HM.out.trans hm2 fun _ _ e => e); have hb := HBX.out.mods HM.out (fun e => e); have b1 := hb.at_ 1 rfl; have b2 := hb.at_ 2 rfl; have b3 := hb.at_ 3 rfl; have b4 := hb.at_ 4 rfl; have b5 := hb.at_ 5 rfl; have b6 := hb.at_ 6 rfl; have bl := hb.lt; clear hm2 hb)) | (go_at_call 16; (fail_if_success have := D5); (refine ret_use (Hca.out _ HM.out) ?_; rintro v w2 ⟨rfl, hm2⟩; have D5 := True.intro; have HM := Lib.hid (HM.out.trans hm2 fun _ _ e => e); have hb := HBX.out.mods HM.out (fun e => e); have b1 := hb.at_ 1 rfl; have b2 := hb.at_ 2 rfl; have b3 := hb.at_ 3 rfl; have b4 := hb.at_ 4 rfl; have b5 := hb.at_ 5 rfl; have b6 := hb.at_ 6 rfl; have bl := hb.lt; clear hm2 hb)) | (go_at_call 16; (refine ret_use (Hcb.out _ HM.out) ?_; rintro v w2 ⟨rfl, hm2⟩; have HM := Lib.hid (HM.out.trans hm2 fun _ _ e => e); have hb := HBX.out.mods HM.out (fun e => e); have b1 := hb.at_ 1 rfl; have b2 := hb.at_ 2 rfl; have b3 := hb.at_ 3 rfl; have b4 := hb.at_ 4 rfl; have b5 := hb.at_ 5 rfl; have b6 := hb.at_ 6 rfl; have bl := hb.lt; clear hm2 hb)) | ((with_reducible refine wp_region_por ?_ ?_ ?_ ?_); kernel_rfl; kernel_rfl; (with_reducible repeat (first | exact calm_ret | refine calm_then ?_ | refine calm_in ?_ | refine calm_chk ?_ | refine calm_noGoto ?_))) | ((with_reducible refine chk_end ?_ ?_); kernel_rfl))
  go_ret
  exact ⟨by simp, HWm.out.trans HM.out fun _ _ e => e⟩
end Go.Proofs.YtcifajfmdpjfiaaDoor
