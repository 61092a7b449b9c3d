/- The law RingNobody, walked: rings that nobody made. -/
import Derived.Test.YtilkepmmkhmghaaDoorRgP
import Derived.WalkMore
namespace Go.Proofs.YtilkepmmkhmghaaDoor
open Go.RowKit Go.Tum Go.Lib Go.Sort
set_option maxRecDepth 100000
def NoRing (p : Value) (w : World) : Prop := ∀ w', Mods No w w' → Calls Tryd.prog 36 #[p] w' (Ret fun v w'' => v = .bool false ∧ w' = w'')
theorem noRing_nil (w : World) : NoRing (.pointer none) w := fun w' _ => made_nil w'
theorem noRing_zero {w : World} {q : Nat} {cs : Array Value} (h : Cells w q 62 cs) (h0 : cs[0]? = some (.int .i64 0)) : NoRing ((.pointer (some ⟨q, 0, none⟩))) w := fun w' hm => made_some w' q 0 ((h.mods hm fun e => e).at_ 0 h0) false rfl
theorem add_no {p : Value} {w : World} (h : NoRing p w) (s : Tx) (w' : World) (hm : Mods No w w') : Calls Tryd.prog 29 #[p, ks s] w' (Ret fun v w'' => v = .int .i64 4 ∧ Mods No w' w'') := by
  have h1 := fun w1 (hm1 : Mods No w' w1) => h w1 (hm.trans hm1 fun _ _ e => e)
  clear h
  have Hh1 := Lib.hid h1
  clear h1
  have Hhm := Lib.hid hm
  clear hm
  try unfold ks
  go_enter Tryd.func29, Tryd.ntmps29
  go_wp2_with (first | (go_at_call 36; (refine ret_use (Hh1.out _ (by repeat (first | exact Mods.refl _ _ | apply Mods.alloc | apply Mods.drew))) ?_; rintro v w2 ⟨rfl, rfl⟩)) | ((with_reducible refine wp_region_por ?_ ?_ ?_ ?_); kernel_rfl; kernel_rfl; (with_reducible repeat (first | exact calm_ret | refine calm_then ?_ | refine calm_in ?_ | refine calm_chk ?_ | refine calm_noGoto ?_))) | ((with_reducible refine chk_end ?_ ?_); kernel_rfl))
  go_ret
  exact ⟨rfl, by repeat (first | exact Mods.refl _ _ | apply Mods.alloc | apply Mods.drew)⟩
theorem remove_no {p : Value} {w : World} (h : NoRing p w) (s : Tx) (w' : World) (hm : Mods No w w') : Calls Tryd.prog 28 #[p, ks s] w' (Ret fun v w'' => v = .int .i64 4 ∧ Mods No w' w'') := by
  have h1 := fun w1 (hm1 : Mods No w' w1) => h w1 (hm.trans hm1 fun _ _ e => e)
  clear h
  have Hh1 := Lib.hid h1
  clear h1
  have Hhm := Lib.hid hm
  clear hm
  try unfold ks
  go_enter Tryd.func28, Tryd.ntmps28
  go_wp2_with (first | (go_at_call 36; (refine ret_use (Hh1.out _ (by repeat (first | exact Mods.refl _ _ | apply Mods.alloc | apply Mods.drew))) ?_; rintro v w2 ⟨rfl, rfl⟩)) | ((with_reducible refine wp_region_por ?_ ?_ ?_ ?_); kernel_rfl; kernel_rfl; (with_reducible repeat (first | exact calm_ret | refine calm_then ?_ | refine calm_in ?_ | refine calm_chk ?_ | refine calm_noGoto ?_))) | ((with_reducible refine chk_end ?_ ?_); kernel_rfl))
  go_ret
  exact ⟨rfl, by repeat (first | exact Mods.refl _ _ | apply Mods.alloc | apply Mods.drew)⟩
theorem nodes_no {p : Value} {w : World} (h : NoRing p w)  (w' : World) (hm : Mods No w w') : Calls Tryd.prog 14 #[p] w' (Ret fun v w'' => v = .slice none 0 0 ∧ Mods No w' w'') := by
  have h1 := fun w1 (hm1 : Mods No w' w1) => h w1 (hm.trans hm1 fun _ _ e => e)
  clear h
  have Hh1 := Lib.hid h1
  clear h1
  have Hhm := Lib.hid hm
  clear hm
  try unfold ks
  go_enter Tryd.func14, Tryd.ntmps14
  go_wp2_with (first | (go_at_call 36; (refine ret_use (Hh1.out _ (by repeat (first | exact Mods.refl _ _ | apply Mods.alloc | apply Mods.drew))) ?_; rintro v w2 ⟨rfl, rfl⟩)) | ((with_reducible refine wp_region_por ?_ ?_ ?_ ?_); kernel_rfl; kernel_rfl; (with_reducible repeat (first | exact calm_ret | refine calm_then ?_ | refine calm_in ?_ | refine calm_chk ?_ | refine calm_noGoto ?_))) | ((with_reducible refine chk_end ?_ ?_); kernel_rfl))
  go_ret
  exact ⟨rfl, by repeat (first | exact Mods.refl _ _ | apply Mods.alloc | apply Mods.drew)⟩
theorem places_no {p : Value} {w : World} (h : NoRing p w)  (w' : World) (hm : Mods No w w') : Calls Tryd.prog 15 #[p] w' (Ret fun v w'' => v = .slice none 0 0 ∧ Mods No w' w'') := by
  have h1 := fun w1 (hm1 : Mods No w' w1) => h w1 (hm.trans hm1 fun _ _ e => e)
  clear h
  have Hh1 := Lib.hid h1
  clear h1
  have Hhm := Lib.hid hm
  clear hm
  try unfold ks
  go_enter Tryd.func15, Tryd.ntmps15
  go_wp2_with (first | (go_at_call 36; (refine ret_use (Hh1.out _ (by repeat (first | exact Mods.refl _ _ | apply Mods.alloc | apply Mods.drew))) ?_; rintro v w2 ⟨rfl, rfl⟩)) | ((with_reducible refine wp_region_por ?_ ?_ ?_ ?_); kernel_rfl; kernel_rfl; (with_reducible repeat (first | exact calm_ret | refine calm_then ?_ | refine calm_in ?_ | refine calm_chk ?_ | refine calm_noGoto ?_))) | ((with_reducible refine chk_end ?_ ?_); kernel_rfl))
  go_ret
  exact ⟨rfl, by repeat (first | exact Mods.refl _ _ | apply Mods.alloc | apply Mods.drew)⟩
theorem pick_no {p : Value} {w : World} (h : NoRing p w) (s : Tx) (n : Int) (w' : World) (hm : Mods No w w') : Calls Tryd.prog 16 #[p, ks s, .int .i64 n] w' (Ret fun v w'' => v = .slice none 0 0 ∧ Mods No w' w'') := by
  have h1 := fun w1 (hm1 : Mods No w' w1) => h w1 (hm.trans hm1 fun _ _ e => e)
  clear h
  have Hh1 := Lib.hid h1
  clear h1
  have Hhm := Lib.hid hm
  clear hm
  unfold ks
  go_enter Tryd.func16, Tryd.ntmps16
  go_wp2
  go_step3
  go_wp2_with (first | (go_at_call 36; (refine ret_use (Hh1.out _ (by repeat (first | exact Mods.refl _ _ | apply Mods.alloc | apply Mods.drew))) ?_; rintro v w2 ⟨rfl, rfl⟩)) | ((with_reducible refine wp_region_por ?_ ?_ ?_ ?_); kernel_rfl; kernel_rfl; (with_reducible repeat (first | exact calm_ret | refine calm_then ?_ | refine calm_in ?_ | refine calm_chk ?_ | refine calm_noGoto ?_))) | ((with_reducible refine chk_end ?_ ?_); kernel_rfl))
  try rw [Exit.noGoto_ret]
  go_ret
  exact ⟨rfl, by repeat (first | exact Mods.refl _ _ | apply Mods.alloc | apply Mods.drew)⟩
theorem get_no {p : Value} {w : World} (h : NoRing p w) (s : Tx) (w' : World) (hm : Mods No w w') : Calls Tryd.prog 22 #[p, ks s] w' (Ret fun v w'' => v = .tuple #[.string ⟨#[]⟩, .bool false] ∧ Mods No w' w'') := by
  have h1 := pick_no h s 1
  clear h
  have Hh1 := Lib.hid h1
  clear h1
  have Hhm := Lib.hid hm
  clear hm
  unfold ks at *
  go_enter Tryd.func22, Tryd.ntmps22
  go_wp2_with (first | (go_at_call 16; (refine ret_use (Hh1.out w' Hhm.out) ?_; rintro v w2 ⟨rfl, hm2⟩; have HM2 := Lib.hid hm2; clear hm2)) | ((with_reducible refine wp_region_por ?_ ?_ ?_ ?_); kernel_rfl; kernel_rfl; (with_reducible repeat (first | exact calm_ret | refine calm_then ?_ | refine calm_in ?_ | refine calm_chk ?_ | refine calm_noGoto ?_))) | ((with_reducible refine chk_end ?_ ?_); kernel_rfl))
  go_ret2
  exact ⟨rfl, HM2.out⟩
set_option maxHeartbeats 6400000 in
theorem ringNobody_K (w : World) (s : Tx) (n : Int) (ht : Tab w) : Calls Tryd.prog 9 #[ks s, .int .i64 n] w (Ret fun v w' => v = .bool true ∧ Mods No w w') := by
  have h1 := noRing_nil (w.alloc (.cells #[.int .i64 0, .slice none 0 0, .slice none 0 0] 62))
  have h2 := noRing_zero (Cells.new w 62 #[.int .i64 0, .slice none 0 0, .slice none 0 0]) rfl
  have hal := fun w' (hm : Mods No (w.alloc (.cells #[.int .i64 0, .slice none 0 0, .slice none 0 0] 62)) w') => alive_K w' (ht.no (((Mods.refl No w).alloc _).trans hm fun _ _ e => e))
  have HM := Lib.hid (Mods.refl No (w.alloc (.cells #[.int .i64 0, .slice none 0 0, .slice none 0 0] 62)))
  have ga := get_no h1 s
  have gb := get_no h2 s
  have aa := add_no h1 s
  have ab := add_no h2 s
  have ra := remove_no h1 s
  have rb := remove_no h2 s
  have pa := pick_no h1 s n
  have pb := pick_no h2 s n
  have na := nodes_no h1
  have nb := nodes_no h2
  have la := places_no h1
  have lb := places_no h2
  clear h1 h2
  have Hht := Lib.hid ht
  clear ht
  have Hhal := Lib.hid hal
  clear hal
  have Hga := Lib.hid ga
  clear ga
  have Hgb := Lib.hid gb
  clear gb
  have Haa := Lib.hid aa
  clear aa
  have Hab := Lib.hid ab
  clear ab
  have Hra := Lib.hid ra
  clear ra
  have Hrb := Lib.hid rb
  clear rb
  have Hpa := Lib.hid pa
  clear pa
  have Hpb := Lib.hid pb
  clear pb
  have Hna := Lib.hid na
  clear na
  have Hnb := Lib.hid nb
  clear nb
  have Hla := Lib.hid la
  clear la
  have Hlb := Lib.hid lb
  clear lb
  unfold ks at *
  go_enter Tryd.func9, Tryd.ntmps9
  go_wp2_with (first | (go_at_call 22; (fail_if_success have := DHga); (refine ret_use (Hga.out _ HM.out) ?_; rintro v w2 ⟨rfl, hm2⟩; have DHga := True.intro; have HM := Lib.hid (HM.out.trans hm2 fun _ _ e => e); clear hm2)) | (go_at_call 22; (refine ret_use (Hgb.out _ HM.out) ?_; rintro v w2 ⟨rfl, hm2⟩; have HM := Lib.hid (HM.out.trans hm2 fun _ _ e => e); clear hm2)) | (go_at_call 29; (fail_if_success have := DHaa); (refine ret_use (Haa.out _ HM.out) ?_; rintro v w2 ⟨rfl, hm2⟩; have DHaa := True.intro; have HM := Lib.hid (HM.out.trans hm2 fun _ _ e => e); clear hm2)) | (go_at_call 29; (refine ret_use (Hab.out _ HM.out) ?_; rintro v w2 ⟨rfl, hm2⟩; have HM := Lib.hid (HM.out.trans hm2 fun _ _ e => e); clear hm2)) | (go_at_call 28; (fail_if_success have := DHra); (refine ret_use (Hra.out _ HM.out) ?_; rintro v w2 ⟨rfl, hm2⟩; have DHra := True.intro; have HM := Lib.hid (HM.out.trans hm2 fun _ _ e => e); clear hm2)) | (go_at_call 28; (refine ret_use (Hrb.out _ HM.out) ?_; rintro v w2 ⟨rfl, hm2⟩; have HM := Lib.hid (HM.out.trans hm2 fun _ _ e => e); clear hm2)) | (go_at_call 16; (fail_if_success have := DHpa); (refine ret_use (Hpa.out _ HM.out) ?_; rintro v w2 ⟨rfl, hm2⟩; have DHpa := True.intro; have HM := Lib.hid (HM.out.trans hm2 fun _ _ e => e); clear hm2)) | (go_at_call 16; (refine ret_use (Hpb.out _ HM.out) ?_; rintro v w2 ⟨rfl, hm2⟩; have HM := Lib.hid (HM.out.trans hm2 fun _ _ e => e); clear hm2)) | (go_at_call 14; (fail_if_success have := DHna); (refine ret_use (Hna.out _ HM.out) ?_; rintro v w2 ⟨rfl, hm2⟩; have DHna := True.intro; have HM := Lib.hid (HM.out.trans hm2 fun _ _ e => e); clear hm2)) | (go_at_call 14; (refine ret_use (Hnb.out _ HM.out) ?_; rintro v w2 ⟨rfl, hm2⟩; have HM := Lib.hid (HM.out.trans hm2 fun _ _ e => e); clear hm2)) | (go_at_call 15; (fail_if_success have := DHla); (refine ret_use (Hla.out _ HM.out) ?_; rintro v w2 ⟨rfl, hm2⟩; have DHla := True.intro; have HM := Lib.hid (HM.out.trans hm2 fun _ _ e => e); clear hm2)) | (go_at_call 15; (refine ret_use (Hlb.out _ HM.out) ?_; rintro v w2 ⟨rfl, hm2⟩; have HM := Lib.hid (HM.out.trans hm2 fun _ _ e => e); clear hm2)) | (go_at_call 13; (refine ret_use (Hhal.out _ HM.out) ?_; rintro v w2 ⟨rfl, hm2⟩; have HM := Lib.hid (HM.out.trans hm2 fun _ _ e => e); clear hm2)) | ((with_reducible refine wp_region_por ?_ ?_ ?_ ?_); kernel_rfl; kernel_rfl; (with_reducible repeat (first | exact calm_ret | refine calm_then ?_ | refine calm_in ?_ | refine calm_chk ?_ | refine calm_noGoto ?_))) | ((with_reducible refine chk_end ?_ ?_); kernel_rfl))
  go_ret
  exact ⟨rfl, ((Mods.refl No w).alloc _).trans HM.out fun _ _ e => e⟩
end Go.Proofs.YtilkepmmkhmghaaDoor
