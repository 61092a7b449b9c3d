/- The law's helper alive. -/
import Derived.Test.YtilkepmmkhmghaaDoorRgO
import Derived.Test.YtilkepmmkhmghaaDoorRing6
namespace Go.Proofs.YtilkepmmkhmghaaDoor
open Go.RowKit Go.Tum Go.Lib Go.Sort
set_option maxRecDepth 100000
theorem _root_.Go.Tum.Own.rdlt {w : World} {F : Nat → Prop} {e : TypeId} {size n : Nat} {v : Value} {xs : List Value} (h : Tum.Own w F e size v n xs) : Rd w (fun g => g < w.heap.size) size v n xs := Rd.of_own h.1 fun g hg => Tum.Own.lt h g hg
theorem _root_.Go.Tum.Rd.keep {w w' : World} {size n : Nat} {v : Value} {xs : List Value} (h : Rd w (fun g => g < w.heap.size) size v n xs) (hm : Mods No w w') : Rd w' (fun g => g < w'.heap.size) size v n xs :=
  (h.same (hm.same fun _ hk => ⟨hk, fun e => e⟩)).more fun _ e => Nat.lt_of_lt_of_le e hm.size
theorem _root_.Go.Tum.Rd.boxlt (w : World) (cs : Array Value) (e : TypeId) {n size : Nat} (hl : cs.size = n * size) (hm : n ≤ maxLen) : Rd (w.alloc (.cells cs e)) (fun g => g < (w.alloc (.cells cs e)).heap.size) size (.slice (some ⟨w.heap.size, 0, none⟩) n n) n cs.toList :=
  (Rd.box w cs e rfl hl hm).more fun g hg => by subst hg; rw [World.size_alloc]; omega
theorem new_ok {w w' : World} {l : List Tx} {n : Int} {v : Value} (h : NewIs w w' l n v) (he : newE l n = 0) : ∃ q, v = .tuple #[(.pointer (some ⟨q, 0, none⟩)), .int .i64 0] ∧ RingK w' q n.toNat (nodesOf l) (fun g => w.heap.size ≤ g) ∧ Mods No w w' := by
  obtain ⟨p, rfl, hm, _, h2⟩ := h
  obtain ⟨q, rfl, hr⟩ := h2 he
  exact ⟨q, by rw [he], hr, hm⟩
set_option maxHeartbeats 3200000 in
theorem alive_K (w : World) (ht : Tab w) : Calls Tryd.prog 13 #[] w (Ret fun v w' => v = .bool true ∧ Mods No w w') := by
  have hnew := new_K (w.alloc (.cells #[ks [98], ks [97]] 9)) (.slice (some ⟨w.heap.size, 0, none⟩) 2 2) [[98], [97]] 2 (Rd.boxlt w #[ks [98], ks [97]] 9 (n := 2) (size := 1) rfl (by decide)) (ht.no ((Mods.refl No w).alloc _))
  have he : newE [[98], [97]] 2 = 0 := by decide
  obtain ⟨N, hN⟩ : ∃ N, N = nodesOf [[98], [97]] := ⟨_, rfl⟩
  have hok := fun w' v (h : NewIs (w.alloc (.cells #[ks [98], ks [97]] 9)) w' [[98], [97]] 2 v) => new_ok h he
  rw [← hN] at hok
  have hdec : N = [[97], [98]] := by rw [hN]; decide
  have hnl : N.length = 2 := by rw [hdec]; rfl
  have hnd : N.Nodup := by rw [hdec]; decide
  have hpl : (placesOf 2 N).length = 4 := by rw [placesOf_len, hnl]
  have hkl := pick_len (c := 2) (by decide) hnd (fnv64 [107]) 5
  rw [hnl] at hkl
  have hsame := fun w' v (h : Rd w' (fun g => g < w'.heap.size) 1 v N.length (N.map ks)) => sameT_K (w'.alloc (.cells #[ks [97], ks [98]] 9)) _ _ v (.slice (some ⟨w'.heap.size, 0, none⟩) 2 2) N [[97], [98]] (h.keep ((Mods.refl No w').alloc (.cells #[ks [97], ks [98]] 9))) (Rd.boxlt w' #[ks [97], ks [98]] 9 (n := 2) (size := 1) rfl (by decide)) (fun k hk => hk) (fun k hk => hk)
  rw [decide_eq_true hdec] at hsame
  have hpick := fun w' q F h => pick_K w' q 2 N [107] 5 F h (by unfold maxLen; decide)
  obtain ⟨P, hP⟩ : ∃ P, P = pickV (placesOf 2 N) (fnv64 [107]) 5 := ⟨_, rfl⟩
  rw [← hP] at hkl hpick
  have hkl2 : P.length = 2 := hkl
  obtain ⟨L, hL⟩ : ∃ L, L = placesOf 2 N := ⟨_, rfl⟩
  have hplaces := fun w' q F h => places_K w' q 2 N F h
  rw [← hL] at hpl hplaces
  rw [hkl2] at hpick
  rw [hpl] at hplaces
  clear hN hdec hnd hkl hP hL hnl hpl hkl2 he
  have Hht := Lib.hid ht
  clear ht
  have Hhnew := Lib.hid hnew
  clear hnew
  have Hhok := Lib.hid hok
  clear hok
  have Hhsame := Lib.hid hsame
  clear hsame
  have Hhpick := Lib.hid hpick
  clear hpick
  have Hhplaces := Lib.hid hplaces
  clear hplaces
  unfold ks at Hhnew Hhsame Hhpick
  go_enter Tryd.func13, Tryd.ntmps13
  go_wp2_with (first | (go_at_call 10; (refine ret_use (Hhnew.out) ?_; rintro v w2 hn2; have h2 := Hhok.out _ _ hn2; obtain ⟨q, rfl, hr2, hm2⟩ := h2; have HR2 := Lib.hid hr2; have HM2 := Lib.hid hm2; clear hn2 hr2 hm2)) | (go_at_call 14; (refine ret_use (nodes_K w2 q 2 N _ HR2.out) ?_; rintro v w3 ⟨ho3, hm3⟩; have HR3 := Lib.hid (HR2.out.no hm3); have HS3 := Lib.hid (Hhsame.out w3 _ ho3.rdlt); have HM3 := Lib.hid hm3; obtain ⟨A3, c3, rfl, _, _⟩ := ho3.form; clear ho3 hm3)) | (go_at_call 12; (refine ret_use (HS3.out) ?_; rintro v w4 ⟨rfl, hm4⟩; have HM4 := Lib.hid (((Mods.refl No w3).alloc _).trans hm4 fun _ _ e => e); have HR4 := Lib.hid (HR3.out.no HM4.out); clear hm4)) | (go_at_call 15; (refine ret_use (Hhplaces.out w4 q _ HR4.out) ?_; rintro v w5 ⟨ho5, hm5⟩; have HR5 := Lib.hid (HR4.out.no hm5); have HM5 := Lib.hid hm5; obtain ⟨A5, c5, rfl, _, _⟩ := ho5.form; clear ho5 hm5)) | (go_at_call 16; (refine ret_use (Hhpick.out w5 q _ HR5.out) ?_; rintro v w6 ⟨ho6, hm6⟩; have HM6 := Lib.hid hm6; obtain ⟨A6, c6, rfl, _, _⟩ := ho6.form; clear ho6 hm6)) | ((with_reducible refine wp_region_por ?_ ?_ ?_ ?_); kernel_rfl; kernel_rfl; (with_reducible repeat (first | exact calm_ret | refine calm_then ?_ | refine calm_in ?_ | refine calm_chk ?_ | refine calm_noGoto ?_))) | ((with_reducible refine chk_end ?_ ?_); kernel_rfl))
  go_ret
  exact ⟨rfl, (((((Mods.refl No w).alloc _).trans HM2.out fun _ _ e => e).trans HM3.out fun _ _ e => e).trans HM4.out fun _ _ e => e).trans (HM5.out.trans HM6.out fun _ _ e => e) fun _ _ e => e⟩
end Go.Proofs.YtilkepmmkhmghaaDoor
