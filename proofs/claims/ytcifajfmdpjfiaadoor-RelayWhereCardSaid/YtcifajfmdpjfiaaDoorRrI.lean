/- A call on both relays. -/
import Derived.Test.YtcifajfmdpjfiaaDoorRrH
import Derived.Test.YtcifajfmdpjfiaaDoorRlArgs
namespace Go.Proofs.YtcifajfmdpjfiaaDoor
open Go.RowKit Go.Tum Go.Lib Go.Sort
set_option maxRecDepth 100000
theorem tot_tk {N : List Tx} {S : List Stn} {dn : List Tx} {s : Tx} {n : Int} : tot (tkV N S dn s n).2 = tot S := by
  unfold tkV
  split
  · cases hk : S[posT N s]? with
    | none => rw [List.set_eq_of_length_le (List.getElem?_eq_none_iff.1 hk)]
    | some st =>
      have h2 : S.getD (posT N s) stn0 = st := by rw [List.getD_eq_getElem?_getD, hk]; rfl
      rw [h2]
      have hm : (min n (st.L.length : Int)).toNat ≤ st.L.length := by omega
      exact tot_set (by rw [takeS_ok hm]; unfold sz; dsimp only; rw [List.length_drop]; omega) S _ hk
  · rfl
set_option maxHeartbeats 6400000 in
theorem step_K (W w : World) (rb x C R H i : Nat) (nw : Bool) (N : List Tx) (S : List Stn) (dn : List Tx) (F G : Nat → Prop) (kd : Int) (p : Tx) (xh xl xt : Int) (s : Tx) (m : Int) (h : Two W w rb x C R H nw N S dn S dn F G) (hp : p.length ≤ maxLen) (hB : tot S ≤ 8 * i) (hi : i ≤ 144115188075855872) :
    Calls Tryd.prog 25 #[(.pointer (some ⟨rb, 0, none⟩)), (.pointer (some ⟨x, 0, none⟩)), .agg #[.int .i64 kd, .string ⟨p.toArray⟩, .int .i64 xh, .int .u64 xl, .int .i64 xt, .string ⟨s.toArray⟩, .int .i64 m]] w (Ret fun v w' => v = .bool true ∧ ∃ S' dn' F' G', Two W w' rb x C R H nw N S' dn' S' dn' F' G' ∧ tot S' ≤ 8 * (i + 1)) := by
  have h1 := h.no ((Mods.refl No w).alloc (.cells #[.int .i64 kd, .string ⟨p.toArray⟩, .int .i64 xh, .int .u64 xl, .int .i64 xt, .string ⟨s.toArray⟩, .int .i64 m] 61))
  have hI := h.rel.1
  have hst := h.rel.strict
  have hc1 : 1 ≤ C := by obtain ⟨_, _, _, _, _, _, _, _, hp, _⟩ := h.rel; exact hp.ring.1.c1
  have HBO := Lib.hid (Cells.new w 61 #[.int .i64 kd, .string ⟨p.toArray⟩, .int .i64 xh, .int .u64 xl, .int .i64 xt, .string ⟨s.toArray⟩, .int .i64 m])
  have o0 := HBO.out.at_ 0 rfl
  have o1 := HBO.out.at_ 1 rfl
  have o2 := HBO.out.at_ 2 rfl
  have o3 := HBO.out.at_ 3 rfl
  have o4 := HBO.out.at_ 4 rfl
  have o5 := HBO.out.at_ 5 rfl
  have o6 := HBO.out.at_ 6 rfl
  have ol := HBO.out.lt
  have HNF := Lib.hid (show ¬ F w.heap.size from fun e => Nat.lt_irrefl _ (h.fu _ e))
  have HT := Lib.hid h1
  have hsent : ∀ t ∈ S, t.sent ≤ 2305843009213693952 := fun t ht => by
    have h2 := tot_mem ht
    unfold sz at h2
    omega
  have hSB : StB 2305843009213693952 H S := fun t ht => by
    have h2 := tot_mem ht
    unfold sz at h2
    exact ⟨by omega, hI.held t ht⟩
  have HI := Lib.hid (show ∃ hh : True, RlI N S dn R H ∧ Strict ltT N ∧ 1 ≤ C from ⟨trivial, hI, hst, hc1⟩)
  clear h h1 hI hst hc1
  by_cases e1 : kd = 1
  · subst e1
    obtain ⟨Q, hQ⟩ : ∃ Q, Q = wants dn R (allV (placesOf C N) (fnv64 p)) := ⟨_, rfl⟩
    have hput := fun w' F (h : Two W w' rb x C R H nw N S dn S dn F G) => relput_K w' rb C R H nw N S dn F (p, xh, xl, xt) h.rel hp hSB
    have hput2 := fun w' S1 F G (h : Two W w' rb x C R H nw N S1 dn S dn F G) => rrput_K w' x C R H nw N S dn G (p, xh, xl, xt) h.ref hp hSB
    rw [← hQ] at hput hput2
    have htot : tot (dealAll H nw N (p, xh, xl, xt) Q S) ≤ 8 * (i + 1) := by
      obtain ⟨_, hI, hst, hc1⟩ := HI.out
      have hpm : (allV (placesOf C N) (fnv64 p)).Perm N := allV_perm hc1 (hst.nodup sto_T) _
      have hw := wants_le dn R (allV (placesOf C N) (fnv64 p))
      rw [tot_deal hI.h1 nw hst _ Q S hI.len fun t ht => hpm.mem_iff.1 (wants_mem (hQ ▸ ht)).1]
      rw [← hQ] at hw
      have := hI.r2
      omega
    have Htot := Lib.hid htot
    clear hQ htot hsent hSB
    have Hhput := Lib.hid hput
    clear hput
    have Hhput2 := Lib.hid hput2
    clear hput2
    unfold rv at Hhput Hhput2
    unfold ks at Hhput Hhput2
    go_enter Tryd.func25, Tryd.ntmps25
    go_wp2_with (first | ((with_reducible refine wp_region_one 3 (fun g => g = w.heap.size) [6] 3 ?_ ?_ ?_ ?_ ?_); kernel_rfl; kernel_rfl; kernel_rfl; (with_reducible repeat (first | exact calm_ret | refine calm_then ?_ | refine calm_in ?_ | refine calm_chk ?_ | refine calm_noGoto ?_)); simp only [List.drop_succ_cons, List.drop_zero, List.take_succ_cons, List.take_zero]) | (with_reducible refine segEnd ?_) | (refine And.intro (Keep.one HMF.out HBOd.out HNF.out) ?_) | ((with_reducible refine chkM_end (fun g => g = w.heap.size) ?_ [.pointer (some ⟨w.heap.size, 1, none⟩)] ?_ ?_ ?_); kernel_rfl; kernel_rfl; (intro v hv x hx; simp only [List.mem_cons, List.not_mem_nil, or_false] at hv; subst hv; (injection hx with hx; injection hx with hx; subst hx; simp))) | (go_at_call 13; (refine ret_use (Hhput.out _ _ (HT.out.no (Mods.refl No _).drew)) ?_; rintro v w5 ⟨rfl, hr5, hm5⟩; have HT5 := Lib.hid ((HT.out.no (Mods.refl No _).drew).left hr5 hm5); have HMF := Lib.hid hm5; have HBOd := Lib.hid HBO.out.drew; have hb5 := HBO.out.drew.mods hm5 HNF.out; have o1 := hb5.at_ 1 rfl; have o2 := hb5.at_ 2 rfl; have o3 := hb5.at_ 3 rfl; have o4 := hb5.at_ 4 rfl; have ol := hb5.lt; clear hr5 hm5 hb5)) | (go_at_call 17; (refine ret_use (Hhput2.out _ _ _ _ HT5.out) ?_; rintro v w6 ⟨rfl, hr6, hm6⟩; have HT6 := Lib.hid (HT5.out.right hr6 hm6); clear hr6 hm6)) | ((with_reducible refine wp_region_por ?_ ?_ ?_ ?_); kernel_rfl; kernel_rfl; (with_reducible repeat (first | exact calm_ret | refine calm_then ?_ | refine calm_in ?_ | refine calm_chk ?_ | refine calm_noGoto ?_))) | ((with_reducible refine chk_end ?_ ?_); kernel_rfl))
    go_ret
    exact ⟨by simp, _, _, _, _, HT6.out, Htot.out⟩
  · have f1 : (kd == 1) = false := beq_eq_false_iff_ne.2 e1
    by_cases e2 : kd = 2
    · subst e2
      clear e1
      have htk := fun w' F (h : Two W w' rb x C R H nw N S dn S dn F G) => take_K w' rb C R H nw N S dn F s m h.rel hsent
      have htk2 := fun w' S1 F G (h : Two W w' rb x C R H nw N S1 dn S dn F G) => rrtake_K w' x C R H nw N S dn G s m h.ref hsent
      obtain ⟨T, hT⟩ : ∃ T, T = tkV N S dn s m := ⟨_, rfl⟩
      have hl1 := fun w' w'' v (h : Two W w' rb x C R H nw N S dn S dn F G) ht => two_takeL (w' := w'') (v := v) (s := s) (n := m) h ht
      have hl2 := fun w' w'' F G v (h : Two W w' rb x C R H nw N T.2 dn S dn F G) ht => two_takeR (w' := w'') (v := v) (s := s) (n := m) h ht
      have htt : tot T.2 ≤ 8 * (i + 1) := by rw [hT, tot_tk]; omega
      rw [← hT] at hl1 hl2
      obtain ⟨te, hte⟩ : ∃ te, te = takeE N dn s m := ⟨_, rfl⟩
      rw [← hte] at hl1 hl2
      have Htt := Lib.hid htt
      clear hT hte htt hsent hSB
      have Hhtk := Lib.hid htk
      clear htk
      have Hhtk2 := Lib.hid htk2
      clear htk2
      have Hhl1 := Lib.hid hl1
      clear hl1
      have Hhl2 := Lib.hid hl2
      clear hl2
      unfold ks at Hhtk Hhtk2
      go_enter Tryd.func25, Tryd.ntmps25
      go_wp2_with (first | (go_at_call 14; (refine ret_use (Hhtk.out _ _ HT.out) ?_; rintro v w5 ht5; obtain ⟨A5, c5, rfl, ho5, ht6, hm6⟩ := Hhl1.out _ _ _ HT.out ht5; have HO5 := Lib.hid ho5; have HT5 := Lib.hid ht6; have hb5 := HBO.out.mods hm6 HNF.out; have o5 := hb5.at_ 5 rfl; have o6 := hb5.at_ 6 rfl; have ol := hb5.lt; clear ht5 ho5 ht6 hm6 hb5)) | (go_at_call 18; (refine ret_use (Hhtk2.out _ _ _ _ HT5.out) ?_; rintro v w6 ht6; obtain ⟨A6, c6, rfl, ho6, ht7, hm7⟩ := Hhl2.out _ _ _ _ _ HT5.out ht6; have hlt6 := HT5.out.gu; have ho7 := Tum.Own.mods HO5.out hm7 (fun b hb e => absurd (HT.out.gu b e) (Nat.not_lt.2 (HO5.out.2 b hb))); have HS := Lib.hid (same2 (a := T.1) (b := T.1) rfl rfl rfl ho7.rdlt (ho6.more fun b e => Nat.lt_of_lt_of_le (hlt6 b e) hm7.size) (fun _ e => e) (fun _ e => e)); have HT6 := Lib.hid ht7; clear ht6 ho6 ht7 hm7 hlt6 ho7)) | (go_at_call 15; (refine ret_use (HS.out) ?_; rintro v w7 ⟨rfl, hm8⟩; have HT7 := Lib.hid (HT6.out.no hm8); clear hm8)) | ((with_reducible refine wp_region_por ?_ ?_ ?_ ?_); kernel_rfl; kernel_rfl; (with_reducible repeat (first | exact calm_ret | refine calm_then ?_ | refine calm_in ?_ | refine calm_chk ?_ | refine calm_noGoto ?_))) | ((with_reducible refine chk_end ?_ ?_); kernel_rfl))
      go_ret
      exact ⟨by simp, _, _, _, _, HT7.out, Htt.out⟩
    · have f2 : (kd == 2) = false := beq_eq_false_iff_ne.2 e2
      clear hsent hSB
      have hB' : tot S ≤ 8 * (i + 1) := by omega
      by_cases e3 : kd = 3
      · subst e3
        clear e1 e2
        have hdw := fun w' F (h : Two W w' rb x C R H nw N S dn S dn F G) => down_K w' rb C R H nw N S dn F s h.rel
        have hdw2 := fun w' dn1 F G (h : Two W w' rb x C R H nw N S dn1 S dn F G) => rdown_ref w' x C R H nw N S dn G s h.ref
        have Hhdw := Lib.hid hdw
        clear hdw
        have Hhdw2 := Lib.hid hdw2
        clear hdw2
        unfold ks at Hhdw Hhdw2
        go_enter Tryd.func25, Tryd.ntmps25
        go_wp2_with (first | ((with_reducible refine wp_region_one 9 (fun g => g = w.heap.size) [6] 3 ?_ ?_ ?_ ?_ ?_); kernel_rfl; kernel_rfl; kernel_rfl; (with_reducible repeat (first | exact calm_ret | refine calm_then ?_ | refine calm_in ?_ | refine calm_chk ?_ | refine calm_noGoto ?_)); simp only [List.drop_succ_cons, List.drop_zero, List.take_succ_cons, List.take_zero]) | (with_reducible refine segEnd ?_) | (refine And.intro (Keep.one HMF.out HBOd.out HNF.out) ?_) | ((with_reducible refine chkM_end (fun g => g = w.heap.size) ?_ [.pointer (some ⟨w.heap.size, 5, none⟩)] ?_ ?_ ?_); kernel_rfl; kernel_rfl; (intro v hv x hx; simp only [List.mem_cons, List.not_mem_nil, or_false] at hv; subst hv; (injection hx with hx; injection hx with hx; subst hx; simp))) | (go_at_call 21; (refine ret_use (Hhdw.out _ _ (HT.out.no (Mods.refl No _).drew)) ?_; rintro v w5 ⟨rfl, hr5, hm5⟩; have HT5 := Lib.hid ((HT.out.no (Mods.refl No _).drew).left hr5 hm5); have HMF := Lib.hid hm5; have HBOd := Lib.hid HBO.out.drew; have hb5 := HBO.out.drew.mods hm5 HNF.out; have o5 := hb5.at_ 5 rfl; have ol := hb5.lt; clear hr5 hm5 hb5)) | (go_at_call 22; (refine ret_use (Hhdw2.out _ _ _ _ HT5.out) ?_; rintro v w6 ⟨rfl, hr6, hm6⟩; have HT6 := Lib.hid (HT5.out.right (hr6.more fun b _ e => .inl e) hm6); clear hr6 hm6)) | ((with_reducible refine wp_region_por ?_ ?_ ?_ ?_); kernel_rfl; kernel_rfl; (with_reducible repeat (first | exact calm_ret | refine calm_then ?_ | refine calm_in ?_ | refine calm_chk ?_ | refine calm_noGoto ?_))) | ((with_reducible refine chk_end ?_ ?_); kernel_rfl))
        go_ret
        exact ⟨by simp, _, _, _, _, HT6.out, hB'⟩
      · have f3 : (kd == 3) = false := beq_eq_false_iff_ne.2 e3
        by_cases e4 : kd = 4
        · subst e4
          clear e1 e2 e3
          have hdw := fun w' F (h : Two W w' rb x C R H nw N S dn S dn F G) => up_K w' rb C R H nw N S dn F s h.rel
          have hdw2 := fun w' dn1 F G (h : Two W w' rb x C R H nw N S dn1 S dn F G) => rup_ref w' x C R H nw N S dn G s h.ref
          have Hhdw := Lib.hid hdw
          clear hdw
          have Hhdw2 := Lib.hid hdw2
          clear hdw2
          unfold ks at Hhdw Hhdw2
          go_enter Tryd.func25, Tryd.ntmps25
          go_wp2_with (first | ((with_reducible refine wp_region_one 11 (fun g => g = w.heap.size) [6] 3 ?_ ?_ ?_ ?_ ?_); kernel_rfl; kernel_rfl; kernel_rfl; (with_reducible repeat (first | exact calm_ret | refine calm_then ?_ | refine calm_in ?_ | refine calm_chk ?_ | refine calm_noGoto ?_)); simp only [List.drop_succ_cons, List.drop_zero, List.take_succ_cons, List.take_zero]) | (with_reducible refine segEnd ?_) | (refine And.intro (Keep.one HMF.out HBOd.out HNF.out) ?_) | ((with_reducible refine chkM_end (fun g => g = w.heap.size) ?_ [.pointer (some ⟨w.heap.size, 5, none⟩)] ?_ ?_ ?_); kernel_rfl; kernel_rfl; (intro v hv x hx; simp only [List.mem_cons, List.not_mem_nil, or_false] at hv; subst hv; (injection hx with hx; injection hx with hx; subst hx; simp))) | (go_at_call 26; (refine ret_use (Hhdw.out _ _ (HT.out.no (Mods.refl No _).drew)) ?_; rintro v w5 ⟨rfl, hr5, hm5⟩; have HT5 := Lib.hid ((HT.out.no (Mods.refl No _).drew).left hr5 hm5); have HMF := Lib.hid hm5; have HBOd := Lib.hid HBO.out.drew; have hb5 := HBO.out.drew.mods hm5 HNF.out; have o5 := hb5.at_ 5 rfl; have ol := hb5.lt; clear hr5 hm5 hb5)) | (go_at_call 22; (refine ret_use (Hhdw2.out _ _ _ _ HT5.out) ?_; rintro v w6 ⟨rfl, hr6, hm6⟩; have HT6 := Lib.hid (HT5.out.right (hr6.more fun b _ e => .inl e) hm6); clear hr6 hm6)) | ((with_reducible refine wp_region_por ?_ ?_ ?_ ?_); kernel_rfl; kernel_rfl; (with_reducible repeat (first | exact calm_ret | refine calm_then ?_ | refine calm_in ?_ | refine calm_chk ?_ | refine calm_noGoto ?_))) | ((with_reducible refine chk_end ?_ ?_); kernel_rfl))
          go_ret
          exact ⟨by simp, _, _, _, _, HT6.out, hB'⟩
        · have f4 : (kd == 4) = false := beq_eq_false_iff_ne.2 e4
          by_cases e5 : kd = 5
          · subst e5
            clear e1 e2 e3 e4
            have hct := fun w' F (h : Two W w' rb x C R H nw N S dn S dn F G) => counts_K w' rb C R H nw N S dn F h.rel
            have hct2 := fun w' F G (h : Two W w' rb x C R H nw N S dn S dn F G) => rcounts_ref w' x C R H nw N S dn G h.ref
            obtain ⟨L, hL⟩ : ∃ L, L = countsV N S dn := ⟨_, rfl⟩
            have hLl : L.length = N.length := by obtain ⟨_, hI, _⟩ := HI.out; rw [hL, countsV_len hI.len]
            rw [← hL, ← hLl] at hct hct2
            clear hL hLl
            have Hhct := Lib.hid hct
            clear hct
            have Hhct2 := Lib.hid hct2
            clear hct2
            go_enter Tryd.func25, Tryd.ntmps25
            go_wp2_with (first | (go_at_call 16; (refine ret_use (Hhct.out _ _ HT.out) ?_; rintro v w5 ⟨ho5, hm5⟩; have HO5 := Lib.hid ho5; have HT5 := Lib.hid (HT.out.no hm5); clear ho5 hm5)) | (go_at_call 20; (refine ret_use (Hhct2.out _ _ _ HT5.out) ?_; rintro v w6 ⟨ho6, hm6⟩; have hs6 := sameC_K w6 _ _ _ _ L L (Tum.Own.mods HO5.out hm6 fun _ _ e => e).rdlt ho6.rdlt (fun _ e => e) (fun _ e => e); rw [decide_eq_true rfl] at hs6; have HS6 := Lib.hid hs6; have HT6 := Lib.hid (HT5.out.no hm6); clear ho6 hm6 hs6)) | (go_at_call 19; (refine ret_use (HS6.out) ?_; rintro v w7 ⟨rfl, hm7⟩; have HT7 := Lib.hid (HT6.out.no hm7); clear hm7)) | ((with_reducible refine wp_region_por ?_ ?_ ?_ ?_); kernel_rfl; kernel_rfl; (with_reducible repeat (first | exact calm_ret | refine calm_then ?_ | refine calm_in ?_ | refine calm_chk ?_ | refine calm_noGoto ?_))) | ((with_reducible refine chk_end ?_ ?_); kernel_rfl))
            go_ret
            exact ⟨rfl, _, _, _, _, HT7.out, hB'⟩
          · have f5 : (kd == 5) = false := beq_eq_false_iff_ne.2 e5
            go_enter Tryd.func25, Tryd.ntmps25
            go_wp2_with (first | ((with_reducible refine wp_region_por ?_ ?_ ?_ ?_); kernel_rfl; kernel_rfl; (with_reducible repeat (first | exact calm_ret | refine calm_then ?_ | refine calm_in ?_ | refine calm_chk ?_ | refine calm_noGoto ?_))) | ((with_reducible refine chk_end ?_ ?_); kernel_rfl))
            go_ret
            exact ⟨rfl, _, _, _, _, HT.out, hB'⟩
end Go.Proofs.YtcifajfmdpjfiaaDoor
