/- The law's step: one call held against the list. -/
import Derived.Test.YtmfpgghpnkmkpaaDueV
namespace Go.Proofs.Ytmfpgghpnkmkpaa
open Go.RowKit Go.Tum Go.Shelf
set_option maxRecDepth 100000
set_option maxHeartbeats 6400000 in
theorem step_K (w : World) (q r n0 : Nat) (lim : Int) (s : QS) (kind : Int) (key : List UInt8) (t : Int) (h : Two w q r lim s (srt s) n0) (hqi : QI s.1 s.2) (h0 : 0 < lim) (h1 : lim ≤ 65536) (hl : key.length ≤ 281474976710656) :
    Calls Try.prog 24 #[(.pointer (some ⟨q, 0, none⟩)), (.pointer (some ⟨r, 0, none⟩)), .agg #[.int .i64 kind, ks key, .int .i64 t]] w (Ret fun v w' => v = .bool true ∧ Mods (Ge n0) w w' ∧ ∃ s', QI s'.1 s'.2 ∧ Two w' q r lim s' (srt s') n0) := by
  obtain ⟨v, Fd, Fr, h⟩ := h
  have hmx : key.length ≤ maxLen := by unfold maxLen; omega
  have hMS : Mods No w (w.alloc (.cells #[.int .i64 kind, ks key, .int .i64 t] 55)) := (Mods.refl No w).alloc _
  have hB := Cells.new w 55 #[.int .i64 kind, ks key, .int .i64 t]
  have h' := h.no hMS
  have hnb : ¬ Fd w.heap.size := fun e => by have := (h.fd _ e).2.1; omega
  have lr := h.hr.cells.lt
  have hnbr : w.heap.size ≠ r := by omega
  have hle := h.le
  have hGe : ∀ a b, Mods Fd a b → Mods (Ge n0) a b := fun a b hm => hm.mono fun g _ hg => (h.fd g hg).1
  have hGr : ∀ a b, Mods (fun k => k = r) a b → Mods (Ge n0) a b := fun a b hm => hm.mono fun g _ hg => hg ▸ h.nr
  have Hh := Lib.hid h
  clear h
  have Hh' := Lib.hid h'
  clear h'
  have HhMS := Lib.hid hMS
  clear hMS
  have HhB := Lib.hid hB
  clear hB
  have Hhqi := Lib.hid hqi
  clear hqi
  have HhGe := Lib.hid hGe
  clear hGe
  have HhGr := Lib.hid hGr
  clear hGr
  have Hhnb := Lib.hid hnb
  clear hnb
  unfold ks at *
  go_enter Try.func24, Try.ntmps24
  by_cases hk1 : kind = 1
  · subst hk1
    go_wp2_with (first | ((with_reducible refine wp_region_one 3 (fun g => g = w.heap.size) [8, 10] 5 ?_ ?_ ?_ ?_ ?_); kernel_rfl; kernel_rfl; kernel_rfl; (with_reducible repeat (first | exact calm_ret | refine calm_then ?_ | refine calm_in ?_ | refine calm_chk ?_ | refine calm_noGoto ?_)); simp only [List.drop_succ_cons, List.drop_zero, List.take_succ_cons, List.take_zero]) | (with_reducible refine segEnd ?_) | (refine And.intro (Keep.one HM2.out HhB.out.drew Hhnb.out) ?_) | ((with_reducible refine chkM_end (fun g => g = w.heap.size) ?_ [.pointer (some ⟨w.heap.size, 1, none⟩), .pointer (some ⟨w.heap.size, 2, none⟩)] ?_ ?_ ?_); kernel_rfl; kernel_rfl; (intro v hv x hx; simp only [List.mem_cons, List.not_mem_nil, or_false] at hv; rcases hv with rfl | rfl <;> (injection hx with hx; injection hx with hx; subst hx; simp))) | (go_at_call 9; (refine ret_use ((Hh'.out.no ((Mods.refl No _).drew)).setq h0 h1 key t hl) ?_; rintro u w2 ⟨rfl, hm2, h2⟩; have HM2 := Lib.hid hm2; have HH2 := Lib.hid h2; have HB2 := Lib.hid (HhB.out.drew.mods hm2 Hhnb.out); have k1 := HB2.out.at_ 1 rfl; have k2 := HB2.out.at_ 2 rfl; clear hm2 h2)) | (go_at_call 17; (refine ret_use (HH2.out.setr h1 key t) ?_; rintro u w3 ⟨rfl, hm3, v3, Fr3, h3, _⟩; have HM3 := Lib.hid hm3; have HH3 := Lib.hid h3; clear hm3 h3)) | ((with_reducible refine wp_region_por ?_ ?_ ?_ ?_); kernel_rfl; kernel_rfl; (with_reducible repeat (first | exact calm_ret | refine calm_then ?_ | refine calm_in ?_ | refine calm_chk ?_ | refine calm_noGoto ?_))) | ((with_reducible refine chk_end ?_ ?_); kernel_rfl))
    go_ret
    obtain ⟨r1, r2, r3⟩ := set_ref Hhqi.out lim key t
    have h3 := HH3.out.two
    rw [← r2] at h3
    exact ⟨by simp [r3], ((HhMS.out.drew.mono (T := Ge n0) no_sub).trans (HhGe.out _ _ HM2.out) fun _ _ e => e).trans (HhGr.out _ _ HM3.out) fun _ _ e => e, _, r1, h3⟩
  · have hk1' : (kind == 1) = false := by simpa using hk1
    by_cases hk2 : kind = 2
    · subst hk2
      go_wp2_with (first | ((with_reducible refine wp_region_one 5 (fun g => g = w.heap.size) [6] 3 ?_ ?_ ?_ ?_ ?_); kernel_rfl; kernel_rfl; kernel_rfl; (with_reducible repeat (first | exact calm_ret | refine calm_then ?_ | refine calm_in ?_ | refine calm_chk ?_ | refine calm_noGoto ?_)); simp only [List.drop_succ_cons, List.drop_zero, List.take_succ_cons, List.take_zero]) | (with_reducible refine segEnd ?_) | (refine And.intro (Keep.one HM2.out HhB.out.drew Hhnb.out) ?_) | ((with_reducible refine chkM_end (fun g => g = w.heap.size) ?_ [.pointer (some ⟨w.heap.size, 1, none⟩)] ?_ ?_ ?_); kernel_rfl; kernel_rfl; (intro v hv x hx; simp only [List.mem_cons, List.not_mem_nil, or_false] at hv; subst hv; (injection hx with hx; injection hx with hx; subst hx; simp))) | (go_at_call 22; (refine ret_use ((Hh'.out.no ((Mods.refl No _).drew)).dropq h0 key hmx) ?_; rintro u w2 ⟨rfl, hm2, h2⟩; have HM2 := Lib.hid hm2; have HH2 := Lib.hid h2; have HB2 := Lib.hid (HhB.out.drew.mods hm2 Hhnb.out); have k1 := HB2.out.at_ 1 rfl; have k2 := HB2.out.at_ 2 rfl; clear hm2 h2)) | (go_at_call 23; (refine ret_use (HH2.out.dropr key) ?_; rintro u w3 ⟨rfl, hm3, v3, Fr3, h3, _⟩; have HM3 := Lib.hid hm3; have HH3 := Lib.hid h3; clear hm3 h3)) | ((with_reducible refine wp_region_por ?_ ?_ ?_ ?_); kernel_rfl; kernel_rfl; (with_reducible repeat (first | exact calm_ret | refine calm_then ?_ | refine calm_in ?_ | refine calm_chk ?_ | refine calm_noGoto ?_))) | ((with_reducible refine chk_end ?_ ?_); kernel_rfl))
      go_ret
      obtain ⟨r1, r2, r3⟩ := drop_ref Hhqi.out key
      have h3 := HH3.out.two
      rw [← r2] at h3
      exact ⟨by simp [r3], ((HhMS.out.drew.mono (T := Ge n0) no_sub).trans (HhGe.out _ _ HM2.out) fun _ _ e => e).trans (HhGr.out _ _ HM3.out) fun _ _ e => e, _, r1, h3⟩
    · have hk2' : (kind == 2) = false := by simpa using hk2
      by_cases hk3 : kind = 3
      · subst hk3
        have hat := fun w' (hm : Mods No w w') => at_K w' q lim s Fd key (Hh.out.no hm).hq h0 hmx
        have hrt := fun w' (hm : Mods No w w') => rat_K w' r lim (srt s) Fr key ⟨_, (Hh.out.no hm).hr⟩
        simp only [at_ref Hhqi.out] at hat
        obtain ⟨z, hzz⟩ : ∃ z, refAt (srt s) key = z := ⟨_, rfl⟩
        simp only [hzz] at hat hrt
        obtain ⟨p, ok⟩ := z
        dsimp only at hat hrt
        clear hzz
        have Hhat := Lib.hid hat
        clear hat
        have Hhrt := Lib.hid hrt
        clear hrt
        go_wp2_with (first | (go_at_call 13; (refine ret_use (Hhat.out _ HhMS.out) ?_; rintro u w2 ⟨rfl, hm2⟩; have HM2 := Lib.hid (HhMS.out.trans hm2 fun _ _ e => e); have HB2 := Lib.hid (HhB.out.mods hm2 fun e => e); have k1 := HB2.out.at_ 1 rfl; clear hm2)) | (go_at_call 37; (refine ret_use (Hhrt.out _ HM2.out) ?_; rintro u w3 ⟨rfl, hm3⟩; have HM3 := Lib.hid (HM2.out.trans hm3 fun _ _ e => e); clear hm3)) | ((with_reducible refine wp_region_por ?_ ?_ ?_ ?_); kernel_rfl; kernel_rfl; (with_reducible repeat (first | exact calm_ret | refine calm_then ?_ | refine calm_in ?_ | refine calm_chk ?_ | refine calm_noGoto ?_))) | ((with_reducible refine chk_end ?_ ?_); kernel_rfl))
        go_ret
        exact ⟨by simp, HM3.out.mono no_sub, s, Hhqi.out, (Hh.out.no HM3.out).two⟩
      · have hk3' : (kind == 3) = false := by simpa using hk3
        by_cases hk4 : kind = 4
        · subst hk4
          have hnx := fun w' (hm : Mods No w w') => next_K w' q lim s Fd (Hh.out.no hm).hq h0
          have hrx := fun w' (hm : Mods No w w') => rnext_K w' r lim (srt s) Fr ⟨_, (Hh.out.no hm).hr⟩
          simp only [next_ref Hhqi.out] at hnx
          obtain ⟨z, hzz⟩ : ∃ z, refNext (srt s) = z := ⟨_, rfl⟩
          simp only [hzz] at hnx hrx
          obtain ⟨p, ok⟩ := z
          dsimp only at hnx hrx
          clear hzz
          have hee := fun w => eql_ent w p p
          rw [show decide (p = p) = true by simp] at hee
          unfold ks at *
          have Hhnx := Lib.hid hnx
          clear hnx
          have Hhrx := Lib.hid hrx
          clear hrx
          go_wp2_with (first | (go_at_call 14; (refine ret_use (Hhnx.out _ HhMS.out) ?_; rintro u w2 ⟨rfl, hm2⟩; have HM2 := Lib.hid ((HhMS.out.trans hm2 fun _ _ e => e).alloc (.cells #[.string ⟨p.1.toArray⟩, .int .i64 p.2] 29)); have HC2 := Lib.hid (Cells.new w2 29 #[.string ⟨p.1.toArray⟩, .int .i64 p.2]); clear hm2)) | (go_at_call 38; (refine ret_use (Hhrx.out _ HM2.out) ?_; rintro u w3 ⟨rfl, hm3⟩; have HM3 := Lib.hid (HM2.out.trans hm3 fun _ _ e => e); have x0 := (HC2.out.mods hm3 fun e => e).at_ 0 rfl; have x1 := (HC2.out.mods hm3 fun e => e).at_ 1 rfl; have hz := (HC2.out.mods hm3 fun e => e).lt; clear hm3)) | ((with_reducible refine wp_region_por ?_ ?_ ?_ ?_); kernel_rfl; kernel_rfl; (with_reducible repeat (first | exact calm_ret | refine calm_then ?_ | refine calm_in ?_ | refine calm_chk ?_ | refine calm_noGoto ?_))) | ((with_reducible refine chk_end ?_ ?_); kernel_rfl))
          go_ret
          exact ⟨by simp, (HM3.out.alloc _).mono no_sub, s, Hhqi.out, (Hh.out.no (HM3.out.alloc _)).two⟩
        · have hk4' : (kind == 4) = false := by simpa using hk4
          by_cases hk5 : kind = 5
          · subst hk5
            go_wp2_with (first | ((with_reducible refine wp_region_one 15 (fun g => g = w.heap.size) [6] 3 ?_ ?_ ?_ ?_ ?_); kernel_rfl; kernel_rfl; kernel_rfl; (with_reducible repeat (first | exact calm_ret | refine calm_then ?_ | refine calm_in ?_ | refine calm_chk ?_ | refine calm_noGoto ?_)); simp only [List.drop_succ_cons, List.drop_zero, List.take_succ_cons, List.take_zero]) | (with_reducible refine segEnd ?_) | (refine And.intro (Keep.one HM2.out HhB.out.drew Hhnb.out) ?_) | ((with_reducible refine chkM_end (fun g => g = w.heap.size) ?_ [.pointer (some ⟨w.heap.size, 2, none⟩)] ?_ ?_ ?_); kernel_rfl; kernel_rfl; (intro v hv x hx; simp only [List.mem_cons, List.not_mem_nil, or_false] at hv; subst hv; (injection hx with hx; injection hx with hx; subst hx; simp))) | (go_at_call 11; (refine ret_use ((Hh'.out.no ((Mods.refl No _).drew)).takeq h0 t) ?_; rintro u w2 ⟨ho2, hm2, h2⟩; have HO2 := Lib.hid ho2; have HM2 := Lib.hid hm2; have HH2 := Lib.hid h2; have HB2 := Lib.hid (HhB.out.drew.mods hm2 Hhnb.out); have k1 := HB2.out.at_ 1 rfl; have k2 := HB2.out.at_ 2 rfl; clear ho2 hm2 h2)) | (go_at_call 18; (refine ret_use (HH2.out.taker t) ?_; rintro u' w3 ⟨hr3, hm3, v3, h3⟩; have HR3 := Lib.hid hr3; have HM3 := Lib.hid hm3; have HH3 := Lib.hid h3; have HO3 := Lib.hid (HO2.out.mods hm3 fun g hg e => by have h1 := HO2.out.2 g hg; have h2 := Hh'.out.hr.cells.lt; exact absurd h1 (by rw [e]; exact Nat.not_le_of_lt h2)); clear hr3 hm3 h3)) | (go_at_call 19; (refine ret_use (same_K _ (fun g => g < w3.heap.size) Fr _ _ _ _ (Rd.of_own HO3.out.1 fun g hg => HO3.out.lt g hg) HR3.out (fun _ e => e) HH3.out.hr.lt) ?_; rintro u'' w4 ⟨rfl, hm4⟩; have HM4 := Lib.hid hm4; clear hm4)) | ((with_reducible refine wp_region_por ?_ ?_ ?_ ?_); kernel_rfl; kernel_rfl; (with_reducible repeat (first | exact calm_ret | refine calm_then ?_ | refine calm_in ?_ | refine calm_chk ?_ | refine calm_noGoto ?_))) | ((with_reducible refine chk_end ?_ ?_); kernel_rfl))
            go_ret
            obtain ⟨r1, r2, r3⟩ := take_ref t Hhqi.out
            have h3 := (HH3.out.no HM4.out).two
            rw [← r3] at h3
            exact ⟨by simp [r2], (((HhMS.out.drew.mono (T := Ge n0) no_sub).trans (HhGe.out _ _ HM2.out) fun _ _ e => e).trans (HhGr.out _ _ HM3.out) fun _ _ e => e).trans (HM4.out.mono (T := Ge n0) no_sub) fun _ _ e => e, _, r1, h3⟩
          · have hk5' : (kind == 5) = false := by simpa using hk5
            by_cases hk6 : kind = 6
            · subst hk6
              obtain ⟨A, c, rfl⟩ := Hh.out.form
              have c1 := Hh'.out.cells.at_ 1 rfl
              have hL := srt_len s
              have HhL := Lib.hid hL
              clear hL
              go_wp2_with (first | ((with_reducible refine wp_region_one 17 (fun g => g = r) [5] 1 ?_ ?_ ?_ ?_ ?_); kernel_rfl; kernel_rfl; kernel_rfl; (with_reducible repeat (first | exact calm_ret | refine calm_then ?_ | refine calm_in ?_ | refine calm_chk ?_ | refine calm_noGoto ?_)); simp only [List.drop_succ_cons, List.drop_zero, List.take_succ_cons, List.take_zero]) | (with_reducible refine segEnd ?_) | (refine And.intro (Keep.one HM2.out Hh'.out.cells.drew (fun e => e)) ?_) | ((with_reducible refine chkM_end (fun g => g = r) ?_ [.pointer (some ⟨r, 1, none⟩)] ?_ ?_ ?_); kernel_rfl; kernel_rfl; (intro v hv x hx; simp only [List.mem_cons, List.not_mem_nil, or_false] at hv; subst hv; (injection hx with hx; injection hx with hx; subst hx; simp))) | (go_at_call 10; (refine ret_use (qlen_K _ q lim s Fd (Hh'.out.no ((Mods.refl No _).drew)).hq h0) ?_; rintro u w2 ⟨rfl, hw2⟩; have HM2 := Lib.hid (show Mods No (w.alloc (.cells #[.int .i64 6, .string ⟨key.toArray⟩, .int .i64 t] 55)).drew w2 by rw [hw2]; exact Mods.refl _ _); have c2 := (Hh'.out.cells.drew.mods HM2.out fun e => e).at_ 1 rfl; clear hw2)) | ((with_reducible refine wp_region_por ?_ ?_ ?_ ?_); kernel_rfl; kernel_rfl; (with_reducible repeat (first | exact calm_ret | refine calm_then ?_ | refine calm_in ?_ | refine calm_chk ?_ | refine calm_noGoto ?_))) | ((with_reducible refine chk_end ?_ ?_); kernel_rfl))
              go_ret
              have hm := HhMS.out.drew.trans HM2.out fun _ _ e => e
              exact ⟨by simp [HhL.out], hm.mono no_sub, s, Hhqi.out, (Hh.out.no hm).two⟩
            · have hk6' : (kind == 6) = false := by simpa using hk6
              by_cases hk7 : kind = 7
              · subst hk7
                obtain ⟨A, c, rfl⟩ := Hh.out.form
                have c1 := Hh'.out.cells.at_ 1 rfl
                have hL := srt_len s
                have hs := Hh.out.hr.small
                have HhL := Lib.hid hL
                clear hL
                go_wp2_with (first | ((with_reducible refine wp_region_one 19 (fun g => g = r) [11] 7 ?_ ?_ ?_ ?_ ?_); kernel_rfl; kernel_rfl; kernel_rfl; (with_reducible repeat (first | exact calm_ret | refine calm_then ?_ | refine calm_in ?_ | refine calm_chk ?_ | refine calm_noGoto ?_)); simp only [List.drop_succ_cons, List.drop_zero, List.take_succ_cons, List.take_zero]) | (with_reducible refine segEnd ?_) | (refine And.intro (Keep.one HM2.out Hh'.out.cells.drew (fun e => e)) ?_) | ((with_reducible refine chkM_end (fun g => g = r) ?_ [.pointer (some ⟨r, 1, none⟩)] ?_ ?_ ?_); kernel_rfl; kernel_rfl; (intro v hv x hx; simp only [List.mem_cons, List.not_mem_nil, or_false] at hv; subst hv; (injection hx with hx; injection hx with hx; subst hx; simp))) | (go_at_call 20; (refine ret_use ((Hh'.out.no ((Mods.refl No _).drew)).all h0 _ (by have := HhL.out; omega)) ?_; rintro u w2 ⟨ho2, hm2⟩; have HO2 := Lib.hid ho2; have HM2 := Lib.hid hm2; have HH2 := Lib.hid ((Hh'.out.no ((Mods.refl No _).drew)).no hm2); have c2 := (Hh'.out.cells.drew.mods HM2.out fun e => e).at_ 1 rfl; clear ho2 hm2)) | (go_at_call 19; (refine ret_use (same_K _ (fun g => g < w2.heap.size) Fr _ _ _ _ (Rd.of_own HO2.out.1 fun g hg => HO2.out.lt g hg) HH2.out.hr.rd (fun _ e => e) HH2.out.hr.lt) ?_; rintro u'' w4 ⟨rfl, hm4⟩; have HM4 := Lib.hid hm4; clear hm4)) | ((with_reducible refine wp_region_por ?_ ?_ ?_ ?_); kernel_rfl; kernel_rfl; (with_reducible repeat (first | exact calm_ret | refine calm_then ?_ | refine calm_in ?_ | refine calm_chk ?_ | refine calm_noGoto ?_))) | ((with_reducible refine chk_end ?_ ?_); kernel_rfl))
                go_ret
                have hm := (HhMS.out.drew.trans HM2.out fun _ _ e => e).trans HM4.out fun _ _ e => e
                exact ⟨by simp, hm.mono no_sub, s, Hhqi.out, (Hh.out.no hm).two⟩
              · have hk7' : (kind == 7) = false := by simpa using hk7
                go_wp2_with (first | ((with_reducible refine wp_region_por ?_ ?_ ?_ ?_); kernel_rfl; kernel_rfl; (with_reducible repeat (first | exact calm_ret | refine calm_then ?_ | refine calm_in ?_ | refine calm_chk ?_ | refine calm_noGoto ?_))) | ((with_reducible refine chk_end ?_ ?_); kernel_rfl))
                go_ret
                exact ⟨rfl, HhMS.out.mono no_sub, s, Hhqi.out, (Hh.out.no HhMS.out).two⟩
end Go.Proofs.Ytmfpgghpnkmkpaa
