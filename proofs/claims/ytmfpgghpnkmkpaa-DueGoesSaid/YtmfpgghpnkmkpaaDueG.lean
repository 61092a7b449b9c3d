/- container/heap: Fix, Push, Pop, Remove over the pile. -/
import Derived.Test.YtmfpgghpnkmkpaaDueF
namespace Go.Proofs.Ytmfpgghpnkmkpaa
open Go.RowKit Go.Tum
set_option maxRecDepth 100000
theorem QueueK.at_ {w : World} {q n : Nat} {lim : Int} {d : Nat → Ent} {F : Nat → Prop} (h : QueueK w q lim d n F) : F q := by obtain ⟨_, _, h⟩ := h; exact h.fq
set_option maxHeartbeats 1600000 in
theorem fix_K (w : World) (q : Nat) (lim : Int) (d : Nat → Ent) (n i : Nat) (F : Nat → Prop) (h : QueueK w q lim d n F) (hi : i < n) :
    Calls Try.prog 26 #[.iface 65 (.pointer (some ⟨q, 1, none⟩)), .int .i64 i] w (Ret fun _ w' => QueueK w' q lim (fixed before d n i) n F ∧ Mods F w w') := by
  have m1 := meth_len
  by_cases hb : i < (down before (n + 1) d n i).2
  · have e : fixed before d n i = (down before (n + 1) d n i).1 := if_pos hb
    rw [e]
    clear e
    have HD := Lib.hid (decide_eq_true hb)
    have Hh := Lib.hid h
    clear h
    have Hhb := Lib.hid hb
    clear hb
    go_enter Try.func26, Try.ntmps26
    go_wp2_with (first | (go_at_call 80; (refine ret_use (len_Q _ q lim d n F Hh.out) ?_; rintro v w2 ⟨rfl, rfl⟩)) | (go_at_call 39; (refine ret_use (down_K _ q lim d n n i F Hh.out (Nat.le_refl _) hi) ?_; rintro v w2 ⟨rfl, hq2, hm2⟩; rw [HD.out]; have HQ2 := Lib.hid hq2; have HM2 := Lib.hid hm2; clear hq2 hm2)) | ((with_reducible refine wp_region_por ?_ ?_ ?_ ?_); kernel_rfl; kernel_rfl; (with_reducible repeat (first | exact calm_ret | refine calm_then ?_ | refine calm_in ?_ | refine calm_chk ?_ | refine calm_noGoto ?_))) | ((with_reducible refine chk_end ?_ ?_); kernel_rfl))
    go_end0
    exact ⟨HQ2.out, HM2.out⟩
  · have e : fixed before d n i = up before (i + 1) (down before (n + 1) d n i).1 i := if_neg hb
    rw [e]
    clear e
    have HD := Lib.hid (decide_eq_false hb)
    have Hh := Lib.hid h
    clear h
    have Hhb := Lib.hid hb
    clear hb
    go_enter Try.func26, Try.ntmps26
    go_wp2_with (first | (go_at_call 80; (refine ret_use (len_Q _ q lim d n F Hh.out) ?_; rintro v w2 ⟨rfl, rfl⟩)) | (go_at_call 39; (refine ret_use (down_K _ q lim d n n i F Hh.out (Nat.le_refl _) hi) ?_; rintro v w2 ⟨rfl, hq2, hm2⟩; rw [HD.out]; have HQ2 := Lib.hid hq2; have HM2 := Lib.hid hm2; clear hq2 hm2)) | (go_at_call 40; (refine ret_use (up_K _ q lim _ n i F HQ2.out hi) ?_; rintro v w3 ⟨hq3, hm3⟩; have HQ3 := Lib.hid hq3; have HM3 := Lib.hid hm3; clear hq3 hm3)) | ((with_reducible refine wp_region_por ?_ ?_ ?_ ?_); kernel_rfl; kernel_rfl; (with_reducible repeat (first | exact calm_ret | refine calm_then ?_ | refine calm_in ?_ | refine calm_chk ?_ | refine calm_noGoto ?_))) | ((with_reducible refine chk_end ?_ ?_); kernel_rfl))
    go_end0
    exact ⟨HQ3.out, HM2.out.trans HM3.out fun _ _ e => e⟩
theorem up_Z {w : World} {q : Nat} {lim : Int} {d : Nat → Ent} {n : Nat} {F : Nat → Prop} (h : QueueK w q lim d n F) (j : Nat) (hj : j < n) {x : Int} (hx : x = j) :
    Calls Try.prog 40 #[.iface 65 (.pointer (some ⟨q, 1, none⟩)), .int .i64 x] w (Ret fun _ w' => QueueK w' q lim (up before (j + 1) d j) n F ∧ Mods F w w') := by
  subst hx
  exact up_K w q lim d n j F h hj
theorem down_Z {w : World} {q : Nat} {lim : Int} {d : Nat → Ent} {N : Nat} {F : Nat → Prop} (h : QueueK w q lim d N F) (n i0 : Nat) (hn : n ≤ N) (hi : i0 < N) {x y : Int} (hx : x = i0) (hy : y = n) :
    Calls Try.prog 39 #[.iface 65 (.pointer (some ⟨q, 1, none⟩)), .int .i64 x, .int .i64 y] w (Ret fun v w' => v = .bool (decide (i0 < (down before (n + 1) d n i0).2)) ∧ QueueK w' q lim (down before (n + 1) d n i0).1 N F ∧ Mods F w w') := by
  subst hx hy
  exact down_K w q lim d N n i0 F h hn hi
set_option maxHeartbeats 1600000 in
theorem push_K (w : World) (q : Nat) (lim : Int) (d : Nat → Ent) (n : Nat) (F : Nat → Prop) (key : List UInt8) (t : Int) (h : QueueK w q lim d n F) (hn : n < 65536) (hkey : ∀ i, i < n → (d i).1 ≠ key) (hl : key.length ≤ maxLen) :
    Calls Try.prog 27 #[.iface 65 (.pointer (some ⟨q, 1, none⟩)), .iface 29 (.agg #[ks key, .int .i64 t])] w (Ret fun _ w' => QueueK w' q lim (pushed before d n (key, t)) (n + 1) (Ext F w.heap.size) ∧ Mods F w w') := by
  have m1 := meth_len
  have m2 := meth_push
  have Hh := Lib.hid h
  clear h
  have Hhkey := Lib.hid hkey
  clear hkey
  have Hhl := Lib.hid hl
  clear hl
  go_enter Try.func27, Try.ntmps27
  go_wp2_with (first | (go_at_call 83; (refine ret_use (pilePush_K _ q lim d n F key t Hh.out hn Hhkey.out Hhl.out) ?_; rintro v w2 ⟨hq2, hm2⟩; have HQ2 := Lib.hid hq2; have HM2 := Lib.hid hm2; clear hq2 hm2)) | (go_at_call 80; (refine ret_use (len_Q _ q lim _ (n + 1) _ HQ2.out) ?_; rintro v w3 ⟨rfl, rfl⟩)) | (go_at_call 40; (refine ret_use (up_Z HQ2.out n (Nat.lt_succ_self n) (by omega)) ?_; rintro v w3 ⟨hq3, hm3⟩; have HQ3 := Lib.hid hq3; have HM3 := Lib.hid hm3; clear hq3 hm3)) | ((with_reducible refine wp_region_por ?_ ?_ ?_ ?_); kernel_rfl; kernel_rfl; (with_reducible repeat (first | exact calm_ret | refine calm_then ?_ | refine calm_in ?_ | refine calm_chk ?_ | refine calm_noGoto ?_))) | ((with_reducible refine chk_end ?_ ?_); kernel_rfl))
  go_end0
  exact ⟨HQ3.out, HM2.out.then_ HM3.out⟩
set_option maxHeartbeats 1600000 in
theorem pop_K (w : World) (q : Nat) (lim : Int) (d : Nat → Ent) (n : Nat) (F : Nat → Prop) (h : QueueK w q lim d (n + 1) F) :
    Calls Try.prog 29 #[.iface 65 (.pointer (some ⟨q, 1, none⟩))] w (Ret fun v w' => v = .iface 29 (.agg #[ks (popped before d n n).1, .int .i64 (popped before d n n).2]) ∧ QueueK w' q lim (popped before d n) n F ∧ Mods F w w') := by
  have m1 := meth_len
  have m2 := meth_swap
  have m3 := meth_pop
  have hs := h.small
  have Hh := Lib.hid h
  clear h
  go_enter Try.func29, Try.ntmps29
  go_wp2_with (first | (go_at_call 80; (refine ret_use (len_Q _ q lim _ (n + 1) _ Hh.out) ?_; rintro v w3 ⟨rfl, rfl⟩)) | (go_at_call 84; (refine ret_use (swap_Z Hh.out 0 n (by omega) (by omega) rfl (by omega)) ?_; rintro v w2 ⟨hq2, hm2⟩; have HQ2 := Lib.hid hq2; have HM2 := Lib.hid hm2; clear hq2 hm2)) | (go_at_call 39; (refine ret_use (down_Z HQ2.out n 0 (by omega) (by omega) rfl (by omega)) ?_; rintro v w3 ⟨rfl, hq3, hm3⟩; have HQ3 := Lib.hid hq3; have HM3 := Lib.hid hm3; clear hq3 hm3)) | (go_at_call 82; (refine ret_use (pilePop_K _ q lim _ n F HQ3.out) ?_; rintro v w4 ⟨rfl, hq4, hm4⟩; have HQ4 := Lib.hid hq4; have HM4 := Lib.hid hm4; clear hq4 hm4)) | ((with_reducible refine wp_region_por ?_ ?_ ?_ ?_); kernel_rfl; kernel_rfl; (with_reducible repeat (first | exact calm_ret | refine calm_then ?_ | refine calm_in ?_ | refine calm_chk ?_ | refine calm_noGoto ?_))) | ((with_reducible refine chk_end ?_ ?_); kernel_rfl))
  go_ret
  exact ⟨rfl, HQ4.out, (HM2.out.trans HM3.out fun _ _ e => e).trans HM4.out fun _ _ e => e⟩
set_option maxHeartbeats 1600000 in
theorem remove_K (w : World) (q : Nat) (lim : Int) (d : Nat → Ent) (n i : Nat) (F : Nat → Prop) (h : QueueK w q lim d (n + 1) F) (hi : i ≤ n) :
    Calls Try.prog 36 #[.iface 65 (.pointer (some ⟨q, 1, none⟩)), .int .i64 i] w (Ret fun _ w' => QueueK w' q lim (removed before d n i) n F ∧ Mods F w w') := by
  have m1 := meth_len
  have m2 := meth_swap
  have m3 := meth_pop
  have hs := h.small
  by_cases hn : n = i
  · have e : removed before d n i = d := if_pos hn
    rw [e]
    clear e
    subst hn
    have Hh := Lib.hid h
    clear h
    go_enter Try.func36, Try.ntmps36
    go_wp2_with (first | (go_at_call 80; (refine ret_use (len_Q _ q lim _ (n + 1) _ Hh.out) ?_; rintro v w3 ⟨rfl, rfl⟩)) | (go_at_call 82; (refine ret_use (pilePop_K _ q lim _ n F Hh.out) ?_; rintro v w4 ⟨rfl, hq4, hm4⟩; have HQ4 := Lib.hid hq4; have HM4 := Lib.hid hm4; clear hq4 hm4)) | ((with_reducible refine wp_region_por ?_ ?_ ?_ ?_); kernel_rfl; kernel_rfl; (with_reducible repeat (first | exact calm_ret | refine calm_then ?_ | refine calm_in ?_ | refine calm_chk ?_ | refine calm_noGoto ?_))) | ((with_reducible refine chk_end ?_ ?_); kernel_rfl))
    go_ret
    exact ⟨HQ4.out, HM4.out⟩
  · have e : removed before d n i = fixed before (sw d i n) n i := if_neg hn
    rw [e]
    clear e
    have hni : ((n : Int) == (i : Int)) = false := by simp; omega
    have hni2 : ((n : Int) != (i : Int)) = true := by simp; omega
    by_cases hb : i < (down before (n + 1) (sw d i n) n i).2
    · have e : fixed before (sw d i n) n i = (down before (n + 1) (sw d i n) n i).1 := if_pos hb
      rw [e]
      clear e
      have HD := Lib.hid (decide_eq_true hb)
      have Hh := Lib.hid h
      clear h
      have Hhb := Lib.hid hb
      clear hb
      go_enter Try.func36, Try.ntmps36
      go_wp2_with (first | (go_at_call 80; (refine ret_use (len_Q _ q lim _ (n + 1) _ Hh.out) ?_; rintro v w3 ⟨rfl, rfl⟩)) | (go_at_call 84; (refine ret_use (swap_Z Hh.out i n (by omega) (by omega) rfl (by omega)) ?_; rintro v w2 ⟨hq2, hm2⟩; have HQ2 := Lib.hid hq2; have HM2 := Lib.hid hm2; clear hq2 hm2)) | (go_at_call 39; (refine ret_use (down_Z HQ2.out n i (by omega) (by omega) rfl (by omega)) ?_; rintro v w3 ⟨rfl, hq3, hm3⟩; rw [HD.out]; have HQ3 := Lib.hid hq3; have HM3 := Lib.hid hm3; clear hq3 hm3)) | (go_at_call 82; (refine ret_use (pilePop_K _ q lim _ n F HQ3.out) ?_; rintro v w4 ⟨rfl, hq4, hm4⟩; have HQ4 := Lib.hid hq4; have HM4 := Lib.hid hm4; clear hq4 hm4)) | ((with_reducible refine wp_region_por ?_ ?_ ?_ ?_); kernel_rfl; kernel_rfl; (with_reducible repeat (first | exact calm_ret | refine calm_then ?_ | refine calm_in ?_ | refine calm_chk ?_ | refine calm_noGoto ?_))) | ((with_reducible refine chk_end ?_ ?_); kernel_rfl))
      go_ret
      exact ⟨HQ4.out, (HM2.out.trans HM3.out fun _ _ e => e).trans HM4.out fun _ _ e => e⟩
    · have e : fixed before (sw d i n) n i = up before (i + 1) (down before (n + 1) (sw d i n) n i).1 i := if_neg hb
      rw [e]
      clear e
      have HD := Lib.hid (decide_eq_false hb)
      have Hh := Lib.hid h
      clear h
      have Hhb := Lib.hid hb
      clear hb
      go_enter Try.func36, Try.ntmps36
      go_wp2_with (first | (go_at_call 80; (refine ret_use (len_Q _ q lim _ (n + 1) _ Hh.out) ?_; rintro v w3 ⟨rfl, rfl⟩)) | (go_at_call 84; (refine ret_use (swap_Z Hh.out i n (by omega) (by omega) rfl (by omega)) ?_; rintro v w2 ⟨hq2, hm2⟩; have HQ2 := Lib.hid hq2; have HM2 := Lib.hid hm2; clear hq2 hm2)) | (go_at_call 39; (refine ret_use (down_Z HQ2.out n i (by omega) (by omega) rfl (by omega)) ?_; rintro v w3 ⟨rfl, hq3, hm3⟩; rw [HD.out]; have HQ3 := Lib.hid hq3; have HM3 := Lib.hid hm3; clear hq3 hm3)) | (go_at_call 40; (refine ret_use (up_K _ q lim _ (n + 1) i F HQ3.out (by omega)) ?_; rintro v w5 ⟨hq5, hm5⟩; have HQ5 := Lib.hid hq5; have HM5 := Lib.hid hm5; clear hq5 hm5)) | (go_at_call 82; (refine ret_use (pilePop_K _ q lim _ n F HQ5.out) ?_; rintro v w4 ⟨rfl, hq4, hm4⟩; have HQ4 := Lib.hid hq4; have HM4 := Lib.hid hm4; clear hq4 hm4)) | ((with_reducible refine wp_region_por ?_ ?_ ?_ ?_); kernel_rfl; kernel_rfl; (with_reducible repeat (first | exact calm_ret | refine calm_then ?_ | refine calm_in ?_ | refine calm_chk ?_ | refine calm_noGoto ?_))) | ((with_reducible refine chk_end ?_ ?_); kernel_rfl))
      go_ret
      exact ⟨HQ4.out, ((HM2.out.trans HM3.out fun _ _ e => e).trans HM5.out fun _ _ e => e).trans HM4.out fun _ _ e => e⟩
end Go.Proofs.Ytmfpgghpnkmkpaa
