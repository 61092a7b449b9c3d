/- The law DueKeeps, walked. -/
import Derived.Test.YtmfpgghpnkmkpaaDueOw
import Derived.Test.YtmfpgghpnkmkpaaLaw3
namespace Go.Proofs.Ytmfpgghpnkmkpaa
open Go.RowKit Go.Tum Go.Shelf
set_option maxRecDepth 100000
abbrev Opr := Int × List UInt8 × Int
def row3 (o : Opr) : List Value := [.int .i64 o.1, ks o.2.1, .int .i64 o.2.2]
theorem _root_.Go.Tum.Rd.triple {w : World} {F : Nat → Prop} {A : Option Addr} {c : Nat} {l : List Opr} (h : Rd w F 3 (.slice A l.length c) l.length (l.flatMap row3)) {i : Nat} {x : Opr} (hx : l[i]? = some x) :
    ∃ b off, A = some ⟨b, off, none⟩ ∧ F b ∧ w.cell? ⟨b, off + i * 3, none⟩ = some (.int .i64 x.1) ∧ w.cell? ⟨b, off + i * 3 + 1, none⟩ = some (ks x.2.1) ∧ w.cell? ⟨b, off + i * 3 + 2, none⟩ = some (.int .i64 x.2.2) := by
  obtain ⟨hi, _⟩ := List.getElem?_eq_some_iff.1 hx
  obtain ⟨b, off, c', e, hF, hc⟩ := h.cells (by omega)
  injection e with e
  have h2 := fun r hr => flatMap_get (enc := row3) (k := 3) (fun _ => rfl) l i r hr
  rw [hx] at h2
  refine ⟨b, off, e, hF, ?_, ?_, ?_⟩
  · rw [hc _ (by omega)]
    exact h2 0 (by decide)
  · rw [Nat.add_assoc, hc _ (by omega)]
    exact h2 1 (by decide)
  · rw [Nat.add_assoc, hc _ (by omega)]
    exact h2 2 (by decide)
/-- Two new queues. -/
theorem Two.start {w w' : World} {q r n0 : Nat} {lim : Int} {F : Nat → Prop} (hq : QueueK w q lim d0 0 F) (hF : ∀ g, F g → n0 ≤ g ∧ g < w.heap.size) (hn : n0 ≤ r) (hr : Cells w' r 40 #[.int .i64 lim, .slice none 0 0]) (hm : Mods No w w') (hlt : w.heap.size ≤ r) :
    Two w' q r lim (d0, 0) (srt (d0, 0)) n0 := by
  rw [srt_zero]
  refine ⟨_, F, fun _ => False, hq.no hm, ⟨hr, Rd.nil _ _ _, fun e => e, fun _ e => e.elim, by decide⟩, fun g hg => ?_, hn⟩
  have := hF g hg
  exact ⟨this.1, Nat.lt_of_lt_of_le this.2 hm.size, by omega, fun e => e⟩
set_option maxHeartbeats 6400000 in
theorem dueKeeps_K (W : World) (lim : Int) (v : Value) (l : List Opr) (hr : Rd W (fun g => g < W.heap.size) 3 v l.length (l.flatMap row3)) (hk : ∀ x ∈ l, x.2.1.length ≤ 281474976710656) :
    Calls Try.prog 6 #[.int .i64 lim, v] W (Ret fun r w' => r = .bool true ∧ Mods No W w') := by
  obtain ⟨A, c, rfl, hlc, hc2⟩ := hr.form
  have hrd := fun w' (hm : Mods No W w') => hr.same (hm.same fun k hk => ⟨hk, fun e => e⟩)
  have hln : l.length ≤ 9223372036854775807 := by unfold maxLen at hc2; omega
  have Hhr := Lib.hid hr
  clear hr
  have Hhk := Lib.hid hk
  clear hk
  have Hhrd := Lib.hid hrd
  clear hrd
  go_enter Try.func6, Try.ntmps6
  by_cases hlim : lim < 1 ∨ 65536 < lim
  · have h1 := new_bad W lim hlim
    have h2 := fun w => rnew_bad w lim hlim
    have Hh1 := Lib.hid h1
    clear h1
    have Hh2 := Lib.hid h2
    clear h2
    clear hlim
    go_wp2_with (first | (go_at_call 8; go_loud (refine ret_use (Hh1.out) ?_; rintro v w1 ⟨rfl, hm1⟩; have HM1 := Lib.hid hm1; clear hm1)) | (go_at_call 16; go_loud (refine ret_use (Hh2.out _) ?_; rintro v w2 ⟨rfl, hm2⟩; have HM2 := Lib.hid (HM1.out.trans hm2 fun _ _ e => e); clear hm2)) | (go_at_call 15; go_loud (refine ret_use (alive_K _) ?_; rintro v w9 ⟨rfl, hm9⟩; have HM9 := Lib.hid ((HM2.out.alloc _).trans hm9 fun _ _ e => e); clear hm9)) | ((with_reducible refine wp_region_por ?_ ?_ ?_ ?_); kernel_rfl; kernel_rfl; (with_reducible repeat (first | exact calm_ret | refine calm_then ?_ | refine calm_in ?_ | refine calm_chk ?_ | refine calm_noGoto ?_))) | ((with_reducible refine chk_end ?_ ?_); kernel_rfl))
    go_ret
    exact ⟨rfl, HM9.out⟩
  · have h1 : 1 ≤ lim := by omega
    have h2 : lim ≤ 65536 := by omega
    have hn1 := new_ok W lim h1 h2
    have hn2 := fun w => rnew_ok w lim h1 h2
    have Hhn1 := Lib.hid hn1
    clear hn1
    have Hhn2 := Lib.hid hn2
    clear hn2
    clear hlim
    go_wp2_with (first | (go_at_call 8; go_loud (refine ret_use (Hhn1.out) ?_; rintro v w1 ⟨rfl, hq1, hm1⟩; have HQ1 := Lib.hid hq1; have HM1 := Lib.hid hm1; clear hq1 hm1)) | (go_at_call 16; go_loud (refine ret_use (Hhn2.out _) ?_; rintro v w2 ⟨rfl, hm2⟩; have HM2 := Lib.hid hm2; clear hm2)) | (go_at_call 15; go_loud (refine ret_use (alive_K _) ?_; rintro v w9 ⟨rfl, hm9⟩; have HM9 := Lib.hid (((Mods.refl No w2).alloc _).trans hm9 fun _ _ e => e); have HC9 := Lib.hid ((Cells.new w2 _ _).mods hm9 fun e => e); clear hm9)) | ((with_reducible refine wp_region_por ?_ ?_ ?_ ?_); kernel_rfl; kernel_rfl; (with_reducible repeat (first | exact calm_ret | refine calm_then ?_ | refine calm_in ?_ | refine calm_chk ?_ | refine calm_noGoto ?_))) | ((with_reducible refine chk_end ?_ ?_); kernel_rfl))
    have hTs : Two w9 (W.heap.size + 1) w2.heap.size lim (d0, 0) (srt (d0, 0)) W.heap.size := Two.start (HQ1.out) (fun g hg => hg) (Nat.le_trans HM1.out.size HM2.out.size) HC9.out (HM2.out.trans HM9.out fun _ _ e => e) HM2.out.size
    have HT := Lib.hid hTs
    have HM := Lib.hid ((HM1.out.trans HM2.out fun _ _ e => e).trans HM9.out fun _ _ e => e)
    clear hTs
    obtain ⟨r, hrr⟩ : ∃ r, r = w2.heap.size := ⟨_, rfl⟩
    rw [← hrr] at HT ⊢
    clear hrr
    go_loopg [9] l.length (fun k v9 wr => ∃ (i : Nat) (s : QS), v9 = .int .i64 i ∧ i ≤ l.length ∧ k + i = l.length ∧ QI s.1 s.2 ∧ Two wr (W.heap.size + 1) r lim s (srt s) W.heap.size ∧ Mods No W wr)
    case atStart => exact ⟨0, (d0, 0), rfl, Nat.zero_le _, rfl, qi_zero _, HT.out, HM.out⟩
    case round =>
      obtain ⟨i, s, rfl, hi, hki, hqi, hT, hM⟩ := hrel
      have Hki := Lib.hid hki
      have HI := Lib.hid hqi
      have HTI := Lib.hid hT
      have HMI := Lib.hid hM
      clear hki hqi hT hM
      rcases Nat.lt_or_ge i l.length with hil | hil
      · obtain ⟨x, hx⟩ := lt_get hil
        obtain ⟨b, off, rfl, hb, x0, x1, x2⟩ := (Hhrd.out _ HMI.out).triple hx
        have Hx := Lib.hid hx
        clear hx
        unfold ks at x1
        go_wp2_with (first | (go_at_call 24; go_loud (refine ret_use (step_K _ _ _ _ _ s x.1 x.2.1 x.2.2 HTI.out HI.out (by omega) h2 (Hhk.out _ (List.mem_of_getElem? Hx.out))) ?_; rintro v w5 ⟨rfl, hm5, s', hi5, ht5⟩; have HM5 := Lib.hid hm5; have HI5 := Lib.hid hi5; have HT5 := Lib.hid ht5; clear hm5 hi5 ht5)) | ((with_reducible refine wp_region_por ?_ ?_ ?_ ?_); kernel_rfl; kernel_rfl; (with_reducible repeat (first | exact calm_ret | refine calm_then ?_ | refine calm_in ?_ | refine calm_chk ?_ | refine calm_noGoto ?_))) | ((with_reducible refine chk_end ?_ ?_); kernel_rfl))
        go_roundg (gk - 1)
        case rel => have h5 := Hki.out; exact ⟨i + 1, s', by go_num, hil, by omega, HI5.out, HT5.out, HMI.out.trans HM5.out fun k hk e => absurd e (Nat.not_le_of_lt hk)⟩
        case measure => have := Hki.out; omega
      · obtain rfl : i = l.length := by omega
        obtain ⟨v, Fd, Fr, hT⟩ := HTI.out
        obtain ⟨B, e, rfl⟩ := hT.form
        have c1 := hT.cells.at_ 1 rfl
        have hL := srt_len s
        have hs := hT.hr.small
        have HH := Lib.hid hT
        have hLe : ((s.2 : Int) == ((srt s).length : Int)) = true := by rw [hL]; simp
        clear hT
        have HhL := Lib.hid hL
        clear hL
        go_wp2_with (first | ((with_reducible refine wp_region_two 12 (fun g => g = r) [3, 14] 1 12 ?_ ?_ ?_ ?_ ?_); kernel_rfl; kernel_rfl; kernel_rfl; (with_reducible repeat (first | exact calm_ret | refine calm_then ?_ | refine calm_in ?_ | refine calm_chk ?_ | refine calm_noGoto ?_)); simp only [List.drop_succ_cons, List.drop_zero, List.take_succ_cons, List.take_zero]) | (with_reducible refine segEnd ?_) | (refine And.intro (Keep.one HM6.out HH.out.cells.drew (fun e => e)) ?_) | (refine And.intro (Keep.one HM7.out HH6.out.cells (fun e => e)) ?_) | ((with_reducible refine chkM_end (fun g => g = r) ?_ [.pointer (some ⟨r, 1, none⟩), .pointer (some ⟨r, 1, none⟩)] ?_ ?_ ?_); kernel_rfl; kernel_rfl; (intro v hv x hx; simp only [List.mem_cons, List.not_mem_nil, or_false] at hv; rcases hv with rfl | rfl <;> (injection hx with hx; injection hx with hx; subst hx; simp))) | (go_at_call 10; go_loud (refine ret_use (qlen_K _ _ lim s Fd (HH.out.no ((Mods.refl No _).drew)).hq (by omega)) ?_; rintro u w6 ⟨rfl, hw6⟩; have HM6 := Lib.hid (show Mods No wr.drew w6 by rw [hw6]; exact Mods.refl _ _); have HH6 := Lib.hid (HH.out.no ((((Mods.refl No wr).drew).trans HM6.out fun _ _ e => e))); have c2 := HH6.out.cells.at_ 1 rfl; clear hw6)) | (go_at_call 20; go_loud (refine ret_use (HH6.out.all (by omega) _ (by have := HhL.out; omega)) ?_; rintro u w7 ⟨ho7, hm7⟩; have HO7 := Lib.hid ho7; have HM7 := Lib.hid hm7; have HH7 := Lib.hid (HH6.out.no hm7); have c3 := HH7.out.cells.at_ 1 rfl; clear ho7 hm7)) | (go_at_call 19; go_loud (refine ret_use (same_K _ (fun g => g < w7.heap.size) Fr _ _ _ _ (Rd.of_own HO7.out.1 fun g hg => HO7.out.lt g hg) HH7.out.hr.rd (fun _ e => e) HH7.out.hr.lt) ?_; rintro u w8 ⟨rfl, hm8⟩; have HM8 := Lib.hid hm8; clear hm8)) | ((with_reducible refine wp_region_por ?_ ?_ ?_ ?_); kernel_rfl; kernel_rfl; (with_reducible repeat (first | exact calm_ret | refine calm_then ?_ | refine calm_in ?_ | refine calm_chk ?_ | refine calm_noGoto ?_))) | ((with_reducible refine chk_end ?_ ?_); kernel_rfl))
        go_ret
        exact ⟨by simp, ((HMI.out.drew.trans HM6.out fun _ _ e => e).trans HM7.out fun _ _ e => e).trans HM8.out fun _ _ e => e⟩
end Go.Proofs.Ytmfpgghpnkmkpaa
