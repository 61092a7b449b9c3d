/- The law's helper alive. -/
import Derived.Test.YtmfpgghpnkmkpaaDueI
namespace Go.Proofs.Ytmfpgghpnkmkpaa
open Go.RowKit Go.Tum
set_option maxRecDepth 100000
def al1 : QS := (setQ 2 (d0, 0) [98] 5).1
def al2 : QS := (setQ 2 al1 [97] 3).1
def al3 : QS := (setQ 2 al2 [99] 1).1
theorem al_1 : (setQ 2 (d0, 0) [98] 5).2 = 0 := by kernel_rfl
theorem al_2 : (setQ 2 al1 [97] 3).2 = 0 := by kernel_rfl
theorem al_3 : (setQ 2 al2 [99] 1).2 = 70 := by kernel_rfl
theorem al_n : al3.2 = 2 := by kernel_rfl
theorem al_next : nextQ al3 = (([97], 3), true) := by kernel_rfl
abbrev Ge (n : Nat) : Nat → Prop := fun g => n ≤ g
theorem set_G {w : World} {q : Nat} {lim : Int} {s : QS} {n0 : Nat} (h : QueueK w q lim s.1 s.2 (Ge n0)) (hn : n0 ≤ w.heap.size) (key : List UInt8) (t : Int) (h0 : 0 < lim) (h1 : lim ≤ 65536) (hl : key.length ≤ 281474976710656) :
    Calls Try.prog 9 #[(.pointer (some ⟨q, 0, none⟩)), ks key, .int .i64 t] w (Ret fun v w' => v = .int .i64 (setQ lim s key t).2 ∧ QueueK w' q lim (setQ lim s key t).1.1 (setQ lim s key t).1.2 (Ge n0) ∧ Mods (Ge n0) w w') :=
  ret_use (set_K w q lim s (Ge n0) key t h h0 h1 hl) fun v w' ⟨e1, e2, e3⟩ => ⟨e1, e2.more fun _ e => by rcases e with e | e; exact e; exact Nat.le_trans hn e, e3⟩
theorem no_ge {w a b : World} (h : Mods No w a) (k : Mods (Ge w.heap.size) a b) : Mods No w b := h.trans k fun _ hg e => absurd e (Nat.not_le_of_lt hg)
set_option maxHeartbeats 1600000 in
theorem alive_K (w : World) : Calls Try.prog 15 #[] w (Ret fun v w' => v = .bool true ∧ Mods No w w') := by
  have h0 := new_ok w 2 (by decide) (by decide)
  have Hh0 := Lib.hid h0
  clear h0
  go_enter Try.func15, Try.ntmps15
  go_wp2_with (first | (go_at_call 8; (refine ret_use (Hh0.out) ?_; rintro v w1 ⟨rfl, hq1, hm1⟩; have HQ1 := Lib.hid (hq1.more (G := Ge w.heap.size) fun g e => e.1); have HM1 := Lib.hid hm1; clear hq1 hm1)) | (go_at_call 9; (fail_if_success have := HQ2); (refine ret_use (set_G (s := (d0, 0)) HQ1.out HM1.out.size [98] 5 (by decide) (by decide) (by decide)) ?_; rintro v w2 ⟨rfl, hq2, hm2⟩; rw [al_1]; have HQ2 := Lib.hid hq2; have HM2 := Lib.hid (no_ge HM1.out hm2); clear hq2 hm2)) | (go_at_call 9; (fail_if_success have := HQ3); (refine ret_use (set_G (s := al1) HQ2.out HM2.out.size [97] 3 (by decide) (by decide) (by decide)) ?_; rintro v w3 ⟨rfl, hq3, hm3⟩; rw [al_2]; have HQ3 := Lib.hid hq3; have HM3 := Lib.hid (no_ge HM2.out hm3); clear hq3 hm3)) | (go_at_call 9; (refine ret_use (set_G (s := al2) HQ3.out HM3.out.size [99] 1 (by decide) (by decide) (by decide)) ?_; rintro v w4 ⟨rfl, hq4, hm4⟩; rw [al_3]; have HQ4 := Lib.hid hq4; have HM4 := Lib.hid (no_ge HM3.out hm4); clear hq4 hm4)) | (go_at_call 14; (refine ret_use (next_K _ _ 2 al3 _ HQ4.out (by decide)) ?_; rintro v w5 ⟨rfl, hm5⟩; rw [al_next]; (unfold ks); have HQ5 := Lib.hid (HQ4.out.no hm5); have HM5 := Lib.hid (HM4.out.trans hm5 fun _ _ e => e); clear hm5)) | (go_at_call 10; (refine ret_use (qlen_K _ _ 2 al3 _ (HQ5.out.no ((Mods.refl No _).alloc _)) (by decide)) ?_; rintro v w6 ⟨rfl, rfl⟩; rw [al_n])) | ((with_reducible refine wp_region_por ?_ ?_ ?_ ?_); kernel_rfl; kernel_rfl; (with_reducible repeat (first | exact calm_ret | refine calm_then ?_ | refine calm_in ?_ | refine calm_chk ?_ | refine calm_noGoto ?_))) | ((with_reducible refine chk_end ?_ ?_); kernel_rfl))
  go_ret
  exact ⟨rfl, HM5.out.alloc _⟩
theorem bytesLess_cb : ∀ a b : List UInt8, Op.bytesLess a b = decide (Lib.compareBytes a b < 0)
  | [], [] => by simp [Op.bytesLess, Lib.compareBytes]
  | [], _ :: _ => by simp [Op.bytesLess, Lib.compareBytes]
  | _ :: _, [] => by simp [Op.bytesLess, Lib.compareBytes]
  | a :: x, b :: y => by
    have h := bytesLess_cb x y
    simp only [Op.bytesLess, Lib.compareBytes, h]
    by_cases h1 : a < b
    · have h2 : ¬ b < a := fun h => absurd (UInt8.lt_trans h1 h) (UInt8.lt_irrefl _)
      simp [h1]
    · by_cases h2 : b < a
      · have h3 : a ≠ b := fun e => h1 (e ▸ h2)
        simp [h1, h2, h3]
      · have e : a = b := UInt8.le_antisymm (UInt8.not_lt.1 h2) (UInt8.not_lt.1 h1)
        subst e
        simp [h1]
theorem before_K (w : World) (a b : Ent) (r : Bool) (hr : before a b = r) : Calls Try.prog 12 #[.agg #[ks a.1, .int .i64 a.2], .agg #[ks b.1, .int .i64 b.2]] w (Ret fun v w' => v = .bool r ∧ Mods No w w') := by
  have hz : w.heap.size < w.heap.size + 1 := Nat.lt_succ_self _
  rcases Int.lt_trichotomy a.2 b.2 with h | h | h
  · have h1 : decide (a.2 < b.2) = true := decide_eq_true h
    have hr' : r = true := by rw [← hr]; unfold before; rw [decide_eq_true_eq]; exact .inl h
    clear hr
    subst hr'
    unfold ks
    go_enter Try.func12, Try.ntmps12
    go_wp2_with (first | ((with_reducible refine wp_region_por ?_ ?_ ?_ ?_); kernel_rfl; kernel_rfl; (with_reducible repeat (first | exact calm_ret | refine calm_then ?_ | refine calm_in ?_ | refine calm_chk ?_ | refine calm_noGoto ?_))) | ((with_reducible refine chk_end ?_ ?_); kernel_rfl))
    go_ret
    exact ⟨rfl, by repeat (first | exact Mods.refl _ _ | apply Mods.drew | apply Mods.alloc)⟩
  · have h1 : decide (a.2 < b.2) = false := decide_eq_false (by omega)
    have h2 : (a.2 == b.2) = true := by simp [h]
    have hr' : Op.bytesLess a.1 b.1 = r := by
      rw [← hr, bytesLess_cb]
      unfold before
      rw [decide_eq_decide]
      exact ⟨fun e => .inr ⟨h, e⟩, fun e => by rcases e with e | ⟨_, e⟩; omega; exact e⟩
    clear hr h
    have Hhr' := Lib.hid hr'
    clear hr'
    unfold ks
    go_enter Try.func12, Try.ntmps12
    go_wp2_with (first | ((with_reducible refine wp_region_por ?_ ?_ ?_ ?_); kernel_rfl; kernel_rfl; (with_reducible repeat (first | exact calm_ret | refine calm_then ?_ | refine calm_in ?_ | refine calm_chk ?_ | refine calm_noGoto ?_))) | ((with_reducible refine chk_end ?_ ?_); kernel_rfl))
    go_ret
    exact ⟨congrArg Value.bool Hhr'.out, by repeat (first | exact Mods.refl _ _ | apply Mods.drew | apply Mods.alloc)⟩
  · have h1 : decide (a.2 < b.2) = false := decide_eq_false (by omega)
    have h2 : (a.2 == b.2) = false := by simp; omega
    have hr' : r = false := by rw [← hr]; unfold before; rw [decide_eq_false_iff_not]; rintro (e | ⟨e, _⟩) <;> omega
    clear hr
    subst hr'
    unfold ks
    go_enter Try.func12, Try.ntmps12
    go_wp2_with (first | ((with_reducible refine wp_region_por ?_ ?_ ?_ ?_); kernel_rfl; kernel_rfl; (with_reducible repeat (first | exact calm_ret | refine calm_then ?_ | refine calm_in ?_ | refine calm_chk ?_ | refine calm_noGoto ?_))) | ((with_reducible refine chk_end ?_ ?_); kernel_rfl))
    go_ret
    exact ⟨rfl, by repeat (first | exact Mods.refl _ _ | apply Mods.drew | apply Mods.alloc)⟩
end Go.Proofs.Ytmfpgghpnkmkpaa
