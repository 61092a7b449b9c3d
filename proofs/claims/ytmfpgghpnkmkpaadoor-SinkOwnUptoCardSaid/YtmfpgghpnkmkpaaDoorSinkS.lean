/- The law SinkOrders, walked. -/
import Derived.Test.YtmfpgghpnkmkpaaDoorSinkP
import Derived.Test.YtmfpgghpnkmkpaaDoorLaw2
namespace Go.Proofs.YtmfpgghpnkmkpaaDoor
open Go.RowKit Go.Tum
abbrev _root_.Go.Tum.OldOf (w : World) : Nat → Prop := fun g => g < w.heap.size
theorem _root_.Go.Tum.Rd.old {w w' : World} {size n : Nat} {v : Value} {xs : List Value} (h : Rd w (OldOf w) size v n xs) (hm : Mods No w w') : Rd w' (OldOf w) size v n xs := h.same (hm.same fun _ hg => ⟨hg, fun e => e⟩)
/-- A new box of four cells, written cell by cell. -/
theorem box_set4 (w : World) (T : TypeId) (z0 z1 z2 z3 a b c d : Value) :
    Mods No w (((((w.alloc (.cells #[z0, z1, z2, z3] T)).setCell ⟨w.heap.size, 0, none⟩ a).setCell ⟨w.heap.size, 1, none⟩ b).setCell ⟨w.heap.size, 2, none⟩ c).setCell ⟨w.heap.size, 3, none⟩ d) ∧
    Cells (((((w.alloc (.cells #[z0, z1, z2, z3] T)).setCell ⟨w.heap.size, 0, none⟩ a).setCell ⟨w.heap.size, 1, none⟩ b).setCell ⟨w.heap.size, 2, none⟩ c).setCell ⟨w.heap.size, 3, none⟩ d) w.heap.size T #[a, b, c, d] :=
  ⟨((Mods.refl No w).alloc _).trans (mods_set4 _ _ _ _ _ _) fun g hg e => by omega, (Cells.new w T #[z0, z1, z2, z3]).set4 a b c d⟩
theorem frame_ok {plan : Plan} {s : SinkS} {id : Int} {b : List UInt8} (h : ¬(s.any = true ∧ id ≤ s.last)) : (frame plan s id b).2 = 0 ∧ (frame plan s id b).1.any = true ∧ (frame plan s id b).1.last = id := by
  have hs : ∀ s0, (send plan s0 b).1.any = s0.any ∧ (send plan s0 b).1.last = s0.last := fun s0 => by unfold send; split <;> exact ⟨rfl, rfl⟩
  have h1 := hs { s with any := true, last := id }
  unfold frame
  rw [if_neg h]
  dsimp only
  split
  · exact ⟨rfl, h1.1, h1.2⟩
  · exact ⟨rfl, h1.1, h1.2⟩
theorem frame_no {plan : Plan} {s : SinkS} {id : Int} {b : List UInt8} (h : s.any = true ∧ id ≤ s.last) : frame plan s id b = (s, 180) := by
  unfold frame
  rw [if_pos h]
set_option maxHeartbeats 3200000 in
set_option maxRecDepth 100000 in
theorem sinkOrders_K (w : World) (ea : Addr) (hg : w.cell? ⟨0, 0, none⟩ = some (.iface 94 (.pointer (some ea)))) (pv v1 v2 : Value) (plan : Plan) (i1 i2 : Int) (b1 b2 : List UInt8)
    (hp : Rd w (OldOf w) 2 pv plan.length (planCells plan)) (h1 : Rd w (OldOf w) 1 v1 b1.length (vbs b1)) (h2 : Rd w (OldOf w) 1 v2 b2.length (vbs b2)) (np : plan.length ≤ 1048576) (n1 : b1.length ≤ 1048576) (n2 : b2.length ≤ 1048576) :
    Calls Tryd.prog 8 #[pv, .agg #[.int .i64 i1, v1], .agg #[.int .i64 i2, v2]] w (Ret fun v w' => v = .bool true ∧ Mods No w w') := by
  have lg := World.block_lt_of_cell? w _ hg
  have hgk : ∀ W, Mods No w W → W.cell? ⟨0, 0, none⟩ = some (.iface 94 (.pointer (some ea))) := fun W hm => (World.cell?_of_block (a := ⟨0, 0, none⟩) (hm.block _ lg fun e => e)).trans hg
  have haw := fun W hm => awake_K W ea (hgk W hm)
  obtain ⟨Ap, cp, rfl, _, _⟩ := hp.form
  obtain ⟨A1, c1, rfl, _, _⟩ := h1.form
  obtain ⟨A2, c2, rfl, _, _⟩ := h2.form
  have d1 := Mods.alloc (Mods.refl No w) (.cells #[.int .i64 i1, .slice A1 b1.length c1] 32)
  have k1 := Cells.new w 32 #[.int .i64 i1, .slice A1 b1.length c1]
  have z1 : (w.alloc (.cells #[.int .i64 i1, .slice A1 b1.length c1] 32)).heap.size = w.heap.size + 1 := by simp
  generalize hW1 : w.alloc (.cells #[.int .i64 i1, .slice A1 b1.length c1] 32) = W1 at d1 k1 z1
  have d2 := d1.alloc (.cells #[.int .i64 i2, .slice A2 b2.length c2] 32)
  have k2 := Cells.new W1 32 #[.int .i64 i2, .slice A2 b2.length c2]
  have k3 := k1.alloc (.cells #[.int .i64 i2, .slice A2 b2.length c2] 32)
  have z2 : (W1.alloc (.cells #[.int .i64 i2, .slice A2 b2.length c2] 32)).heap.size = w.heap.size + 2 := by simp [z1]
  rw [z1] at k2
  generalize hW2 : W1.alloc (.cells #[.int .i64 i2, .slice A2 b2.length c2] 32) = W2 at d2 k2 k3 z2
  obtain ⟨f1, f2, f3⟩ := frame_ok (plan := plan) (s := s0) (id := i1) (b := b1) (by simp [s0])
  have hb1 := frame_bnd (plan := plan) (bnd_s0 0) i1 b1
  generalize hs1 : (frame plan s0 i1 b1).1 = s1 at f2 f3 hb1
  have hs1' : frame plan s0 i1 b1 = (s1, 0) := Prod.ext hs1 f1
  have n1' : b1.length ≤ 2000000 := by omega
  have n2' : b2.length ≤ 2000000 := by omega
  have np' : plan.length ≤ 1000000000 := by omega
  have hN : 0 + b1.length + 1 ≤ 100000000 := by omega
  obtain ⟨m1, m2, m3⟩ : s1.conns.length ≤ 1000000000 ∧ s1.whole.length ≤ 1000000000 ∧ s1.lost.length ≤ 1000000000 := ⟨by have := hb1.conns; omega, by have := hb1.whole; omega, by have := hb1.lost; omega⟩
  have Hhgk := Lib.hid hgk
  clear hgk
  have Hhg := Lib.hid hg
  clear hg
  have Hhaw := Lib.hid haw
  clear haw
  have Hhp := Lib.hid hp
  clear hp
  have Hh1 := Lib.hid h1
  clear h1
  have Hh2 := Lib.hid h2
  clear h2
  have Hd1 := Lib.hid d1
  clear d1
  have Hk1 := Lib.hid k1
  clear k1
  have Hd2 := Lib.hid d2
  clear d2
  have Hk2 := Lib.hid k2
  clear k2
  have Hk3 := Lib.hid k3
  clear k3
  have HhW1 := Lib.hid hW1
  clear hW1
  have HhW2 := Lib.hid hW2
  clear hW2
  have Hhb1 := Lib.hid hb1
  clear hb1
  have Hf1 := Lib.hid f1
  clear f1
  have Hf2 := Lib.hid f2
  clear f2
  have Hf3 := Lib.hid f3
  clear f3
  have Hhs1 := Lib.hid hs1
  clear hs1
  have Hhs1' := Lib.hid hs1'
  clear hs1'
  have Hz1 := Lib.hid z1
  clear z1
  have Hz2 := Lib.hid z2
  clear z2
  have Hnp' := Lib.hid np'
  clear np'
  have Hn1' := Lib.hid n1'
  clear n1'
  have Hn2' := Lib.hid n2'
  clear n2'
  have HhN := Lib.hid hN
  clear hN
  have Hm1 := Lib.hid m1
  clear m1
  have Hm2 := Lib.hid m2
  clear m2
  have Hm3 := Lib.hid m3
  clear m3
  clear np n1 n2
  go_enter Tryd.func8, Tryd.ntmps8
  go_wp2_with (first | ((with_reducible refine wp_region_por ?_ ?_ ?_ ?_); kernel_rfl; kernel_rfl; (with_reducible repeat (first | exact calm_ret | refine calm_then ?_ | refine calm_in ?_ | refine calm_chk ?_ | refine calm_noGoto ?_))) | ((with_reducible refine chk_end ?_ ?_); kernel_rfl))
  rw [HhW1.out, HhW2.out]
  have Hk2' := Hk2.out
  have Hk3' := Hk3.out
  clear Hk2 Hk3
  generalize hB2 : w.heap.size + 1 = B2 at Hk2' ⊢
  generalize hB1 : w.heap.size = B1 at Hk3' ⊢
  have Hk2 := Lib.hid Hk2'
  have Hk3 := Lib.hid Hk3'
  clear Hk2' Hk3'
  have HhB2 := Lib.hid hB2
  clear hB2
  have HhB1 := Lib.hid hB1
  clear hB1
  by_cases hlt : i1 < i2
  · have hlt' : decide (i1 < i2) = true := decide_eq_true hlt
    obtain ⟨e1, _⟩ := frame_ok (plan := plan) (s := s1) (id := i2) (b := b2) (by rw [Hf3.out]; omega)
    have Hfr2 := Lib.hid (show frame plan s1 i2 b2 = ((frame plan s1 i2 b2).1, 0) from Prod.ext rfl e1)
    clear e1
    go_wp2_with (first | ((with_reducible refine wp_region_one 8 (fun g => g = w4.heap.size) [5] 4 ?_ ?_ ?_ ?_ ?_); kernel_rfl; kernel_rfl; kernel_rfl; (with_reducible repeat (first | exact calm_ret | refine calm_then ?_ | refine calm_in ?_ | refine calm_chk ?_ | refine calm_noGoto ?_)); simp only [List.drop_succ_cons, List.drop_zero, List.take_succ_cons, List.take_zero]) | (with_reducible refine segEnd ?_) | (refine And.intro (Keep.one HMk.out Hkd.out.drew (fun e => e)) ?_) | ((with_reducible refine chkM_end (fun g => g = w4.heap.size) ?_ [.pointer (some ⟨w4.heap.size, 0, none⟩)] ?_ ?_ ?_); kernel_rfl; kernel_rfl; (intro v hv x hx; simp only [List.mem_cons, List.not_mem_nil, or_false] at hv; subst hv; (injection hx with hx; injection hx with hx; subst hx; simp))) | (go_at_call 14; (refine ret_use (same_eq _ (fun g ↦ w5.heap.size ≤ g ∧ g < w6.heap.size) (fun g ↦ w3.heap.size ≤ g ∧ g < w4.heap.size) cv6 wv6 lv6 (.slice Ac s1.conns.length cc) (.slice Aw s1.whole.length cw) (.slice Al s1.lost.length cl) bvs6 bvs s1 s1 (Hr6.out.keep (fun gg hg ↦ hg.2) (by repeat (first | exact Mods.refl _ _ | apply Mods.drew | apply Mods.alloc))) ((Hr5.out.keep (fun gg hg ↦ Nat.lt_of_lt_of_le hg.2 HM45.out) HM6l.out).keep (fun gg hg ↦ Nat.lt_of_lt_of_le hg.2 (Nat.le_trans HM45.out HM6l.out.size)) (by repeat (first | exact Mods.refl _ _ | apply Mods.drew | apply Mods.alloc))) (fun gg hg ↦ by simpa using hg.2) (fun gg hg ↦ Nat.lt_of_lt_of_le hg.2 (Nat.le_trans HM45.out (by simpa using HM6l.out.size))) Hm1.out Hm2.out Hm3.out) ?_; rintro v w7 ⟨rfl, hm⟩; have HM7 := Lib.hid (Mods.trans (T := No) (by repeat (first | exact HM6.out | apply Mods.drew | apply Mods.alloc)) hm (fun _ _ e => e)); clear hm; rw [sameRep_self])) | (go_at_call 15; (refine ret_use (report_S _ p (w.heap.size + 2) _ s1 F5 (0 + b1.length + 1) (Hs5.out.keep (by repeat (first | exact Mods.refl _ _ | apply Mods.drew | apply Mods.alloc))) Hhb1.out HhN.out) ?_; rintro v w6 hrep; obtain ⟨cv6, wv6, lv6, bvs6, rfl, hr6, hm⟩ := hrep.got; have HMk := Lib.hid hm; have HM6l := Lib.hid (Mods.trans (S := No) (T := No) (a := w5) (by repeat (first | exact Mods.refl _ _ | apply Mods.drew | apply Mods.alloc)) hm (fun _ _ e => e)); have HM6 := Lib.hid (HM5.out.trans HM6l.out (fun _ _ e => e)); have Hr6 := Lib.hid (hr6.more (G := fun g => w5.heap.size ≤ g ∧ g < w6.heap.size) (fun gg hg => ⟨by simpa using hg.1, hg.2⟩)); clear hrep hr6 hm; have q0 := (Hkd.out.mods HM6l.out (fun e => e)).at_ 0 rfl; have q1 := (Hkd.out.mods HM6l.out (fun e => e)).at_ 1 rfl; have q2 := (Hkd.out.mods HM6l.out (fun e => e)).at_ 2 rfl; have q3 := (Hkd.out.mods HM6l.out (fun e => e)).at_ 3 rfl)) | (go_at_call 12; (refine ret_use (frame_S _ p (w.heap.size + 2) plan s1 F3 (OldOf w) i2 (.slice A2 b2.length c2) ea b2 (0 + b1.length + 1) (Hs4.out.keep (by repeat (first | exact Mods.refl _ _ | apply Mods.drew | apply Mods.alloc))) (Hhgk.out _ (by repeat (first | exact HM4.out | apply Mods.drew | apply Mods.alloc))) (by omega) (Hh2.out.old (by repeat (first | exact HM4.out | apply Mods.drew | apply Mods.alloc))) (fun gg hg ↦ ⟨Nat.lt_of_lt_of_le hg (by have := HM4.out.size; simp; omega), fun e ↦ by have := (Hs4.out.lt gg e).1; have hg' : gg < w.heap.size := hg; omega⟩) Hnp'.out Hn2'.out Hhb1.out HhN.out) ?_; rintro v w5 hpost; rw [Hfr2.out] at hpost; obtain ⟨rfl, F5, hs, _, hm, _⟩ := hpost; have Hs5 := Lib.hid hs; have HM5 := Lib.hid (mods_new (by repeat (first | exact HM4.out | apply Mods.drew | apply Mods.alloc)) hm (fun gg hg e => by have := (Hs4.out.lt gg e).1; omega)); have HM45 := Lib.hid (show w4.heap.size ≤ w5.heap.size by have := hm.size; simp at this; omega); have Hr5 := Lib.hid ((Hr4.out.keep (fun gg hg => hg.2) (Mods.alloc (Mods.refl No w4) _)).same (hm.same (fun gg hg => ⟨by have := hg.2; simp; omega, fun e => by have h8 := (Hs3.out.lt gg e).2; have h9 := hg.1; omega⟩))); have Hkd := Lib.hid ((Cells.new w4 _ _).mods hm (fun e => by have := (Hs4.out.lt _ e).2; omega)); have q0 := Hkd.out.at_ 0 rfl; have q1 := Hkd.out.at_ 1 rfl; have q2 := Hkd.out.at_ 2 rfl; have q3 := Hkd.out.at_ 3 rfl; have y0 := (Hk3.out.mods (S := No) (w' := w5) (mods_new (a := W2) (HM24.out.alloc _) hm (fun gg hg e => by have := (Hs4.out.lt gg e).1; have := Hz2.out; omega)) (fun e => e)).at_ 0 rfl; have y2 := (Hk2.out.mods (S := No) (w' := w5) (mods_new (a := W2) (HM24.out.alloc _) hm (fun gg hg e => by have := (Hs4.out.lt gg e).1; have := Hz2.out; omega)) (fun e => e)).at_ 0 rfl; clear hs hm)) | (go_at_call 15; (fail_if_success have := Hs4); (refine ret_use (report_S _ p (w.heap.size + 2) _ s1 F3 (0 + b1.length + 1) (Hs3.out.keep (by repeat (first | exact Mods.refl _ _ | apply Mods.drew | apply Mods.alloc))) Hhb1.out HhN.out) ?_; rintro v w4 hrep; obtain ⟨cv, wv, lv, bvs, rfl, hr4, hm⟩ := hrep.got; obtain ⟨Ac, cc, rfl, _, _⟩ := hr4.conns.form; obtain ⟨Aw, cw, rfl, _, _⟩ := hr4.whole.form; obtain ⟨Al, cl, rfl, _, _⟩ := hr4.lost.form; have Hr4 := Lib.hid (hr4.more (G := fun g => w3.heap.size ≤ g ∧ g < w4.heap.size) (fun gg hg => ⟨by simpa using hg.1, hg.2⟩)); have HM4l := Lib.hid (Mods.trans (S := No) (T := No) (a := w3) (by repeat (first | exact Mods.refl _ _ | apply Mods.drew | apply Mods.alloc)) hm (fun _ _ e => e)); have HM34 := Lib.hid HM4l.out.size; have HM4 := Lib.hid (HM3.out.trans HM4l.out (fun _ _ e => e)); have HM24 := Lib.hid (HM23.out.trans HM4l.out (fun _ _ e => e)); have Hs4 := Lib.hid (Hs3.out.keep (w' := w4) HM4l.out); clear hrep hr4 hm; have y0 := (Hk2.out.mods (S := No) (w' := w4) HM24.out (fun e => e)).at_ 0 (v := .int .i64 i2) rfl; have y1 := (Hk2.out.mods (S := No) (w' := w4) HM24.out (fun e => e)).at_ 1 (v := .slice A2 b2.length c2) rfl; have yn := World.block_lt_of_cell? w4 _ y0)) | (go_at_call 12; (fail_if_success have := Hs4); (refine ret_use (frame_S _ p (w.heap.size + 2) plan s0 F1 (OldOf w) i1 (.slice A1 b1.length c1) ea b1 0 (Hs2.out.keep (by repeat (first | exact Mods.refl _ _ | apply Mods.drew | apply Mods.alloc))) (Hhgk.out _ (by repeat (first | exact HM2.out | apply Mods.drew | apply Mods.alloc))) (by omega) (Hh1.out.old (by repeat (first | exact HM2.out | apply Mods.drew | apply Mods.alloc))) (fun gg hg ↦ ⟨Nat.lt_of_lt_of_le hg (by have := HM2.out.size; simp; omega), fun e ↦ by have := (Hs2.out.lt gg e).1; have hg' : gg < w.heap.size := hg; omega⟩) Hnp'.out Hn1'.out (bnd_s0 0) (by decide)) ?_; rintro v w3 hpost; rw [Hhs1'.out] at hpost; obtain ⟨rfl, F3, hs, _, hm, _⟩ := hpost; have Hs3 := Lib.hid hs; have HM3 := Lib.hid (mods_new (by repeat (first | exact HM2.out | apply Mods.drew | apply Mods.alloc)) hm (fun gg hg e => by have := (Hs2.out.lt gg e).1; omega)); have HM23 := Lib.hid (mods_new (a := W2) (by repeat (first | exact HMW2.out | apply Mods.drew)) hm (fun gg hg e => by have := (Hs2.out.lt gg e).1; have := Hz2.out; omega)); clear hs hm)) | (go_at_call 16; (refine ret_use (Hhaw.out _ (by repeat (first | exact HM1.out | apply Mods.drew | apply Mods.alloc))) ?_; rintro v w2 ⟨rfl, hm⟩; have HM2 := Lib.hid (Mods.trans (T := No) (by repeat (first | exact HM1.out | apply Mods.drew | apply Mods.alloc)) hm (fun _ _ e => e)); have HMW2 := Lib.hid (Mods.trans (T := No) (by repeat (first | exact HMW1.out | apply Mods.drew)) hm (fun _ _ e => e)); have Hs2 := Lib.hid (Hs1.out.keep (w' := w2) (Mods.trans (T := No) (by repeat (first | exact Mods.refl _ _ | apply Mods.drew | apply Mods.alloc)) hm (fun _ _ e => e))); clear hm; have y0 := (Hk3.out.mods (S := No) (w' := w2) HMW2.out (fun e => e)).at_ 0 rfl; have y1 := (Hk3.out.mods (S := No) (w' := w2) HMW2.out (fun e => e)).at_ 1 rfl)) | (go_at_call 10; (refine ret_use (new_S _ (OldOf w) (.slice Ap plan.length cp) plan (Hhp.out.old Hd2.out) (fun gg hg ↦ by have hg' : gg < w.heap.size := hg; have := Hz2.out; omega) Hnp'.out) ?_; rintro v w1 ⟨p, F1, rfl, hs, hm⟩; have Hs1 := Lib.hid (hs.low (n1 := w.heap.size + 2) (by have := Hz2.out; omega)); have HMW1 := Lib.hid hm; have HM1 := Lib.hid (Hd2.out.trans hm (fun _ _ e => e)); clear hs hm)) | ((with_reducible refine wp_region_por ?_ ?_ ?_ ?_); kernel_rfl; kernel_rfl; (with_reducible repeat (first | exact calm_ret | refine calm_then ?_ | refine calm_in ?_ | refine calm_chk ?_ | refine calm_noGoto ?_))) | ((with_reducible refine chk_end ?_ ?_); kernel_rfl))
    go_ret
    exact ⟨rfl, HM5.out⟩
  · have hlt' : decide (i1 < i2) = false := decide_eq_false hlt
    have Hfr2 := Lib.hid (frame_no (plan := plan) (s := s1) (id := i2) (b := b2) ⟨Hf2.out, by rw [Hf3.out]; omega⟩)
    go_wp2_with (first | ((with_reducible refine wp_region_one 8 (fun g => g = w4.heap.size) [5] 4 ?_ ?_ ?_ ?_ ?_); kernel_rfl; kernel_rfl; kernel_rfl; (with_reducible repeat (first | exact calm_ret | refine calm_then ?_ | refine calm_in ?_ | refine calm_chk ?_ | refine calm_noGoto ?_)); simp only [List.drop_succ_cons, List.drop_zero, List.take_succ_cons, List.take_zero]) | (with_reducible refine segEnd ?_) | (refine And.intro (Keep.one HMk.out Hkd.out.drew (fun e => e)) ?_) | ((with_reducible refine chkM_end (fun g => g = w4.heap.size) ?_ [.pointer (some ⟨w4.heap.size, 0, none⟩)] ?_ ?_ ?_); kernel_rfl; kernel_rfl; (intro v hv x hx; simp only [List.mem_cons, List.not_mem_nil, or_false] at hv; subst hv; (injection hx with hx; injection hx with hx; subst hx; simp))) | (go_at_call 14; (refine ret_use (same_eq _ (fun g ↦ w5.heap.size ≤ g ∧ g < w6.heap.size) (fun g ↦ w3.heap.size ≤ g ∧ g < w4.heap.size) cv6 wv6 lv6 (.slice Ac s1.conns.length cc) (.slice Aw s1.whole.length cw) (.slice Al s1.lost.length cl) bvs6 bvs s1 s1 (Hr6.out.keep (fun gg hg ↦ hg.2) (by repeat (first | exact Mods.refl _ _ | apply Mods.drew | apply Mods.alloc))) ((Hr5.out.keep (fun gg hg ↦ Nat.lt_of_lt_of_le hg.2 HM45.out) HM6l.out).keep (fun gg hg ↦ Nat.lt_of_lt_of_le hg.2 (Nat.le_trans HM45.out HM6l.out.size)) (by repeat (first | exact Mods.refl _ _ | apply Mods.drew | apply Mods.alloc))) (fun gg hg ↦ by simpa using hg.2) (fun gg hg ↦ Nat.lt_of_lt_of_le hg.2 (Nat.le_trans HM45.out (by simpa using HM6l.out.size))) Hm1.out Hm2.out Hm3.out) ?_; rintro v w7 ⟨rfl, hm⟩; have HM7 := Lib.hid (Mods.trans (T := No) (by repeat (first | exact HM6.out | apply Mods.drew | apply Mods.alloc)) hm (fun _ _ e => e)); clear hm; rw [sameRep_self])) | (go_at_call 15; (refine ret_use (report_S _ p (w.heap.size + 2) _ s1 F5 (0 + b1.length + 1) (Hs5.out.keep (by repeat (first | exact Mods.refl _ _ | apply Mods.drew | apply Mods.alloc))) Hhb1.out HhN.out) ?_; rintro v w6 hrep; obtain ⟨cv6, wv6, lv6, bvs6, rfl, hr6, hm⟩ := hrep.got; have HMk := Lib.hid hm; have HM6l := Lib.hid (Mods.trans (S := No) (T := No) (a := w5) (by repeat (first | exact Mods.refl _ _ | apply Mods.drew | apply Mods.alloc)) hm (fun _ _ e => e)); have HM6 := Lib.hid (HM5.out.trans HM6l.out (fun _ _ e => e)); have Hr6 := Lib.hid (hr6.more (G := fun g => w5.heap.size ≤ g ∧ g < w6.heap.size) (fun gg hg => ⟨by simpa using hg.1, hg.2⟩)); clear hrep hr6 hm; have q0 := (Hkd.out.mods HM6l.out (fun e => e)).at_ 0 rfl; have q1 := (Hkd.out.mods HM6l.out (fun e => e)).at_ 1 rfl; have q2 := (Hkd.out.mods HM6l.out (fun e => e)).at_ 2 rfl; have q3 := (Hkd.out.mods HM6l.out (fun e => e)).at_ 3 rfl)) | (go_at_call 12; (refine ret_use (frame_S _ p (w.heap.size + 2) plan s1 F3 (OldOf w) i2 (.slice A2 b2.length c2) ea b2 (0 + b1.length + 1) (Hs4.out.keep (by repeat (first | exact Mods.refl _ _ | apply Mods.drew | apply Mods.alloc))) (Hhgk.out _ (by repeat (first | exact HM4.out | apply Mods.drew | apply Mods.alloc))) (by omega) (Hh2.out.old (by repeat (first | exact HM4.out | apply Mods.drew | apply Mods.alloc))) (fun gg hg ↦ ⟨Nat.lt_of_lt_of_le hg (by have := HM4.out.size; simp; omega), fun e ↦ by have := (Hs4.out.lt gg e).1; have hg' : gg < w.heap.size := hg; omega⟩) Hnp'.out Hn2'.out Hhb1.out HhN.out) ?_; rintro v w5 hpost; rw [Hfr2.out] at hpost; obtain ⟨rfl, F5, hs, _, hm, _⟩ := hpost; have Hs5 := Lib.hid hs; have HM5 := Lib.hid (mods_new (by repeat (first | exact HM4.out | apply Mods.drew | apply Mods.alloc)) hm (fun gg hg e => by have := (Hs4.out.lt gg e).1; omega)); have HM45 := Lib.hid (show w4.heap.size ≤ w5.heap.size by have := hm.size; simp at this; omega); have Hr5 := Lib.hid ((Hr4.out.keep (fun gg hg => hg.2) (Mods.alloc (Mods.refl No w4) _)).same (hm.same (fun gg hg => ⟨by have := hg.2; simp; omega, fun e => by have h8 := (Hs3.out.lt gg e).2; have h9 := hg.1; omega⟩))); have Hkd := Lib.hid ((Cells.new w4 _ _).mods hm (fun e => by have := (Hs4.out.lt _ e).2; omega)); have q0 := Hkd.out.at_ 0 rfl; have q1 := Hkd.out.at_ 1 rfl; have q2 := Hkd.out.at_ 2 rfl; have q3 := Hkd.out.at_ 3 rfl; have y0 := (Hk3.out.mods (S := No) (w' := w5) (mods_new (a := W2) (HM24.out.alloc _) hm (fun gg hg e => by have := (Hs4.out.lt gg e).1; have := Hz2.out; omega)) (fun e => e)).at_ 0 rfl; have y2 := (Hk2.out.mods (S := No) (w' := w5) (mods_new (a := W2) (HM24.out.alloc _) hm (fun gg hg e => by have := (Hs4.out.lt gg e).1; have := Hz2.out; omega)) (fun e => e)).at_ 0 rfl; clear hs hm)) | (go_at_call 15; (fail_if_success have := Hs4); (refine ret_use (report_S _ p (w.heap.size + 2) _ s1 F3 (0 + b1.length + 1) (Hs3.out.keep (by repeat (first | exact Mods.refl _ _ | apply Mods.drew | apply Mods.alloc))) Hhb1.out HhN.out) ?_; rintro v w4 hrep; obtain ⟨cv, wv, lv, bvs, rfl, hr4, hm⟩ := hrep.got; obtain ⟨Ac, cc, rfl, _, _⟩ := hr4.conns.form; obtain ⟨Aw, cw, rfl, _, _⟩ := hr4.whole.form; obtain ⟨Al, cl, rfl, _, _⟩ := hr4.lost.form; have Hr4 := Lib.hid (hr4.more (G := fun g => w3.heap.size ≤ g ∧ g < w4.heap.size) (fun gg hg => ⟨by simpa using hg.1, hg.2⟩)); have HM4l := Lib.hid (Mods.trans (S := No) (T := No) (a := w3) (by repeat (first | exact Mods.refl _ _ | apply Mods.drew | apply Mods.alloc)) hm (fun _ _ e => e)); have HM34 := Lib.hid HM4l.out.size; have HM4 := Lib.hid (HM3.out.trans HM4l.out (fun _ _ e => e)); have HM24 := Lib.hid (HM23.out.trans HM4l.out (fun _ _ e => e)); have Hs4 := Lib.hid (Hs3.out.keep (w' := w4) HM4l.out); clear hrep hr4 hm; have y0 := (Hk2.out.mods (S := No) (w' := w4) HM24.out (fun e => e)).at_ 0 (v := .int .i64 i2) rfl; have y1 := (Hk2.out.mods (S := No) (w' := w4) HM24.out (fun e => e)).at_ 1 (v := .slice A2 b2.length c2) rfl; have yn := World.block_lt_of_cell? w4 _ y0)) | (go_at_call 12; (fail_if_success have := Hs4); (refine ret_use (frame_S _ p (w.heap.size + 2) plan s0 F1 (OldOf w) i1 (.slice A1 b1.length c1) ea b1 0 (Hs2.out.keep (by repeat (first | exact Mods.refl _ _ | apply Mods.drew | apply Mods.alloc))) (Hhgk.out _ (by repeat (first | exact HM2.out | apply Mods.drew | apply Mods.alloc))) (by omega) (Hh1.out.old (by repeat (first | exact HM2.out | apply Mods.drew | apply Mods.alloc))) (fun gg hg ↦ ⟨Nat.lt_of_lt_of_le hg (by have := HM2.out.size; simp; omega), fun e ↦ by have := (Hs2.out.lt gg e).1; have hg' : gg < w.heap.size := hg; omega⟩) Hnp'.out Hn1'.out (bnd_s0 0) (by decide)) ?_; rintro v w3 hpost; rw [Hhs1'.out] at hpost; obtain ⟨rfl, F3, hs, _, hm, _⟩ := hpost; have Hs3 := Lib.hid hs; have HM3 := Lib.hid (mods_new (by repeat (first | exact HM2.out | apply Mods.drew | apply Mods.alloc)) hm (fun gg hg e => by have := (Hs2.out.lt gg e).1; omega)); have HM23 := Lib.hid (mods_new (a := W2) (by repeat (first | exact HMW2.out | apply Mods.drew)) hm (fun gg hg e => by have := (Hs2.out.lt gg e).1; have := Hz2.out; omega)); clear hs hm)) | (go_at_call 16; (refine ret_use (Hhaw.out _ (by repeat (first | exact HM1.out | apply Mods.drew | apply Mods.alloc))) ?_; rintro v w2 ⟨rfl, hm⟩; have HM2 := Lib.hid (Mods.trans (T := No) (by repeat (first | exact HM1.out | apply Mods.drew | apply Mods.alloc)) hm (fun _ _ e => e)); have HMW2 := Lib.hid (Mods.trans (T := No) (by repeat (first | exact HMW1.out | apply Mods.drew)) hm (fun _ _ e => e)); have Hs2 := Lib.hid (Hs1.out.keep (w' := w2) (Mods.trans (T := No) (by repeat (first | exact Mods.refl _ _ | apply Mods.drew | apply Mods.alloc)) hm (fun _ _ e => e))); clear hm; have y0 := (Hk3.out.mods (S := No) (w' := w2) HMW2.out (fun e => e)).at_ 0 rfl; have y1 := (Hk3.out.mods (S := No) (w' := w2) HMW2.out (fun e => e)).at_ 1 rfl)) | (go_at_call 10; (refine ret_use (new_S _ (OldOf w) (.slice Ap plan.length cp) plan (Hhp.out.old Hd2.out) (fun gg hg ↦ by have hg' : gg < w.heap.size := hg; have := Hz2.out; omega) Hnp'.out) ?_; rintro v w1 ⟨p, F1, rfl, hs, hm⟩; have Hs1 := Lib.hid (hs.low (n1 := w.heap.size + 2) (by have := Hz2.out; omega)); have HMW1 := Lib.hid hm; have HM1 := Lib.hid (Hd2.out.trans hm (fun _ _ e => e)); clear hs hm)) | ((with_reducible refine wp_region_por ?_ ?_ ?_ ?_); kernel_rfl; kernel_rfl; (with_reducible repeat (first | exact calm_ret | refine calm_then ?_ | refine calm_in ?_ | refine calm_chk ?_ | refine calm_noGoto ?_))) | ((with_reducible refine chk_end ?_ ?_); kernel_rfl))
    go_ret
    exact ⟨rfl, HM7.out⟩
end Go.Proofs.YtmfpgghpnkmkpaaDoor
