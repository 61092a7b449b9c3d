/- The reference's Frame. -/
import Derived.Test.YtmfpgghpnkmkpaaDoorSinkM
namespace Go.Proofs.YtmfpgghpnkmkpaaDoor
open Go.RowKit Go.Tum
theorem refAny_K (w : World) (q : Nat) (pv : Value) (s : SinkS) (F : Nat → Prop) (h : RefS w q pv s F) (id : Int) :
    w.cell? ⟨q, 6, none⟩ = some (.bool s.any) ∧ w.frozen? ⟨q, 6, none⟩ = false ∧ w.cell? ⟨q, 5, none⟩ = some (.int .i64 s.last) ∧ w.frozen? ⟨q, 5, none⟩ = false ∧
    RefS ((w.setCell ⟨q, 6, none⟩ (.bool true)).setCell ⟨q, 5, none⟩ (.int .i64 id)) q pv { s with any := true, last := id } F ∧ Mods F w ((w.setCell ⟨q, 6, none⟩ (.bool true)).setCell ⟨q, 5, none⟩ (.int .i64 id)) := by
  obtain ⟨col, cv, wv, lv, bvs, hr, hF⟩ := h
  have hm : Mods (fun g => g = q) w ((w.setCell ⟨q, 6, none⟩ (.bool true)).setCell ⟨q, 5, none⟩ (.int .i64 id)) := ((Mods.refl (fun g => g = q) w).setCell ⟨q, 6, none⟩ (.bool true) fun _ => rfl).setCell ⟨q, 5, none⟩ (.int .i64 id) fun _ => rfl
  obtain ⟨h1, h2⟩ := ref_hdr (s' := { s with any := true, last := id }) hr hF hm (by simpa using (hr.hdr.set_ 6 (.bool true)).set_ 5 (.int .i64 id)) rfl rfl rfl
  exact ⟨hr.hdr.at_ 6 rfl, hr.hdr.frozen 6, hr.hdr.at_ 5 rfl, hr.hdr.frozen 5, h1, h2⟩
theorem refWhole_K (w : World) (q : Nat) (pv : Value) (s : SinkS) (F : Nat → Prop) (h : RefS w q pv s F) (id : Int) :
    ∃ A c, s.whole.length ≤ c ∧ w.cell? ⟨q, 2, none⟩ = some (.slice A s.whole.length c) ∧ (∀ o, Own (w.alloc o) (fun g => (Value.slice A s.whole.length c).ownBlock = some g) 2 1 (.slice A s.whole.length c) s.whole.length (vis s.whole)) ∧
    ∀ o v' w1, Own w1 (fun k => (Value.slice A s.whole.length c).ownBlock = some k ∨ k = w.heap.size + 1) 2 1 v' (s.whole.length + 1) (vis s.whole ++ [.int .i64 id]) → Mods (fun k => (Value.slice A s.whole.length c).ownBlock = some k) (w.alloc o) w1 → (∀ g, v'.ownBlock = some g → g < w1.heap.size) →
      w1.cell? ⟨q, 2, none⟩ = some (.slice A s.whole.length c) ∧ w1.frozen? ⟨q, 2, none⟩ = false ∧ RefS (w1.setCell ⟨q, 2, none⟩ v') q pv { s with whole := s.whole ++ [id] } (Ext F w.heap.size) ∧ Mods F w (w1.setCell ⟨q, 2, none⟩ v') := by
  obtain ⟨col, cv, wv, lv, bvs, hr, hF⟩ := h
  have hFq : F q := hF q hr.hdr.lt (by rw [hr.colq]; decide)
  have h0 := hr.rep.whole
  obtain ⟨A, c, rfl, hnc, hcm⟩ := hr.rep.whole.form
  refine ⟨A, c, hnc, hr.hdr.at_ 2 rfl, fun o => h0.tight.same (Same.alloc w o fun k hk => h0.lt k hk), fun o v' w1 hown hmod hlt => ?_⟩
  have hne : (Value.slice A s.whole.length c).ownBlock ≠ some q := h0.ne_cells hr.hdr (by decide)
  have hpW := (hr.hdr.alloc o).mods hmod hne
  have hnp : ∀ g, v'.ownBlock = some g → g ≠ q := fun g hg e => hown.ne_cells hpW (by decide) (e ▸ hg)
  have hm : Mods (fun g => g = q ∨ (Value.slice A s.whole.length c).ownBlock = some g) w (w1.setCell ⟨q, 2, none⟩ v') := ((((Mods.refl _ w).alloc _).trans hmod (fun k _ e => Or.inr e)).setCell ⟨q, 2, none⟩ v' (fun _ => Or.inl rfl))
  have hS : ∀ j, j ≠ 1 → j ≠ 4 → ∀ g, g < w.heap.size → (g = q ∨ (Value.slice A s.whole.length c).ownBlock = some g) → col g ≠ j := by
    rintro j j1 j2 g _ (rfl | e)
    · rw [hr.colq]; omega
    · rw [h0.2 g e]; omega
  have hN : Own (w1.setCell ⟨q, 2, none⟩ v') (fun g => recol w.heap.size col 4 g = 4) 2 1 v' (s.whole ++ [id]).length (vis (s.whole ++ [id])) := by
    have h2 := hown.tight.same (Same.setCell w1 ⟨q, 2, none⟩ v' (fun e => hnp q e rfl))
    refine ⟨by simpa [vis] using h2.1, fun g hg => ?_⟩
    rcases hown.2 g hg with e | e
    · rw [recol_old (h0.lt g e)]; exact h0.2 g e
    · exact recol_new (by omega)
  refine ⟨hpW.at_ 2 rfl, hpW.frozen 2, ⟨recol w.heap.size col 4, cv, v', lv, bvs, ⟨by simpa using hpW.set_ 2 v', by rw [recol_old hr.hdr.lt]; exact hr.colq, ⟨hr.rep.len, hr.rep.conns.keep hm (hS 3 (by omega) (by omega)), fun j b c' e1 e2 => (hr.rep.each j b c' e1 e2).keep hm (hS _ (by omega) (by omega)), hN, hr.rep.lost.keep hm (hS 5 (by omega) (by omega))⟩⟩, fun g hg hc => ?_⟩, hm.mono fun g hg e => ?_⟩
  · rcases Nat.lt_or_ge g w.heap.size with h1 | h1
    · rw [recol_old h1] at hc
      exact .inl (hF g h1 hc)
    · exact .inr h1
  · rcases e with rfl | e
    · exact hFq
    · exact hF g hg (by rw [h0.2 g e]; decide)
theorem refLost_K (w : World) (q : Nat) (pv : Value) (s : SinkS) (F : Nat → Prop) (h : RefS w q pv s F) (id : Int) :
    ∃ A c, s.lost.length ≤ c ∧ w.cell? ⟨q, 3, none⟩ = some (.slice A s.lost.length c) ∧ (∀ o, Own (w.alloc o) (fun g => (Value.slice A s.lost.length c).ownBlock = some g) 2 1 (.slice A s.lost.length c) s.lost.length (vis s.lost)) ∧
    ∀ o v' w1, Own w1 (fun k => (Value.slice A s.lost.length c).ownBlock = some k ∨ k = w.heap.size + 1) 2 1 v' (s.lost.length + 1) (vis s.lost ++ [.int .i64 id]) → Mods (fun k => (Value.slice A s.lost.length c).ownBlock = some k) (w.alloc o) w1 → (∀ g, v'.ownBlock = some g → g < w1.heap.size) →
      w1.cell? ⟨q, 3, none⟩ = some (.slice A s.lost.length c) ∧ w1.frozen? ⟨q, 3, none⟩ = false ∧ RefS (w1.setCell ⟨q, 3, none⟩ v') q pv { s with lost := s.lost ++ [id] } (Ext F w.heap.size) ∧ Mods F w (w1.setCell ⟨q, 3, none⟩ v') := by
  obtain ⟨col, cv, wv, lv, bvs, hr, hF⟩ := h
  have hFq : F q := hF q hr.hdr.lt (by rw [hr.colq]; decide)
  have h0 := hr.rep.lost
  obtain ⟨A, c, rfl, hnc, hcm⟩ := hr.rep.lost.form
  refine ⟨A, c, hnc, hr.hdr.at_ 3 rfl, fun o => h0.tight.same (Same.alloc w o fun k hk => h0.lt k hk), fun o v' w1 hown hmod hlt => ?_⟩
  have hne : (Value.slice A s.lost.length c).ownBlock ≠ some q := h0.ne_cells hr.hdr (by decide)
  have hpW := (hr.hdr.alloc o).mods hmod hne
  have hnp : ∀ g, v'.ownBlock = some g → g ≠ q := fun g hg e => hown.ne_cells hpW (by decide) (e ▸ hg)
  have hm : Mods (fun g => g = q ∨ (Value.slice A s.lost.length c).ownBlock = some g) w (w1.setCell ⟨q, 3, none⟩ v') := ((((Mods.refl _ w).alloc _).trans hmod (fun k _ e => Or.inr e)).setCell ⟨q, 3, none⟩ v' (fun _ => Or.inl rfl))
  have hS : ∀ j, j ≠ 1 → j ≠ 5 → ∀ g, g < w.heap.size → (g = q ∨ (Value.slice A s.lost.length c).ownBlock = some g) → col g ≠ j := by
    rintro j j1 j2 g _ (rfl | e)
    · rw [hr.colq]; omega
    · rw [h0.2 g e]; omega
  have hN : Own (w1.setCell ⟨q, 3, none⟩ v') (fun g => recol w.heap.size col 5 g = 5) 2 1 v' (s.lost ++ [id]).length (vis (s.lost ++ [id])) := by
    have h2 := hown.tight.same (Same.setCell w1 ⟨q, 3, none⟩ v' (fun e => hnp q e rfl))
    refine ⟨by simpa [vis] using h2.1, fun g hg => ?_⟩
    rcases hown.2 g hg with e | e
    · rw [recol_old (h0.lt g e)]; exact h0.2 g e
    · exact recol_new (by omega)
  refine ⟨hpW.at_ 3 rfl, hpW.frozen 3, ⟨recol w.heap.size col 5, cv, wv, v', bvs, ⟨by simpa using hpW.set_ 3 v', by rw [recol_old hr.hdr.lt]; exact hr.colq, ⟨hr.rep.len, hr.rep.conns.keep hm (hS 3 (by omega) (by omega)), fun j b c' e1 e2 => (hr.rep.each j b c' e1 e2).keep hm (hS _ (by omega) (by omega)), hr.rep.whole.keep hm (hS 4 (by omega) (by omega)), hN⟩⟩, fun g hg hc => ?_⟩, hm.mono fun g hg e => ?_⟩
  · rcases Nat.lt_or_ge g w.heap.size with h1 | h1
    · rw [recol_old h1] at hc
      exact .inl (hF g h1 hc)
    · exact .inr h1
  · rcases e with rfl | e
    · exact hFq
    · exact hF g hg (by rw [h0.2 g e]; decide)
set_option maxHeartbeats 1600000 in
set_option maxRecDepth 100000 in
theorem refFrame_K (w : World) (q : Nat) (pv : Value) (plan : Plan) (s : SinkS) (F H : Nat → Prop) (id : Int) (bs : Value) (b : List UInt8) (h : RefS w q pv s F) (hpv : Rd w H 2 pv plan.length (planCells plan)) (hb : Rd w H 1 bs b.length (vbs b)) (hH : ∀ g, H g → g < w.heap.size ∧ ¬ F g)
    (hplan : plan.length ≤ 1000000000) (b2 : b.length ≤ 2000000) (b3 : ∀ c ∈ s.conns, c.bytes.length ≤ 100000000) (b4 : s.writes ≤ 100000000000) (b5 : s.conns.length ≤ 1000000000) (b6 : s.whole.length ≤ 1000000000) (b7 : s.lost.length ≤ 1000000000) :
    Calls Tryd.prog 13 #[(.pointer (some ⟨q, 0, none⟩)), .int .i64 id, bs] w (Ret fun v w' => v = .int .i64 (frame plan s id b).2 ∧ RefS w' q pv (frame plan s id b).1 (Ext F w.heap.size) ∧ Mods F w w') := by
  obtain ⟨A, c, rfl, hbc, hbm⟩ := hb.form
  clear hbm
  obtain ⟨c6, f6, c5, f5, hK1, hM1⟩ := refAny_K w q pv s F h id
  have hsend := fun hpos => refSend_K _ q pv plan _ F H (.slice A b.length c) b hK1 (hpv.same (hM1.same hH)) (hb.same (hM1.same hH)) (fun g hg => ⟨Nat.lt_of_lt_of_le (hH g hg).1 hM1.size, (hH g hg).2⟩) hplan b2 b3 b4 b5 hpos
  have hfr : frame plan s id b = if s.any = true ∧ id ≤ s.last then (s, 180) else (let r := send plan { s with any := true, last := id } b; if r.2 = true then ({ r.1 with whole := r.1.whole ++ [id] }, 0) else ({ r.1 with lost := r.1.lost ++ [id] }, 0)) := rfl
  have hsw : ∀ s0, (send plan s0 b).1.whole = s0.whole ∧ (send plan s0 b).1.lost = s0.lost := fun s0 => by unfold send; split <;> exact ⟨rfl, rfl⟩
  have hsw1 := hsw { s with any := true, last := id }
  have hse : b.length = 0 → send plan { s with any := true, last := id } b = ({ s with any := true, last := id }, true) := fun e => by unfold send; rw [if_pos e]
  generalize frame plan s id b = fr at hfr ⊢
  generalize send plan { s with any := true, last := id } b = r at hsend hfr hsw1 hse
  obtain ⟨s2, whole⟩ := r
  dsimp only at hsend hfr hsw1
  have b8 : s2.whole.length ≤ 1000000000 := by rw [hsw1.1]; exact b6
  have b9 : s2.lost.length ≤ 1000000000 := by rw [hsw1.2]; exact b7
  clear hsw
  have Hh := Lib.hid h
  clear h
  have Hhpv := Lib.hid hpv
  clear hpv
  have Hhb := Lib.hid hb
  clear hb
  have HhH := Lib.hid hH
  clear hH
  have Hb3 := Lib.hid b3
  clear b3
  have HhK1 := Lib.hid hK1
  clear hK1
  have HhM1 := Lib.hid hM1
  clear hM1
  have Hhsend := Lib.hid hsend
  clear hsend
  have Hhfr := Lib.hid hfr
  clear hfr
  have Hhsw1 := Lib.hid hsw1
  clear hsw1
  have Hhse := Lib.hid hse
  clear hse
  go_enter Tryd.func13, Tryd.ntmps13
  cases ha : s.any with
  | true =>
    rw [ha] at c6
    by_cases hle : id ≤ s.last
    · have hle' : decide (id ≤ s.last) = true := decide_eq_true hle
      go_wp2_with (first | ((with_reducible refine wp_region_por ?_ ?_ ?_ ?_); kernel_rfl; kernel_rfl; (with_reducible repeat (first | exact calm_ret | refine calm_then ?_ | refine calm_in ?_ | refine calm_chk ?_ | refine calm_noGoto ?_))) | ((with_reducible refine chk_end ?_ ?_); kernel_rfl))
      go_ret
      have hfr := Hhfr.out
      rw [if_pos ⟨ha, hle⟩] at hfr
      rw [hfr]
      exact ⟨rfl, Hh.out.more (fun g _ e => .inl e), Mods.refl _ _⟩
    · have hle' : decide (id ≤ s.last) = false := decide_eq_false hle
      rcases Nat.eq_zero_or_pos b.length with hz | hz
      · have hz' : decide (0 < b.length) = false := by simpa using hz
        have hse := Hhse.out hz
        injection hse with hse1 hse2
        subst hse1 hse2
        obtain ⟨A5, c7, hn5, h5, hown5, hfin5⟩ := refWhole_K _ q pv _ F HhK1.out id
        have HhM2 := Lib.hid (Mods.refl F ((w.setCell ⟨q, 6, none⟩ (.bool true)).setCell ⟨q, 5, none⟩ (.int .i64 id)))
        have h6 : w.cell? ⟨q, 2, none⟩ = some (.slice A5 s.whole.length c7) := by
          rw [← h5]
          exact ((World.cell?_setCell_other (w := w.setCell ⟨q, 6, none⟩ (.bool true)) (a := ⟨q, 5, none⟩) (b := ⟨q, 2, none⟩) (v := .int .i64 id) (by simp)).trans (World.cell?_setCell_other (w := w) (a := ⟨q, 6, none⟩) (b := ⟨q, 2, none⟩) (v := .bool true) (by simp))).symm
        have hn6 : s.whole.length ≤ c7 := hn5
        clear h5 hn5
        have Hhown5 := Lib.hid hown5
        clear hown5
        have Hhfin5 := Lib.hid hfin5
        clear hfin5
        go_wp2_with (first | (at_builtin; (refine wpList_append _ rfl (.tmp 39) (.tmp 41) 36 rfl 2 (.int .i64 0) 1 8 Tryd.underlying36 infoI64 rfl (by decide) (F := fun g => (Value.slice A5 s.whole.length c7).ownBlock = some g) (n := s.whole.length) (xs := vis s.whole) (by rfl) (Hhown5.out _) (G := fun g => g = w.heap.size) (y := .slice (some ⟨w.heap.size, 0, none⟩) 1 1) (m := 1) (news := [.int .i64 id]) (by rfl) ?xe1 (by intro u hu; simp at hu; subst hu; rfl) (by omega) (by decide) ?xe4)) | ((with_reducible refine wp_region_por ?_ ?_ ?_ ?_); kernel_rfl; kernel_rfl; (with_reducible repeat (first | exact calm_ret | refine calm_then ?_ | refine calm_in ?_ | refine calm_chk ?_ | refine calm_noGoto ?_))) | ((with_reducible refine chk_end ?_ ?_); kernel_rfl))
        case xe1 => exact Rd.box _ #[.int .i64 id] _ (by simp) rfl (by decide)
        case xe4 =>
          intro v1 w3 hown hmod hlt
          obtain ⟨A6, c9, rfl, _, _⟩ := hown.form
          obtain ⟨q1, q2, hK3, hM3⟩ := Hhfin5.out _ _ w3 (by simpa [World.setCell] using hown) hmod hlt
          have Hhown := Lib.hid hown
          clear hown
          have Hhmod := Lib.hid hmod
          clear hmod
          have Hhlt := Lib.hid hlt
          clear hlt
          have HhK3 := Lib.hid hK3
          clear hK3
          have HhM3 := Lib.hid hM3
          clear hM3
          go_wp2_with (first | ((with_reducible refine wp_region_por ?_ ?_ ?_ ?_); kernel_rfl; kernel_rfl; (with_reducible repeat (first | exact calm_ret | refine calm_then ?_ | refine calm_in ?_ | refine calm_chk ?_ | refine calm_noGoto ?_))) | ((with_reducible refine chk_end ?_ ?_); kernel_rfl))
          go_ret
          have hfr := Hhfr.out
          rw [if_neg (fun e => absurd e.2 (by omega)), if_pos (by trivial)] at hfr
          rw [hfr]
          exact ⟨rfl, HhK3.out.more (fun g _ e => ext1 (HhM1.out).size e), (HhM1.out.trans HhM2.out fun g _ e => e).then_ ((HhM3.out).mono fun g _ e => .inl e)⟩
      · have hz' : decide (0 < b.length) = true := by simpa using hz
        have HHsend2 := Lib.hid (Hhsend.out hz)
        cases whole with
        | true =>
          go_wp2_with (first | (go_at_call 23; (refine ret_use (HHsend2.out) ?_; rintro v w2 ⟨rfl, hK2, hM2⟩; obtain ⟨A5, c5, hn5, h5, hown5, hfin5⟩ := refWhole_K w2 q pv s2 _ hK2 id; have Hhown5 := Lib.hid hown5; clear hown5; have Hhfin5 := Lib.hid hfin5; clear hfin5; have HhM2 := Lib.hid hM2; clear hM2; clear hK2)) | (at_builtin; (refine wpList_append _ rfl (.tmp 39) (.tmp 41) 36 rfl 2 (.int .i64 0) 1 8 Tryd.underlying36 infoI64 rfl (by decide) (F := fun g => (Value.slice A5 s2.whole.length c5).ownBlock = some g) (n := s2.whole.length) (xs := vis s2.whole) (by rfl) (Hhown5.out _) (G := fun g => g = w2.heap.size) (y := .slice (some ⟨w2.heap.size, 0, none⟩) 1 1) (m := 1) (news := [.int .i64 id]) (by rfl) ?xa1 (by intro u hu; simp at hu; subst hu; rfl) (by omega) (by decide) ?xa4)) | ((with_reducible refine wp_region_por ?_ ?_ ?_ ?_); kernel_rfl; kernel_rfl; (with_reducible repeat (first | exact calm_ret | refine calm_then ?_ | refine calm_in ?_ | refine calm_chk ?_ | refine calm_noGoto ?_))) | ((with_reducible refine chk_end ?_ ?_); kernel_rfl))
          case xa1 => exact Rd.box _ #[.int .i64 id] _ (by simp) rfl (by decide)
          case xa4 =>
            intro v1 w3 hown hmod hlt
            obtain ⟨A6, c9, rfl, _, _⟩ := hown.form
            obtain ⟨q1, q2, hK3, hM3⟩ := Hhfin5.out _ _ w3 hown hmod hlt
            have Hhown := Lib.hid hown
            clear hown
            have Hhmod := Lib.hid hmod
            clear hmod
            have Hhlt := Lib.hid hlt
            clear hlt
            have HhK3 := Lib.hid hK3
            clear hK3
            have HhM3 := Lib.hid hM3
            clear hM3
            go_wp2_with (first | ((with_reducible refine wp_region_por ?_ ?_ ?_ ?_); kernel_rfl; kernel_rfl; (with_reducible repeat (first | exact calm_ret | refine calm_then ?_ | refine calm_in ?_ | refine calm_chk ?_ | refine calm_noGoto ?_))) | ((with_reducible refine chk_end ?_ ?_); kernel_rfl))
            go_ret
            have hfr := Hhfr.out
            rw [if_neg (fun e => absurd e.2 (by omega)), if_pos (by trivial)] at hfr
            rw [hfr]
            exact ⟨rfl, HhK3.out.more (fun g _ e => ext2 (HhM1.out).size (HhM2.out).size e), (HhM1.out.trans HhM2.out fun g _ e => e).then_ ((HhM3.out).mono fun g _ e => ext1 (HhM1.out).size e)⟩
        | false =>
          go_wp2_with (first | (go_at_call 23; (refine ret_use (HHsend2.out) ?_; rintro v w2 ⟨rfl, hK2, hM2⟩; obtain ⟨A5, c5, hn5, h5, hown5, hfin5⟩ := refLost_K w2 q pv s2 _ hK2 id; have Hhown5 := Lib.hid hown5; clear hown5; have Hhfin5 := Lib.hid hfin5; clear hfin5; have HhM2 := Lib.hid hM2; clear hM2; clear hK2)) | (at_builtin; (refine wpList_append _ rfl (.tmp 51) (.tmp 53) 36 rfl 2 (.int .i64 0) 1 8 Tryd.underlying36 infoI64 rfl (by decide) (F := fun g => (Value.slice A5 s2.lost.length c5).ownBlock = some g) (n := s2.lost.length) (xs := vis s2.lost) (by rfl) (Hhown5.out _) (G := fun g => g = w2.heap.size) (y := .slice (some ⟨w2.heap.size, 0, none⟩) 1 1) (m := 1) (news := [.int .i64 id]) (by rfl) ?xb1 (by intro u hu; simp at hu; subst hu; rfl) (by omega) (by decide) ?xb4)) | ((with_reducible refine wp_region_por ?_ ?_ ?_ ?_); kernel_rfl; kernel_rfl; (with_reducible repeat (first | exact calm_ret | refine calm_then ?_ | refine calm_in ?_ | refine calm_chk ?_ | refine calm_noGoto ?_))) | ((with_reducible refine chk_end ?_ ?_); kernel_rfl))
          case xb1 => exact Rd.box _ #[.int .i64 id] _ (by simp) rfl (by decide)
          case xb4 =>
            intro v1 w3 hown hmod hlt
            obtain ⟨A6, c9, rfl, _, _⟩ := hown.form
            obtain ⟨q1, q2, hK3, hM3⟩ := Hhfin5.out _ _ w3 hown hmod hlt
            have Hhown := Lib.hid hown
            clear hown
            have Hhmod := Lib.hid hmod
            clear hmod
            have Hhlt := Lib.hid hlt
            clear hlt
            have HhK3 := Lib.hid hK3
            clear hK3
            have HhM3 := Lib.hid hM3
            clear hM3
            go_wp2_with (first | ((with_reducible refine wp_region_por ?_ ?_ ?_ ?_); kernel_rfl; kernel_rfl; (with_reducible repeat (first | exact calm_ret | refine calm_then ?_ | refine calm_in ?_ | refine calm_chk ?_ | refine calm_noGoto ?_))) | ((with_reducible refine chk_end ?_ ?_); kernel_rfl))
            go_ret
            have hfr := Hhfr.out
            rw [if_neg (fun e => absurd e.2 (by omega)), if_neg (by simp)] at hfr
            rw [hfr]
            exact ⟨rfl, HhK3.out.more (fun g _ e => ext2 (HhM1.out).size (HhM2.out).size e), (HhM1.out.trans HhM2.out fun g _ e => e).then_ ((HhM3.out).mono fun g _ e => ext1 (HhM1.out).size e)⟩
  | false =>
    rw [ha] at c6
    rcases Nat.eq_zero_or_pos b.length with hz | hz
    · have hz' : decide (0 < b.length) = false := by simpa using hz
      have hse := Hhse.out hz
      injection hse with hse1 hse2
      subst hse1 hse2
      obtain ⟨A5, c7, hn5, h5, hown5, hfin5⟩ := refWhole_K _ q pv _ F HhK1.out id
      have HhM2 := Lib.hid (Mods.refl F ((w.setCell ⟨q, 6, none⟩ (.bool true)).setCell ⟨q, 5, none⟩ (.int .i64 id)))
      have h6 : w.cell? ⟨q, 2, none⟩ = some (.slice A5 s.whole.length c7) := by
        rw [← h5]
        exact ((World.cell?_setCell_other (w := w.setCell ⟨q, 6, none⟩ (.bool true)) (a := ⟨q, 5, none⟩) (b := ⟨q, 2, none⟩) (v := .int .i64 id) (by simp)).trans (World.cell?_setCell_other (w := w) (a := ⟨q, 6, none⟩) (b := ⟨q, 2, none⟩) (v := .bool true) (by simp))).symm
      have hn6 : s.whole.length ≤ c7 := hn5
      clear h5 hn5
      have Hhown5 := Lib.hid hown5
      clear hown5
      have Hhfin5 := Lib.hid hfin5
      clear hfin5
      go_wp2_with (first | (at_builtin; (refine wpList_append _ rfl (.tmp 39) (.tmp 41) 36 rfl 2 (.int .i64 0) 1 8 Tryd.underlying36 infoI64 rfl (by decide) (F := fun g => (Value.slice A5 s.whole.length c7).ownBlock = some g) (n := s.whole.length) (xs := vis s.whole) (by rfl) (Hhown5.out _) (G := fun g => g = w.heap.size) (y := .slice (some ⟨w.heap.size, 0, none⟩) 1 1) (m := 1) (news := [.int .i64 id]) (by rfl) ?ye1 (by intro u hu; simp at hu; subst hu; rfl) (by omega) (by decide) ?ye4)) | ((with_reducible refine wp_region_por ?_ ?_ ?_ ?_); kernel_rfl; kernel_rfl; (with_reducible repeat (first | exact calm_ret | refine calm_then ?_ | refine calm_in ?_ | refine calm_chk ?_ | refine calm_noGoto ?_))) | ((with_reducible refine chk_end ?_ ?_); kernel_rfl))
      case ye1 => exact Rd.box _ #[.int .i64 id] _ (by simp) rfl (by decide)
      case ye4 =>
        intro v1 w3 hown hmod hlt
        obtain ⟨A6, c9, rfl, _, _⟩ := hown.form
        obtain ⟨q1, q2, hK3, hM3⟩ := Hhfin5.out _ _ w3 (by simpa [World.setCell] using hown) hmod hlt
        have Hhown := Lib.hid hown
        clear hown
        have Hhmod := Lib.hid hmod
        clear hmod
        have Hhlt := Lib.hid hlt
        clear hlt
        have HhK3 := Lib.hid hK3
        clear hK3
        have HhM3 := Lib.hid hM3
        clear hM3
        go_wp2_with (first | ((with_reducible refine wp_region_por ?_ ?_ ?_ ?_); kernel_rfl; kernel_rfl; (with_reducible repeat (first | exact calm_ret | refine calm_then ?_ | refine calm_in ?_ | refine calm_chk ?_ | refine calm_noGoto ?_))) | ((with_reducible refine chk_end ?_ ?_); kernel_rfl))
        go_ret
        have hfr := Hhfr.out
        rw [if_neg (by rw [ha]; simp), if_pos (by trivial)] at hfr
        rw [hfr]
        exact ⟨rfl, HhK3.out.more (fun g _ e => ext1 (HhM1.out).size e), (HhM1.out.trans HhM2.out fun g _ e => e).then_ ((HhM3.out).mono fun g _ e => .inl e)⟩
    · have hz' : decide (0 < b.length) = true := by simpa using hz
      have HHsend2 := Lib.hid (Hhsend.out hz)
      cases whole with
      | true =>
        go_wp2_with (first | (go_at_call 23; (refine ret_use (HHsend2.out) ?_; rintro v w2 ⟨rfl, hK2, hM2⟩; obtain ⟨A5, c5, hn5, h5, hown5, hfin5⟩ := refWhole_K w2 q pv s2 _ hK2 id; have Hhown5 := Lib.hid hown5; clear hown5; have Hhfin5 := Lib.hid hfin5; clear hfin5; have HhM2 := Lib.hid hM2; clear hM2; clear hK2)) | (at_builtin; (refine wpList_append _ rfl (.tmp 39) (.tmp 41) 36 rfl 2 (.int .i64 0) 1 8 Tryd.underlying36 infoI64 rfl (by decide) (F := fun g => (Value.slice A5 s2.whole.length c5).ownBlock = some g) (n := s2.whole.length) (xs := vis s2.whole) (by rfl) (Hhown5.out _) (G := fun g => g = w2.heap.size) (y := .slice (some ⟨w2.heap.size, 0, none⟩) 1 1) (m := 1) (news := [.int .i64 id]) (by rfl) ?ya1 (by intro u hu; simp at hu; subst hu; rfl) (by omega) (by decide) ?ya4)) | ((with_reducible refine wp_region_por ?_ ?_ ?_ ?_); kernel_rfl; kernel_rfl; (with_reducible repeat (first | exact calm_ret | refine calm_then ?_ | refine calm_in ?_ | refine calm_chk ?_ | refine calm_noGoto ?_))) | ((with_reducible refine chk_end ?_ ?_); kernel_rfl))
        case ya1 => exact Rd.box _ #[.int .i64 id] _ (by simp) rfl (by decide)
        case ya4 =>
          intro v1 w3 hown hmod hlt
          obtain ⟨A6, c9, rfl, _, _⟩ := hown.form
          obtain ⟨q1, q2, hK3, hM3⟩ := Hhfin5.out _ _ w3 hown hmod hlt
          have Hhown := Lib.hid hown
          clear hown
          have Hhmod := Lib.hid hmod
          clear hmod
          have Hhlt := Lib.hid hlt
          clear hlt
          have HhK3 := Lib.hid hK3
          clear hK3
          have HhM3 := Lib.hid hM3
          clear hM3
          go_wp2_with (first | ((with_reducible refine wp_region_por ?_ ?_ ?_ ?_); kernel_rfl; kernel_rfl; (with_reducible repeat (first | exact calm_ret | refine calm_then ?_ | refine calm_in ?_ | refine calm_chk ?_ | refine calm_noGoto ?_))) | ((with_reducible refine chk_end ?_ ?_); kernel_rfl))
          go_ret
          have hfr := Hhfr.out
          rw [if_neg (by rw [ha]; simp), if_pos (by trivial)] at hfr
          rw [hfr]
          exact ⟨rfl, HhK3.out.more (fun g _ e => ext2 (HhM1.out).size (HhM2.out).size e), (HhM1.out.trans HhM2.out fun g _ e => e).then_ ((HhM3.out).mono fun g _ e => ext1 (HhM1.out).size e)⟩
      | false =>
        go_wp2_with (first | (go_at_call 23; (refine ret_use (HHsend2.out) ?_; rintro v w2 ⟨rfl, hK2, hM2⟩; obtain ⟨A5, c5, hn5, h5, hown5, hfin5⟩ := refLost_K w2 q pv s2 _ hK2 id; have Hhown5 := Lib.hid hown5; clear hown5; have Hhfin5 := Lib.hid hfin5; clear hfin5; have HhM2 := Lib.hid hM2; clear hM2; clear hK2)) | (at_builtin; (refine wpList_append _ rfl (.tmp 51) (.tmp 53) 36 rfl 2 (.int .i64 0) 1 8 Tryd.underlying36 infoI64 rfl (by decide) (F := fun g => (Value.slice A5 s2.lost.length c5).ownBlock = some g) (n := s2.lost.length) (xs := vis s2.lost) (by rfl) (Hhown5.out _) (G := fun g => g = w2.heap.size) (y := .slice (some ⟨w2.heap.size, 0, none⟩) 1 1) (m := 1) (news := [.int .i64 id]) (by rfl) ?yb1 (by intro u hu; simp at hu; subst hu; rfl) (by omega) (by decide) ?yb4)) | ((with_reducible refine wp_region_por ?_ ?_ ?_ ?_); kernel_rfl; kernel_rfl; (with_reducible repeat (first | exact calm_ret | refine calm_then ?_ | refine calm_in ?_ | refine calm_chk ?_ | refine calm_noGoto ?_))) | ((with_reducible refine chk_end ?_ ?_); kernel_rfl))
        case yb1 => exact Rd.box _ #[.int .i64 id] _ (by simp) rfl (by decide)
        case yb4 =>
          intro v1 w3 hown hmod hlt
          obtain ⟨A6, c9, rfl, _, _⟩ := hown.form
          obtain ⟨q1, q2, hK3, hM3⟩ := Hhfin5.out _ _ w3 hown hmod hlt
          have Hhown := Lib.hid hown
          clear hown
          have Hhmod := Lib.hid hmod
          clear hmod
          have Hhlt := Lib.hid hlt
          clear hlt
          have HhK3 := Lib.hid hK3
          clear hK3
          have HhM3 := Lib.hid hM3
          clear hM3
          go_wp2_with (first | ((with_reducible refine wp_region_por ?_ ?_ ?_ ?_); kernel_rfl; kernel_rfl; (with_reducible repeat (first | exact calm_ret | refine calm_then ?_ | refine calm_in ?_ | refine calm_chk ?_ | refine calm_noGoto ?_))) | ((with_reducible refine chk_end ?_ ?_); kernel_rfl))
          go_ret
          have hfr := Hhfr.out
          rw [if_neg (by rw [ha]; simp), if_neg (by simp)] at hfr
          rw [hfr]
          exact ⟨rfl, HhK3.out.more (fun g _ e => ext2 (HhM1.out).size (HhM2.out).size e), (HhM1.out.trans HhM2.out fun g _ e => e).then_ ((HhM3.out).mono fun g _ e => ext1 (HhM1.out).size e)⟩
end Go.Proofs.YtmfpgghpnkmkpaaDoor
