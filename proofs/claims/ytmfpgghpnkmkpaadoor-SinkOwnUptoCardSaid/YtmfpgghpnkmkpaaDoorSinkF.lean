/- (*Sink).Frame in memory. -/
import Derived.Test.YtmfpgghpnkmkpaaDoorSinkE
namespace Go.Proofs.YtmfpgghpnkmkpaaDoor
open Go.RowKit Go.Tum
theorem ext1 {F : Nat → Prop} {k n g : Nat} (h : k ≤ n) (e : Ext F n g) : Ext F k g := by
  rcases e with e | e
  · exact .inl e
  · exact .inr (by omega)
theorem ext2 {F : Nat → Prop} {k n m g : Nat} (h : k ≤ n) (h' : n ≤ m) (e : Ext (Ext F n) m g) : Ext F k g := by
  rcases e with e | e
  · exact ext1 h e
  · exact .inr (by omega)
theorem any_K (w : World) (p : Nat) (plan : Plan) (s : SinkS) (ks : List Nat) (F : Nat → Prop) (h : SinkK w p plan s ks F) (id : Int) :
    w.cell? ⟨p, 0, none⟩ = some (.bool true) ∧ w.cell? ⟨p, 3, none⟩ = some (.bool s.any) ∧ w.frozen? ⟨p, 3, none⟩ = false ∧ w.cell? ⟨p, 4, none⟩ = some (.int .i64 s.last) ∧ w.frozen? ⟨p, 4, none⟩ = false ∧
    SinkK ((w.setCell ⟨p, 3, none⟩ (.bool true)).setCell ⟨p, 4, none⟩ (.int .i64 id)) p plan { s with any := true, last := id } ks F ∧ Mods F w ((w.setCell ⟨p, 3, none⟩ (.bool true)).setCell ⟨p, 4, none⟩ (.int .i64 id)) := by
  obtain ⟨col, pv, cv, wv, lv, hp, hF⟩ := h
  have hFp : F p := hF p hp.hdr.lt (by rw [hp.colp]; decide)
  have hm : Mods (fun g => g = p) w ((w.setCell ⟨p, 3, none⟩ (.bool true)).setCell ⟨p, 4, none⟩ (.int .i64 id)) := ((Mods.refl (fun g => g = p) w).setCell ⟨p, 3, none⟩ (.bool true) fun _ => rfl).setCell ⟨p, 4, none⟩ (.int .i64 id) fun _ => rfl
  have hS : ∀ j, j ≠ 1 → ∀ g, g < w.heap.size → g = p → col g ≠ j := by
    rintro j j2 g _ rfl
    rw [hp.colp]; omega
  refine ⟨hp.hdr.at_ 0 rfl, hp.hdr.at_ 3 rfl, hp.hdr.frozen 3, hp.hdr.at_ 4 rfl, hp.hdr.frozen 4, ⟨recol w.heap.size col 0, pv, cv, wv, lv, ⟨?_, by rw [recol_old hp.hdr.lt]; exact hp.colp, hp.plan.keep hm (hS 2 (by omega)), hp.conns.keep hm (hS 3 (by omega)), hp.len, fun i k' c' hi hc => (hp.each i k' c' hi hc).keep hm (hS _ (by omega)), hp.whole.keep hm (hS 4 (by omega)), hp.lost.keep hm (hS 5 (by omega))⟩, fun g hg hc => ?_⟩, hm.mono fun g _ e => e ▸ hFp⟩
  · simpa using (hp.hdr.set_ 3 (.bool true)).set_ 4 (.int .i64 id)
  · rcases Nat.lt_or_ge g w.heap.size with h1 | h1
    · rw [recol_old h1] at hc
      exact hF g h1 hc
    · rw [recol_new h1] at hc
      exact absurd rfl hc
theorem whole_K (w : World) (p : Nat) (plan : Plan) (s : SinkS) (ks : List Nat) (F : Nat → Prop) (h : SinkK w p plan s ks F) (id : Int) :
    ∃ A c, s.whole.length ≤ c ∧ w.cell? ⟨p, 5, none⟩ = some (.slice A s.whole.length c) ∧ (∀ o, Own (w.alloc o) (fun g => (Value.slice A s.whole.length c).ownBlock = some g) 2 1 (.slice A s.whole.length c) s.whole.length (vis s.whole)) ∧
    ∀ o v' w1, Own w1 (fun k => (Value.slice A s.whole.length c).ownBlock = some k ∨ k = w.heap.size + 1) 2 1 v' (s.whole.length + 1) (vis s.whole ++ [.int .i64 id]) → Mods (fun k => (Value.slice A s.whole.length c).ownBlock = some k) (w.alloc o) w1 → (∀ g, v'.ownBlock = some g → g < w1.heap.size) →
      w1.cell? ⟨p, 5, none⟩ = some (.slice A s.whole.length c) ∧ w1.frozen? ⟨p, 5, none⟩ = false ∧ SinkK (w1.setCell ⟨p, 5, none⟩ v') p plan { s with whole := s.whole ++ [id] } ks (Ext F w.heap.size) ∧ Mods F w (w1.setCell ⟨p, 5, none⟩ v') := by
  obtain ⟨col, pv, cv, wv, lv, hp, hF⟩ := h
  have hFp : F p := hF p hp.hdr.lt (by rw [hp.colp]; decide)
  have h0 := hp.whole
  obtain ⟨A, c, rfl, hnc, hcm⟩ := hp.whole.form
  refine ⟨A, c, hnc, hp.hdr.at_ 5 rfl, fun o => h0.tight.same (Same.alloc w o fun k hk => h0.lt k hk), fun o v' w1 hown hmod hlt => ?_⟩
  have hne : (Value.slice A s.whole.length c).ownBlock ≠ some p := h0.ne_cells hp.hdr (by decide)
  have hpW := (hp.hdr.alloc o).mods hmod hne
  have hnp : ∀ g, v'.ownBlock = some g → g ≠ p := fun g hg e => hown.ne_cells hpW (by decide) (e ▸ hg)
  have hm : Mods (fun g => g = p ∨ (Value.slice A s.whole.length c).ownBlock = some g) w (w1.setCell ⟨p, 5, none⟩ v') := ((((Mods.refl _ w).alloc _).trans hmod (fun k _ e => Or.inr e)).setCell ⟨p, 5, none⟩ v' (fun _ => Or.inl rfl))
  have hS : ∀ j, j ≠ 1 → j ≠ 4 → ∀ g, g < w.heap.size → (g = p ∨ (Value.slice A s.whole.length c).ownBlock = some g) → col g ≠ j := by
    rintro j j1 j2 g _ (rfl | e)
    · rw [hp.colp]; omega
    · rw [h0.2 g e]; omega
  have hN : Own (w1.setCell ⟨p, 5, none⟩ v') (fun g => recol w.heap.size col 4 g = 4) 2 1 v' (s.whole ++ [id]).length (vis (s.whole ++ [id])) := by
    have h2 := hown.tight.same (Same.setCell w1 ⟨p, 5, none⟩ v' (fun e => hnp p e rfl))
    refine ⟨by simpa [vis] using h2.1, fun g hg => ?_⟩
    rcases hown.2 g hg with e | e
    · rw [recol_old (h0.lt g e)]; exact h0.2 g e
    · exact recol_new (by omega)
  refine ⟨hpW.at_ 5 rfl, hpW.frozen 5, ⟨recol w.heap.size col 4, pv, cv, v', lv, ⟨?_, by rw [recol_old hp.hdr.lt]; exact hp.colp, hp.plan.keep hm (hS 2 (by omega) (by omega)), hp.conns.keep hm (hS 3 (by omega) (by omega)), hp.len, fun i k' c' hi hc => (hp.each i k' c' hi hc).keep hm (hS _ (by omega) (by omega)), hN, hp.lost.keep hm (hS 5 (by omega) (by omega))⟩, fun g hg hc => ?_⟩, hm.mono fun g hg e => ?_⟩
  · simpa using hpW.set_ 5 v'
  · rcases Nat.lt_or_ge g w.heap.size with h1 | h1
    · rw [recol_old h1] at hc
      exact .inl (hF g h1 hc)
    · exact .inr h1
  · rcases e with rfl | e
    · exact hFp
    · exact hF g hg (by rw [h0.2 g e]; decide)
theorem lost_K (w : World) (p : Nat) (plan : Plan) (s : SinkS) (ks : List Nat) (F : Nat → Prop) (h : SinkK w p plan s ks F) (id : Int) :
    ∃ A c, s.lost.length ≤ c ∧ w.cell? ⟨p, 6, none⟩ = some (.slice A s.lost.length c) ∧ (∀ o, Own (w.alloc o) (fun g => (Value.slice A s.lost.length c).ownBlock = some g) 2 1 (.slice A s.lost.length c) s.lost.length (vis s.lost)) ∧
    ∀ o v' w1, Own w1 (fun k => (Value.slice A s.lost.length c).ownBlock = some k ∨ k = w.heap.size + 1) 2 1 v' (s.lost.length + 1) (vis s.lost ++ [.int .i64 id]) → Mods (fun k => (Value.slice A s.lost.length c).ownBlock = some k) (w.alloc o) w1 → (∀ g, v'.ownBlock = some g → g < w1.heap.size) →
      w1.cell? ⟨p, 6, none⟩ = some (.slice A s.lost.length c) ∧ w1.frozen? ⟨p, 6, none⟩ = false ∧ SinkK (w1.setCell ⟨p, 6, none⟩ v') p plan { s with lost := s.lost ++ [id] } ks (Ext F w.heap.size) ∧ Mods F w (w1.setCell ⟨p, 6, none⟩ v') := by
  obtain ⟨col, pv, cv, wv, lv, hp, hF⟩ := h
  have hFp : F p := hF p hp.hdr.lt (by rw [hp.colp]; decide)
  have h0 := hp.lost
  obtain ⟨A, c, rfl, hnc, hcm⟩ := hp.lost.form
  refine ⟨A, c, hnc, hp.hdr.at_ 6 rfl, fun o => h0.tight.same (Same.alloc w o fun k hk => h0.lt k hk), fun o v' w1 hown hmod hlt => ?_⟩
  have hne : (Value.slice A s.lost.length c).ownBlock ≠ some p := h0.ne_cells hp.hdr (by decide)
  have hpW := (hp.hdr.alloc o).mods hmod hne
  have hnp : ∀ g, v'.ownBlock = some g → g ≠ p := fun g hg e => hown.ne_cells hpW (by decide) (e ▸ hg)
  have hm : Mods (fun g => g = p ∨ (Value.slice A s.lost.length c).ownBlock = some g) w (w1.setCell ⟨p, 6, none⟩ v') := ((((Mods.refl _ w).alloc _).trans hmod (fun k _ e => Or.inr e)).setCell ⟨p, 6, none⟩ v' (fun _ => Or.inl rfl))
  have hS : ∀ j, j ≠ 1 → j ≠ 5 → ∀ g, g < w.heap.size → (g = p ∨ (Value.slice A s.lost.length c).ownBlock = some g) → col g ≠ j := by
    rintro j j1 j2 g _ (rfl | e)
    · rw [hp.colp]; omega
    · rw [h0.2 g e]; omega
  have hN : Own (w1.setCell ⟨p, 6, none⟩ v') (fun g => recol w.heap.size col 5 g = 5) 2 1 v' (s.lost ++ [id]).length (vis (s.lost ++ [id])) := by
    have h2 := hown.tight.same (Same.setCell w1 ⟨p, 6, none⟩ v' (fun e => hnp p e rfl))
    refine ⟨by simpa [vis] using h2.1, fun g hg => ?_⟩
    rcases hown.2 g hg with e | e
    · rw [recol_old (h0.lt g e)]; exact h0.2 g e
    · exact recol_new (by omega)
  refine ⟨hpW.at_ 6 rfl, hpW.frozen 6, ⟨recol w.heap.size col 5, pv, cv, wv, v', ⟨?_, by rw [recol_old hp.hdr.lt]; exact hp.colp, hp.plan.keep hm (hS 2 (by omega) (by omega)), hp.conns.keep hm (hS 3 (by omega) (by omega)), hp.len, fun i k' c' hi hc => (hp.each i k' c' hi hc).keep hm (hS _ (by omega) (by omega)), hp.whole.keep hm (hS 4 (by omega) (by omega)), hN⟩, fun g hg hc => ?_⟩, hm.mono fun g hg e => ?_⟩
  · simpa using hpW.set_ 6 v'
  · rcases Nat.lt_or_ge g w.heap.size with h1 | h1
    · rw [recol_old h1] at hc
      exact .inl (hF g h1 hc)
    · exact .inr h1
  · rcases e with rfl | e
    · exact hFp
    · exact hF g hg (by rw [h0.2 g e]; decide)
set_option maxHeartbeats 1600000 in
set_option maxRecDepth 100000 in
theorem frame_K (w : World) (p : Nat) (plan : Plan) (s : SinkS) (ks : List Nat) (F H : Nat → Prop) (id : Int) (bs : Value) (ea : Addr) (b : List UInt8) (h : SinkK w p plan s ks F)
    (hg : w.cell? ⟨0, 0, none⟩ = some (.iface 94 (.pointer (some ea)))) (h0 : ¬ F 0) (hb : Rd w H 1 bs b.length (vbs b)) (hH : ∀ g, H g → g < w.heap.size ∧ ¬ F g)
    (hplan : plan.length ≤ 1000000000) (b2 : b.length ≤ 2000000) (b3 : ∀ c ∈ s.conns, c.bytes.length ≤ 100000000) (b4 : s.writes ≤ 100000000000) (b5 : s.conns.length ≤ 1000000000) (b6 : s.whole.length ≤ 1000000000) (b7 : s.lost.length ≤ 1000000000) :
    Calls Tryd.prog 12 #[(.pointer (some ⟨p, 0, none⟩)), .int .i64 id, bs] w (Ret fun v w' => v = .int .i64 (frame plan s id b).2 ∧ SendEnd w w' p plan F ((frame plan s id b).1, true)) := by
  obtain ⟨A, c, rfl, hbc, hbm⟩ := hb.form
  clear hbm
  obtain ⟨c0, c3, f3, c4, f4, hK1, hM1⟩ := any_K w p plan s ks F h id
  have hsend := send_K _ p plan _ ks F H (.slice A b.length c) ea b hK1 ((World.cell?_of_block (a := ⟨0, 0, none⟩) (hM1.block _ (World.block_lt_of_cell? w _ hg) h0)).trans hg) h0 (hb.same (hM1.same hH)) (fun g hg => ⟨Nat.lt_of_lt_of_le (hH g hg).1 hM1.size, (hH g hg).2⟩) hplan b2 b3 b4 b5
  have hfr : frame plan s id b = if s.any = true ∧ id ≤ s.last then (s, 180) else (let r := send plan { s with any := true, last := id } b; if r.2 = true then ({ r.1 with whole := r.1.whole ++ [id] }, 0) else ({ r.1 with lost := r.1.lost ++ [id] }, 0)) := rfl
  have hsw : ∀ s0, (send plan s0 b).1.whole = s0.whole ∧ (send plan s0 b).1.lost = s0.lost := fun s0 => by unfold send; split <;> exact ⟨rfl, rfl⟩
  have hsw1 := hsw { s with any := true, last := id }
  have ok1 := ok_some w p true c0
  generalize frame plan s id b = fr at hfr ⊢
  generalize send plan { s with any := true, last := id } b = r at hsend hfr hsw1
  obtain ⟨s2, whole⟩ := r
  dsimp only at hsend hfr hsw1
  have b8 : s2.whole.length ≤ 1000000000 := by rw [hsw1.1]; exact b6
  have b9 : s2.lost.length ≤ 1000000000 := by rw [hsw1.2]; exact b7
  clear hsw
  have Hh := Lib.hid h
  clear h
  have Hhb := Lib.hid hb
  clear hb
  have HhH := Lib.hid hH
  clear hH
  have Hh0 := Lib.hid h0
  clear h0
  have Hb3 := Lib.hid b3
  clear b3
  have HhK1 := Lib.hid hK1
  clear hK1
  have HhM1 := Lib.hid hM1
  clear hM1
  have Hhsend := Lib.hid hsend
  clear hsend
  have Hhfr := Lib.hid hfr
  clear hfr
  have Hhsw1 := Lib.hid hsw1
  clear hsw1
  have Hhg := Lib.hid hg
  clear hg
  go_enter Tryd.func12, Tryd.ntmps12
  cases ha : s.any with
  | true =>
    rw [ha] at c3
    by_cases hle : id ≤ s.last
    · have hle' : decide (id ≤ s.last) = true := decide_eq_true hle
      go_wp2_with (first | (go_at_call 21; (refine ret_use (ok1) ?_; rintro v _ ⟨rfl, rfl⟩)) | ((with_reducible refine wp_region_por ?_ ?_ ?_ ?_); kernel_rfl; kernel_rfl; (with_reducible repeat (first | exact calm_ret | refine calm_then ?_ | refine calm_in ?_ | refine calm_chk ?_ | refine calm_noGoto ?_))) | ((with_reducible refine chk_end ?_ ?_); kernel_rfl))
      go_ret
      have hfr := Hhfr.out
      rw [if_pos ⟨ha, hle⟩] at hfr
      rw [hfr]
      exact ⟨rfl, ks, Hh.out.more (fun g _ e => .inl e), Mods.refl _ _⟩
    · have hle' : decide (id ≤ s.last) = false := decide_eq_false hle
      cases whole with
      | true =>
        go_wp2_with (first | (go_at_call 21; (refine ret_use (ok1) ?_; rintro v _ ⟨rfl, rfl⟩)) | (go_at_call 22; (refine ret_use (Hhsend.out) ?_; rintro v w2 ⟨rfl, ks2, hK2, hM2⟩; obtain ⟨A5, c5, hn5, h5, hown5, hfin5⟩ := whole_K w2 p plan s2 ks2 _ hK2 id; have Hhown5 := Lib.hid hown5; clear hown5; have Hhfin5 := Lib.hid hfin5; clear hfin5; have HhM2 := Lib.hid hM2; clear hM2; clear hK2)) | (at_builtin; (refine wpList_append _ rfl (.tmp 36) (.tmp 38) 36 rfl 2 (.int .i64 0) 1 8 Tryd.underlying36 infoI64 rfl (by decide) (F := fun g => (Value.slice A5 s2.whole.length c5).ownBlock = some g) (n := s2.whole.length) (xs := vis s2.whole) (by rfl) (Hhown5.out _) (G := fun g => g = w2.heap.size) (y := .slice (some ⟨w2.heap.size, 0, none⟩) 1 1) (m := 1) (news := [.int .i64 id]) (by rfl) ?x1a (by intro u hu; simp at hu; subst hu; rfl) (by omega) (by decide) ?x4a)) | ((with_reducible refine wp_region_por ?_ ?_ ?_ ?_); kernel_rfl; kernel_rfl; (with_reducible repeat (first | exact calm_ret | refine calm_then ?_ | refine calm_in ?_ | refine calm_chk ?_ | refine calm_noGoto ?_))) | ((with_reducible refine chk_end ?_ ?_); kernel_rfl))
        case x1a => exact Rd.box _ #[.int .i64 id] _ (by simp) rfl (by decide)
        case x4a =>
          intro v1 w3 hown hmod hlt
          obtain ⟨A6, c6, rfl, _, _⟩ := hown.form
          obtain ⟨q1, q2, hK3, hM3⟩ := Hhfin5.out _ _ w3 hown hmod hlt
          have Hhown := Lib.hid hown
          clear hown
          have Hhmod := Lib.hid hmod
          clear hmod
          have Hhlt := Lib.hid hlt
          clear hlt
          have HhK3 := Lib.hid hK3
          clear hK3
          have HhM3 := Lib.hid hM3
          clear hM3
          go_wp2_with (first | ((with_reducible refine wp_region_por ?_ ?_ ?_ ?_); kernel_rfl; kernel_rfl; (with_reducible repeat (first | exact calm_ret | refine calm_then ?_ | refine calm_in ?_ | refine calm_chk ?_ | refine calm_noGoto ?_))) | ((with_reducible refine chk_end ?_ ?_); kernel_rfl))
          go_ret
          have hfr := Hhfr.out
          rw [if_neg (fun e => absurd e.2 (by omega)), if_pos (by trivial)] at hfr
          rw [hfr]
          exact ⟨rfl, ks2, HhK3.out.more (fun g _ e => ext2 (HhM1.out).size (HhM2.out).size e), (HhM1.out.trans HhM2.out fun g _ e => e).then_ ((HhM3.out).mono fun g _ e => ext1 (HhM1.out).size e)⟩
      | false =>
        go_wp2_with (first | (go_at_call 21; (refine ret_use (ok1) ?_; rintro v _ ⟨rfl, rfl⟩)) | (go_at_call 22; (refine ret_use (Hhsend.out) ?_; rintro v w2 ⟨rfl, ks2, hK2, hM2⟩; obtain ⟨A5, c5, hn5, h5, hown5, hfin5⟩ := lost_K w2 p plan s2 ks2 _ hK2 id; have Hhown5 := Lib.hid hown5; clear hown5; have Hhfin5 := Lib.hid hfin5; clear hfin5; have HhM2 := Lib.hid hM2; clear hM2; clear hK2)) | (at_builtin; (refine wpList_append _ rfl (.tmp 46) (.tmp 48) 36 rfl 2 (.int .i64 0) 1 8 Tryd.underlying36 infoI64 rfl (by decide) (F := fun g => (Value.slice A5 s2.lost.length c5).ownBlock = some g) (n := s2.lost.length) (xs := vis s2.lost) (by rfl) (Hhown5.out _) (G := fun g => g = w2.heap.size) (y := .slice (some ⟨w2.heap.size, 0, none⟩) 1 1) (m := 1) (news := [.int .i64 id]) (by rfl) ?x1b (by intro u hu; simp at hu; subst hu; rfl) (by omega) (by decide) ?x4b)) | ((with_reducible refine wp_region_por ?_ ?_ ?_ ?_); kernel_rfl; kernel_rfl; (with_reducible repeat (first | exact calm_ret | refine calm_then ?_ | refine calm_in ?_ | refine calm_chk ?_ | refine calm_noGoto ?_))) | ((with_reducible refine chk_end ?_ ?_); kernel_rfl))
        case x1b => exact Rd.box _ #[.int .i64 id] _ (by simp) rfl (by decide)
        case x4b =>
          intro v1 w3 hown hmod hlt
          obtain ⟨A6, c6, rfl, _, _⟩ := hown.form
          obtain ⟨q1, q2, hK3, hM3⟩ := Hhfin5.out _ _ w3 hown hmod hlt
          have Hhown := Lib.hid hown
          clear hown
          have Hhmod := Lib.hid hmod
          clear hmod
          have Hhlt := Lib.hid hlt
          clear hlt
          have HhK3 := Lib.hid hK3
          clear hK3
          have HhM3 := Lib.hid hM3
          clear hM3
          go_wp2_with (first | ((with_reducible refine wp_region_por ?_ ?_ ?_ ?_); kernel_rfl; kernel_rfl; (with_reducible repeat (first | exact calm_ret | refine calm_then ?_ | refine calm_in ?_ | refine calm_chk ?_ | refine calm_noGoto ?_))) | ((with_reducible refine chk_end ?_ ?_); kernel_rfl))
          go_ret
          have hfr := Hhfr.out
          rw [if_neg (fun e => absurd e.2 (by omega)), if_neg (by simp)] at hfr
          rw [hfr]
          exact ⟨rfl, ks2, HhK3.out.more (fun g _ e => ext2 (HhM1.out).size (HhM2.out).size e), (HhM1.out.trans HhM2.out fun g _ e => e).then_ ((HhM3.out).mono fun g _ e => ext1 (HhM1.out).size e)⟩
  | false =>
    rw [ha] at c3
    cases whole with
    | true =>
      go_wp2_with (first | (go_at_call 21; (refine ret_use (ok1) ?_; rintro v _ ⟨rfl, rfl⟩)) | (go_at_call 22; (refine ret_use (Hhsend.out) ?_; rintro v w2 ⟨rfl, ks2, hK2, hM2⟩; obtain ⟨A5, c5, hn5, h5, hown5, hfin5⟩ := whole_K w2 p plan s2 ks2 _ hK2 id; have Hhown5 := Lib.hid hown5; clear hown5; have Hhfin5 := Lib.hid hfin5; clear hfin5; have HhM2 := Lib.hid hM2; clear hM2; clear hK2)) | (at_builtin; (refine wpList_append _ rfl (.tmp 36) (.tmp 38) 36 rfl 2 (.int .i64 0) 1 8 Tryd.underlying36 infoI64 rfl (by decide) (F := fun g => (Value.slice A5 s2.whole.length c5).ownBlock = some g) (n := s2.whole.length) (xs := vis s2.whole) (by rfl) (Hhown5.out _) (G := fun g => g = w2.heap.size) (y := .slice (some ⟨w2.heap.size, 0, none⟩) 1 1) (m := 1) (news := [.int .i64 id]) (by rfl) ?y1a (by intro u hu; simp at hu; subst hu; rfl) (by omega) (by decide) ?y4a)) | ((with_reducible refine wp_region_por ?_ ?_ ?_ ?_); kernel_rfl; kernel_rfl; (with_reducible repeat (first | exact calm_ret | refine calm_then ?_ | refine calm_in ?_ | refine calm_chk ?_ | refine calm_noGoto ?_))) | ((with_reducible refine chk_end ?_ ?_); kernel_rfl))
      case y1a => exact Rd.box _ #[.int .i64 id] _ (by simp) rfl (by decide)
      case y4a =>
        intro v1 w3 hown hmod hlt
        obtain ⟨A6, c6, rfl, _, _⟩ := hown.form
        obtain ⟨q1, q2, hK3, hM3⟩ := Hhfin5.out _ _ w3 hown hmod hlt
        have Hhown := Lib.hid hown
        clear hown
        have Hhmod := Lib.hid hmod
        clear hmod
        have Hhlt := Lib.hid hlt
        clear hlt
        have HhK3 := Lib.hid hK3
        clear hK3
        have HhM3 := Lib.hid hM3
        clear hM3
        go_wp2_with (first | ((with_reducible refine wp_region_por ?_ ?_ ?_ ?_); kernel_rfl; kernel_rfl; (with_reducible repeat (first | exact calm_ret | refine calm_then ?_ | refine calm_in ?_ | refine calm_chk ?_ | refine calm_noGoto ?_))) | ((with_reducible refine chk_end ?_ ?_); kernel_rfl))
        go_ret
        have hfr := Hhfr.out
        rw [if_neg (by rw [ha]; simp), if_pos (by trivial)] at hfr
        rw [hfr]
        exact ⟨rfl, ks2, HhK3.out.more (fun g _ e => ext2 (HhM1.out).size (HhM2.out).size e), (HhM1.out.trans HhM2.out fun g _ e => e).then_ ((HhM3.out).mono fun g _ e => ext1 (HhM1.out).size e)⟩
    | false =>
      go_wp2_with (first | (go_at_call 21; (refine ret_use (ok1) ?_; rintro v _ ⟨rfl, rfl⟩)) | (go_at_call 22; (refine ret_use (Hhsend.out) ?_; rintro v w2 ⟨rfl, ks2, hK2, hM2⟩; obtain ⟨A5, c5, hn5, h5, hown5, hfin5⟩ := lost_K w2 p plan s2 ks2 _ hK2 id; have Hhown5 := Lib.hid hown5; clear hown5; have Hhfin5 := Lib.hid hfin5; clear hfin5; have HhM2 := Lib.hid hM2; clear hM2; clear hK2)) | (at_builtin; (refine wpList_append _ rfl (.tmp 46) (.tmp 48) 36 rfl 2 (.int .i64 0) 1 8 Tryd.underlying36 infoI64 rfl (by decide) (F := fun g => (Value.slice A5 s2.lost.length c5).ownBlock = some g) (n := s2.lost.length) (xs := vis s2.lost) (by rfl) (Hhown5.out _) (G := fun g => g = w2.heap.size) (y := .slice (some ⟨w2.heap.size, 0, none⟩) 1 1) (m := 1) (news := [.int .i64 id]) (by rfl) ?y1b (by intro u hu; simp at hu; subst hu; rfl) (by omega) (by decide) ?y4b)) | ((with_reducible refine wp_region_por ?_ ?_ ?_ ?_); kernel_rfl; kernel_rfl; (with_reducible repeat (first | exact calm_ret | refine calm_then ?_ | refine calm_in ?_ | refine calm_chk ?_ | refine calm_noGoto ?_))) | ((with_reducible refine chk_end ?_ ?_); kernel_rfl))
      case y1b => exact Rd.box _ #[.int .i64 id] _ (by simp) rfl (by decide)
      case y4b =>
        intro v1 w3 hown hmod hlt
        obtain ⟨A6, c6, rfl, _, _⟩ := hown.form
        obtain ⟨q1, q2, hK3, hM3⟩ := Hhfin5.out _ _ w3 hown hmod hlt
        have Hhown := Lib.hid hown
        clear hown
        have Hhmod := Lib.hid hmod
        clear hmod
        have Hhlt := Lib.hid hlt
        clear hlt
        have HhK3 := Lib.hid hK3
        clear hK3
        have HhM3 := Lib.hid hM3
        clear hM3
        go_wp2_with (first | ((with_reducible refine wp_region_por ?_ ?_ ?_ ?_); kernel_rfl; kernel_rfl; (with_reducible repeat (first | exact calm_ret | refine calm_then ?_ | refine calm_in ?_ | refine calm_chk ?_ | refine calm_noGoto ?_))) | ((with_reducible refine chk_end ?_ ?_); kernel_rfl))
        go_ret
        have hfr := Hhfr.out
        rw [if_neg (by rw [ha]; simp), if_neg (by simp)] at hfr
        rw [hfr]
        exact ⟨rfl, ks2, HhK3.out.more (fun g _ e => ext2 (HhM1.out).size (HhM2.out).size e), (HhM1.out.trans HhM2.out fun g _ e => e).then_ ((HhM3.out).mono fun g _ e => ext1 (HhM1.out).size e)⟩
end Go.Proofs.YtmfpgghpnkmkpaaDoor
