/- The law SinkOwn, walked. -/
import Derived.Test.YtmfpgghpnkmkpaaDoorSinkOx
namespace Go.Proofs.YtmfpgghpnkmkpaaDoor
open Go.RowKit Go.Tum
set_option maxHeartbeats 16000000 in
set_option maxRecDepth 100000 in
theorem sinkOwn_K (w : World) (ea : Addr) (hg : w.cell? ⟨0, 0, none⟩ = some (.iface 94 (.pointer (some ea)))) (pv lv : Value) (plan : Plan) (L : List (Value × List UInt8))
    (hp : Rd w (OldOf w) 2 pv plan.length (planCells plan)) (hl : Rd w (OldOf w) 1 lv L.length (L.map (·.1))) (hr : ∀ a ∈ L, Rd w (OldOf w) 1 a.1 a.2.length (vbs a.2))
    (np : plan.length ≤ 1048576) (nl : L.length ≤ 1048576) (nw : (L.map fun a => a.2.length + 1).sum ≤ 1048576) :
    Calls Tryd.prog 9 #[pv, lv] w (Ret fun v w' => v = .bool true ∧ Mods No w w') := by
  have lg := World.block_lt_of_cell? w _ hg
  have hgk : ∀ W, Mods No w W → W.cell? ⟨0, 0, none⟩ = some (.iface 94 (.pointer (some ea))) := fun W hm => (World.cell?_of_block (a := ⟨0, 0, none⟩) (hm.block _ lg fun e => e)).trans hg
  have haw := fun W hm => awake_K W ea (hgk W hm)
  obtain ⟨Ap, cp, rfl, _, _⟩ := hp.form
  obtain ⟨Al, cl, rfl, _, _⟩ := hl.form
  have np' : plan.length ≤ 1000000000 := by omega
  have hb0 : ∀ i, Bnd (after plan (L.map (·.2)) i) 1048576 := fun i => (after_bnd plan (L.map (·.2)) i).le (by simpa [List.map_map, Function.comp_def] using nw)
  have hnm := fun i hi => named plan (L.map (·.2)) i hi
  have Hhgk := Lib.hid hgk
  clear hgk
  have Hhg := Lib.hid hg
  clear hg
  have Hhaw := Lib.hid haw
  clear haw
  have Hhp := Lib.hid hp
  clear hp
  have Hhl := Lib.hid hl
  clear hl
  have Hhr := Lib.hid hr
  clear hr
  have Hnw := Lib.hid nw
  clear nw
  have Hhb0 := Lib.hid hb0
  clear hb0
  have Hhnm := Lib.hid hnm
  clear hnm
  go_enter Tryd.func9, Tryd.ntmps9
  go_wp2_with (first | (at_builtin; go_loud (refine wpList_append _ rfl (.tmp 19) (.tmp 20) 22 rfl 60 (.agg #[.int .i64 0, .bool false]) 2 16 Tryd.underlying22 infoChoice rfl (by decide) (F := fun g => g = w.heap.size) (n := 0) (xs := []) (by rfl) ?c1 (G := OldOf w) (y := .slice Ap plan.length cp) (m := plan.length) (news := planCells plan) (by rfl) ?c2 (planCells_one plan) (by omega) (by decide) ?c4)) | ((with_reducible refine wp_region_por ?_ ?_ ?_ ?_); kernel_rfl; kernel_rfl; (with_reducible repeat (first | exact calm_ret | refine calm_then ?_ | refine calm_in ?_ | refine calm_chk ?_ | refine calm_noGoto ?_))) | ((with_reducible refine chk_end ?_ ?_); kernel_rfl))
  case c1 => exact ⟨World.ownsRow_made w #[] 0 (Nat.zero_le _) (Nat.zero_le _) rfl, fun g hg => by injection hg with hg; exact hg.symm⟩
  case c2 => exact Hhp.out.same (Same.alloc w _ fun g hg => hg)
  case c4 =>
    intro v1 w1 hown hmod hlt
    have ho : Own w1 (fun g => w.heap.size ≤ g) 60 2 v1 plan.length (planCells plan) := by
      have := hown
      try simp only [Nat.zero_add, List.nil_append] at this
      refine ⟨this.1, fun g hg => ?_⟩
      rcases this.2 g hg with e | e
      · simp only [Value.ownBlock, Option.some.injEq] at e; omega
      · first | omega | (simp at e; omega)
    have m1 : Mods No w w1 := ((Mods.refl No w).alloc _).trans hmod fun k hk e => by simp only [Value.ownBlock, Option.some.injEq] at e; omega
    obtain ⟨Bp, yp, rfl, hnc, _⟩ := ho.form
    have hvb : ∀ g, (Value.slice Bp plan.length yp).ownBlock = some g → w.heap.size ≤ g ∧ g < w1.heap.size := fun g hg => ⟨ho.2 g hg, ho.lt g hg⟩
    have hpr : Rd w1 (OldOf w1) 2 (.slice Bp plan.length yp) plan.length (planCells plan) := Rd.of_own ho.1 fun g hg => ho.lt g hg
    have hz1 := m1.size
    clear hown hmod hlt
    have Hho := Lib.hid ho
    clear ho
    have Hm1 := Lib.hid m1
    clear m1
    have Hhvb := Lib.hid hvb
    clear hvb
    have Hhpr := Lib.hid hpr
    clear hpr
    go_wp2_with (first | (go_at_call 11; go_loud (refine ret_use (refNew_S _ Ap plan.length cp) ?_; rintro v w4 ⟨q, G1, rfl, hf, hm⟩; have HM4 := Lib.hid (Mods.trans (T := No) (by repeat (first | exact HM3.out | apply Mods.drew | apply Mods.alloc)) hm (fun _ _ e => e)); have Hs4 := Lib.hid (Hs3.out.keep (w' := w4) (Mods.trans (T := No) (by repeat (first | exact Mods.refl _ _ | apply Mods.drew | apply Mods.alloc)) hm (fun _ _ e => e))); have Hd4 := Lib.hid (show ∀ gg, F1 gg → ¬ G1 gg from fun gg h1 h2 => by have := (Hs3.out.lt gg h1).2; have := (hf.lt gg h2).1; (try simp at this); omega); have Hf4 := Lib.hid (hf.low (n1 := w1.heap.size) (by have := HM3.out.size; simpa using this)); clear hf hm)) | (go_at_call 16; go_loud (refine ret_use (Hhaw.out _ (Hm1.out.trans (by repeat (first | exact HM2.out | apply Mods.drew | apply Mods.alloc)) (fun _ _ e ↦ e))) ?_; rintro v w3 ⟨rfl, hm⟩; have HM3 := Lib.hid (Mods.trans (T := No) (by repeat (first | exact HM2.out | apply Mods.drew | apply Mods.alloc)) hm (fun _ _ e => e)); have Hs3 := Lib.hid (Hs2.out.keep (w' := w3) (Mods.trans (T := No) (by repeat (first | exact Mods.refl _ _ | apply Mods.drew | apply Mods.alloc)) hm (fun _ _ e => e))); clear hm)) | (go_at_call 10; go_loud (refine ret_use (new_S w1 (OldOf w1) (.slice Bp plan.length yp) plan Hhpr.out (fun gg hg ↦ hg) np') ?_; rintro v w2 ⟨p, F1, rfl, hs, hm⟩; have Hs2 := Lib.hid hs; have HM2 := Lib.hid hm; clear hs hm)) | ((with_reducible refine wp_region_por ?_ ?_ ?_ ?_); kernel_rfl; kernel_rfl; (with_reducible repeat (first | exact calm_ret | refine calm_then ?_ | refine calm_in ?_ | refine calm_chk ?_ | refine calm_noGoto ?_))) | ((with_reducible refine chk_end ?_ ?_); kernel_rfl))
    have ho4 : Own w4 (fun g => (Value.slice Bp plan.length yp).ownBlock = some g) 60 2 (.slice Bp plan.length yp) plan.length (planCells plan) := Hho.out.tight.same (HM4.out.same fun g hg => ⟨(Hhvb.out g hg).2, fun e => e⟩)
    have Hho4 := Lib.hid ho4
    clear ho4
    go_loopg [34] (plan.length + 1) (fun kk v34 wr => ∃ i xs, v34 = .int .i64 (i : Nat) ∧ kk + i = plan.length + 1 ∧ i ≤ plan.length ∧ Own wr (fun g => (Value.slice Bp plan.length yp).ownBlock = some g) 60 2 (.slice Bp plan.length yp) plan.length xs ∧ Mods (fun g => (Value.slice Bp plan.length yp).ownBlock = some g) w4 wr)
    case atStart => exact ⟨0, _, rfl, rfl, Nat.zero_le _, Hho4.out.same (fun _ _ => rfl), (Mods.refl _ _)⟩
    case round =>
      obtain ⟨i, xs, rfl, hk, hi, hown, hm0⟩ := hrel
      rcases Nat.lt_or_ge i plan.length with hlt | hge
      · have hlt' : decide (i < plan.length) = true := decide_eq_true hlt
        obtain ⟨gb, cb, e0, hgb, _, hcell⟩ := hown.cells (by omega)
        injection e0 with e0 _ e0'
        subst e0 e0'
        have hx0 := hcell (i * 2) (by omega)
        have hx1 := hcell (i * 2 + 1) (by omega)
        obtain ⟨u0, hu0⟩ : ∃ u, xs[i * 2]? = some u := ⟨_, List.getElem?_eq_getElem (by rw [hown.1.1]; omega)⟩
        obtain ⟨u1, hu1⟩ : ∃ u, xs[i * 2 + 1]? = some u := ⟨_, List.getElem?_eq_getElem (by rw [hown.1.1]; omega)⟩
        have c0 := hx0.1.trans hu0
        have f0 := hx0.2
        have c1 := hx1.1.trans hu1
        have f1 := hx1.2
        have hon := (hown.set (g := gb) rfl (i * 2) (.int .i64 1)).set (g := gb) rfl (i * 2 + 1) (.bool true)
        have hmn := ((hm0.setCell ⟨gb, i * 2, none⟩ (.int .i64 1) fun _ => rfl).setCell ⟨gb, i * 2 + 1, none⟩ (.bool true) fun _ => rfl)
        clear hcell hx0 hx1 hu0 hu1 hown hm0
        have Hhon := Lib.hid hon
        clear hon
        have Hhmn := Lib.hid hmn
        clear hmn
        go_wp2_with (first | ((with_reducible refine wp_region_por ?_ ?_ ?_ ?_); kernel_rfl; kernel_rfl; (with_reducible repeat (first | exact calm_ret | refine calm_then ?_ | refine calm_in ?_ | refine calm_chk ?_ | refine calm_noGoto ?_))) | ((with_reducible refine chk_end ?_ ?_); kernel_rfl))
        go_roundg (plan.length - i)
        case rel => exact ⟨i + 1, _, by go_num, by omega, by omega, Hhon.out, Hhmn.out⟩
        case measure => omega
      · have hlt' : decide (i < plan.length) = false := decide_eq_false (by omega)
        have hmw : Mods No w wr := (Hm1.out.trans HM4.out fun _ _ e => e).trans hm0 fun g hg e => by have := (Hhvb.out g e).1; omega
        have hs5 := Hs4.out.same hm0 fun g hg e => by have := (Hs4.out.lt g hg).1; have := (Hhvb.out g e).2; omega
        have hf5 := Hf4.out.same hm0 fun g hg e => by have := (Hf4.out.lt g hg).1; have := (Hhvb.out g e).2; omega
        clear hown hm0
        have Hhmw := Lib.hid hmw
        clear hmw
        have Hhs5 := Lib.hid hs5
        clear hs5
        have Hhf5 := Lib.hid hf5
        clear hf5
        go_wp2_with (first | ((with_reducible refine wp_region_por ?_ ?_ ?_ ?_); kernel_rfl; kernel_rfl; (with_reducible repeat (first | exact calm_ret | refine calm_then ?_ | refine calm_in ?_ | refine calm_chk ?_ | refine calm_noGoto ?_))) | ((with_reducible refine chk_end ?_ ?_); kernel_rfl))
        go_loopg [9] (L.length + 1) (fun kk v9 wx => ∃ i F G, v9 = .int .i64 (i : Nat) ∧ kk + i = L.length + 1 ∧ i ≤ L.length ∧ Snk wx p plan (after plan (L.map (·.2)) i) F w1.heap.size ∧ Rfs wx q (.slice Ap plan.length cp) (after plan (L.map (·.2)) i) G w1.heap.size ∧ (∀ g, F g → ¬ G g) ∧ Mods No w wx)
        case atStart => exact ⟨0, F1, G1, rfl, rfl, Nat.zero_le _, Hhs5.out, Hhf5.out, Hd4.out, Hhmw.out⟩
        case round =>
          obtain ⟨i, F, G, rfl, hk, hi, hsn, hrf, hdj, hm0⟩ := hrel
          have hB := Hhb0.out i
          rcases Nat.lt_or_ge i L.length with hlt | hge
          · have hlt' : decide (i < L.length) = true := decide_eq_true hlt
            obtain ⟨⟨bv, b⟩, ha⟩ : ∃ a, L[i]? = some a := ⟨_, List.getElem?_eq_getElem hlt⟩
            obtain ⟨g0, o0, y0, e0, hg0, hx⟩ := Hhl.out.at1 (i := i) hlt
            injection e0 with e0 _ e0'
            subst e0 e0'
            have hb := Hhr.out _ (List.mem_of_getElem? ha)
            dsimp only at hb
            obtain ⟨Ab, cb, rfl, _, _⟩ := hb.form
            have hxk : ∀ W, Mods No w W → W.cell? ⟨g0, o0 + i, none⟩ = some (.slice Ab b.length cb) := fun W hm => (World.cell?_of_block (a := ⟨g0, o0 + i, none⟩) (hm.block g0 hg0 fun e => e)).trans (by rw [hx]; simp [ha])
            have x0 := hxk wr hm0
            have x0l : g0 < wr.heap.size := Nat.lt_of_lt_of_le hg0 hm0.size
            have hai : (L.map (·.2))[i]? = some b := by simp [ha]
            have hnb : b.length ≤ 1048576 := by
              have h1 : b.length + 1 ≤ (L.map fun a => a.2.length + 1).sum := sum_mem (List.mem_map.2 ⟨_, List.mem_of_getElem? ha, rfl⟩)
              have := Hnw.out
              omega
            have hnb2 : b.length ≤ 2000000 := by omega
            have hnb3 : b.length ≤ 1000000000 := by omega
            have hnx := (Hhnm.out i (by simpa using hi)).next (plan := plan) hai
            have hsu := after_succ plan (L.map (·.2)) i b hai
            have hB2 := Hhb0.out (i + 1)
            rw [hsu] at hB2
            generalize hst : after plan (L.map (·.2)) i = s1 at hsn hrf hnx hsu hB hB2
            generalize hfr : frame plan s1 i b = r at hnx hsu hB2
            obtain ⟨s2, e⟩ := r
            obtain ⟨_, he⟩ := hnx
            dsimp only at he hsu hB2
            subst he
            have hzw := hm0.size
            have HM := Lib.hid hm0
            have HsN := Lib.hid hsn
            have HrF := Lib.hid hrf
            clear hx ha hm0 hsn hrf hai
            have Hhxk := Lib.hid hxk
            clear hxk
            have Hhb := Lib.hid hb
            clear hb
            have Hhsu := Lib.hid hsu
            clear hsu
            have Hhst := Lib.hid hst
            clear hst
            have Hhfr := Lib.hid hfr
            clear hfr
            have HhB := Lib.hid hB
            clear hB
            have HhB2 := Lib.hid hB2
            clear hB2
            have Hhdj := Lib.hid hdj
            clear hdj
            go_wp2_with (first | (at_builtin; go_loud (refine wpList_append _ rfl (.tmp 48) (.tmp 52) 30 rfl 5 (.int .u8 0) 1 1 Tryd.underlying30 infoU8 rfl (by decide) (F := fun g => g = wr.heap.size) (n := 0) (xs := []) (by rfl) ?d1 (G := OldOf w) (y := .slice Ab b.length cb) (m := b.length) (news := vbs b) (by rfl) ?d2 (vbs_one b) (by omega) (by decide) ?d4)) | ((with_reducible refine wp_region_por ?_ ?_ ?_ ?_); kernel_rfl; kernel_rfl; (with_reducible repeat (first | exact calm_ret | refine calm_then ?_ | refine calm_in ?_ | refine calm_chk ?_ | refine calm_noGoto ?_))) | ((with_reducible refine chk_end ?_ ?_); kernel_rfl))
            case d1 => exact ⟨World.ownsRow_made wr #[] 0 (Nat.zero_le _) (Nat.zero_le _) rfl, fun g hg => by injection hg with hg; exact hg.symm⟩
            case d2 => exact Hhb.out.same ((HM.out.alloc _).same fun g hg => ⟨hg, fun e => e⟩)
            case d4 =>
              intro v2 w6 hown hmod hlt6
              have ho6 : Own w6 (fun g => wr.heap.size ≤ g) 5 1 v2 b.length (vbs b) := by
                have := hown
                try simp only [Nat.zero_add, List.nil_append] at this
                refine ⟨this.1, fun g hg => ?_⟩
                rcases this.2 g hg with e | e
                · simp only [Value.ownBlock, Option.some.injEq] at e; omega
                · first | omega | (simp at e; omega)
              have m6 : Mods No wr w6 := ((Mods.refl No wr).alloc _).trans hmod fun k hk e => by simp only [Value.ownBlock, Option.some.injEq] at e; omega
              obtain ⟨Bv, yv, rfl, hvc, _⟩ := ho6.form
              have hvl : ∀ g, (Value.slice Bv b.length yv).ownBlock = some g → wr.heap.size ≤ g ∧ g < w6.heap.size := fun g hg => ⟨ho6.2 g hg, ho6.lt g hg⟩
              have hbr : Rd w6 (fun g => (Value.slice Bv b.length yv).ownBlock = some g) 1 (.slice Bv b.length yv) b.length (vbs b) := Rd.of_own ho6.1 fun g hg => hg
              have HM6 := Lib.hid (HM.out.trans m6 fun _ _ e => e)
              have Hs6 := Lib.hid (HsN.out.keep m6)
              have Hf6 := Lib.hid (HrF.out.keep m6)
              have hvF : ∀ g, (Value.slice Bv b.length yv).ownBlock = some g → g < w6.heap.size ∧ ¬ F g := fun g hg => ⟨(hvl g hg).2, fun e => by have := (HsN.out.lt g e).2; have := (hvl g hg).1; omega⟩
              clear hown hmod hlt6 m6 x0
              have Hho6 := Lib.hid ho6
              clear ho6
              have Hhvl := Lib.hid hvl
              clear hvl
              have Hhbr := Lib.hid hbr
              clear hbr
              have HhvF := Lib.hid hvF
              clear hvF
              go_wp2_with (first | (go_at_call 12; go_loud (refine ret_use (frame_S _ p w1.heap.size plan s1 F (fun gg ↦ (Value.slice Bv b.length yv).ownBlock = some gg) i (.slice Bv b.length yv) ea b 1048576 (Hs6.out.keep (by repeat (first | exact Mods.refl _ _ | apply Mods.drew | apply Mods.alloc))) (Hhgk.out _ (by repeat (first | exact HM6.out | apply Mods.drew | apply Mods.alloc))) (by omega) Hhbr.out HhvF.out np' hnb2 HhB.out (by decide)) ?_; rintro v w7 hpost; rw [Hhfr.out] at hpost; obtain ⟨rfl, F7, hs7, hF7, hm, _⟩ := hpost; have Hs7 := Lib.hid hs7; have HM7 := Lib.hid (mods_new (by repeat (first | exact HM6.out | apply Mods.drew | apply Mods.alloc)) hm (fun gg hg e => by have := (Hs6.out.lt gg e).1; omega)); have Hf7 := Lib.hid (Hf6.out.same (w' := w7) (Mods.trans (S := F) (T := F) (a := w6) (by repeat (first | exact Mods.refl _ _ | apply Mods.drew | apply Mods.alloc)) hm (fun _ _ e => e)) (fun gg h1 h2 => Hhdj.out gg h2 h1)); have HF7 := Lib.hid hF7; have Ho7 := Lib.hid (Hho6.out.tight.same (w' := w7) (fun gg hg => hm.block gg (HhvF.out gg hg).1 (HhvF.out gg hg).2)); have HD7 := Lib.hid (show ∀ gg, F7 gg → ¬ G gg from fun gg h1 h2 => by rcases hF7 gg h1 with h3 | h3; exact Hhdj.out gg h3 h2; (have := (Hf6.out.lt gg h2).2; (try simp at h3); omega)); clear hs7 hF7 hm)) | ((with_reducible refine wp_region_por ?_ ?_ ?_ ?_); kernel_rfl; kernel_rfl; (with_reducible repeat (first | exact calm_ret | refine calm_then ?_ | refine calm_in ?_ | refine calm_chk ?_ | refine calm_noGoto ?_))) | ((with_reducible refine chk_end ?_ ?_); kernel_rfl))
              go_loopg [61] (b.length + 1) (fun kk v61 wx => ∃ j ys, v61 = .int .i64 (j : Nat) ∧ kk + j = b.length + 1 ∧ j ≤ b.length ∧ Own wx (fun g => (Value.slice Bv b.length yv).ownBlock = some g) 5 1 (.slice Bv b.length yv) b.length ys ∧ Mods (fun g => (Value.slice Bv b.length yv).ownBlock = some g) w7 wx)
              case atStart => exact ⟨0, _, rfl, rfl, Nat.zero_le _, Ho7.out.same (fun _ _ => rfl), (Mods.refl _ _)⟩
              case round =>
                obtain ⟨j, ys, rfl, hkj, hj, hown, hm0⟩ := hrel
                rcases Nat.lt_or_ge j b.length with hltj | hgej
                · have hltj' : decide (j < b.length) = true := decide_eq_true hltj
                  obtain ⟨gb, cb2, e0, hgb, _, hcell⟩ := hown.cells (by omega)
                  injection e0 with e0 _ e0'
                  subst e0 e0'
                  have hx0 := hcell j (by omega)
                  obtain ⟨u0, hu0⟩ : ∃ u, ys[j]? = some u := ⟨_, List.getElem?_eq_getElem (by rw [hown.1.1]; omega)⟩
                  have c0 := hx0.1.trans hu0
                  have f0 := hx0.2
                  have hon := hown.set (g := gb) rfl j (.int .u8 35)
                  have hmn := hm0.setCell ⟨gb, j, none⟩ (.int .u8 35) fun _ => rfl
                  clear hcell hx0 hu0 hown hm0
                  have Hhon := Lib.hid hon
                  clear hon
                  have Hhmn := Lib.hid hmn
                  clear hmn
                  go_wp2_with (first | ((with_reducible refine wp_region_por ?_ ?_ ?_ ?_); kernel_rfl; kernel_rfl; (with_reducible repeat (first | exact calm_ret | refine calm_then ?_ | refine calm_in ?_ | refine calm_chk ?_ | refine calm_noGoto ?_))) | ((with_reducible refine chk_end ?_ ?_); kernel_rfl))
                  go_roundg (b.length - j)
                  case rel => exact ⟨j + 1, _, by go_num, by omega, by omega, Hhon.out, Hhmn.out⟩
                  case measure => omega
                · have hltj' : decide (j < b.length) = false := decide_eq_false (by omega)
                  have HM8 := Lib.hid (HM7.out.trans hm0 fun gg hg e => by have := (Hhvl.out gg e).1; omega)
                  have Hs8 := Lib.hid (Hs7.out.same hm0 fun gg hg e => by rcases HF7.out gg hg with h | h; exact (HhvF.out gg e).2 h; have := (Hhvl.out gg e).2; omega)
                  have Hf8 := Lib.hid (Hf7.out.same hm0 fun gg hg e => by have := (HrF.out.lt gg hg).2; have := (Hhvl.out gg e).1; omega)
                  have x8 := Hhxk.out wr HM8.out
                  clear hown hm0
                  go_wp2_with (first | (go_at_call 15; go_loud (refine ret_use (report_S _ p w1.heap.size _ s2 F7 1048576 (Hs9.out.keep (by repeat (first | exact Mods.refl _ _ | apply Mods.drew | apply Mods.alloc))) HhB2.out (by decide)) ?_; rintro v w10 hrep; obtain ⟨col, cv, wv, kv, bvs, rfl, hm, hj0⟩ := junk_new hrep; obtain ⟨Ac, cc, rfl, _, _⟩ := hj0.rep.conns.form; obtain ⟨Aw, cw, rfl, _, _⟩ := hj0.rep.whole.form; obtain ⟨A3, c3, rfl, _, _⟩ := hj0.rep.lost.form; have HM10 := Lib.hid (Mods.trans (S := No) (T := No) (a := w9) (by repeat (first | exact Mods.refl _ _ | apply Mods.drew | apply Mods.alloc)) hm (fun _ _ e => e)); have HJ0 := Lib.hid hj0; clear hrep hm hj0)) | (go_at_call 13; go_loud (refine ret_use (refFrame_S _ q w1.heap.size (.slice Ap plan.length cp) plan s1 G (OldOf w) i (.slice Ab b.length cb) b 1048576 (Hf8.out.keep (by repeat (first | exact Mods.refl _ _ | apply Mods.drew | apply Mods.alloc))) (Hhp.out.old (by repeat (first | exact HM8.out | apply Mods.drew | apply Mods.alloc))) (Hhb.out.old (by repeat (first | exact HM8.out | apply Mods.drew | apply Mods.alloc))) (fun gg hg ↦ Nat.lt_of_lt_of_le hg hz1) np' hnb2 HhB.out (by decide)) ?_; rintro v w9 hpost; rw [Hhfr.out] at hpost; obtain ⟨rfl, G9, hf9, hG9, hm⟩ := hpost; have Hf9 := Lib.hid hf9; have Hs9 := Lib.hid (Hs8.out.same (w' := w9) (Mods.trans (S := G) (T := G) (a := wr) (by repeat (first | exact Mods.refl _ _ | apply Mods.drew | apply Mods.alloc)) hm (fun _ _ e => e)) HD7.out); have HM9 := Lib.hid (mods_new (by repeat (first | exact HM8.out | apply Mods.drew | apply Mods.alloc)) hm (fun gg hg e => by have := (Hf8.out.lt gg e).1; omega)); have HD9 := Lib.hid (show ∀ gg, F7 gg → ¬ G9 gg from fun gg h1 h2 => by rcases hG9 gg h2 with h3 | h3; exact HD7.out gg h1 h3; (have := (Hs8.out.lt gg h1).2; (try simp at h3); omega)); clear hf9 hG9 hm)) | ((with_reducible refine wp_region_por ?_ ?_ ?_ ?_); kernel_rfl; kernel_rfl; (with_reducible repeat (first | exact calm_ret | refine calm_then ?_ | refine calm_in ?_ | refine calm_chk ?_ | refine calm_noGoto ?_))) | ((with_reducible refine chk_end ?_ ?_); kernel_rfl))
                  have hjj : Junk (w10.alloc (.cells #[.slice Ac s2.conns.length cc, .slice Aw s2.whole.length cw, .slice A3 s2.lost.length c3, .int .i64 s2.writes] 38)) w9.heap.size w10.heap.size col s2 (.slice Ac s2.conns.length cc) (.slice Aw s2.whole.length cw) (.slice A3 s2.lost.length c3) bvs := HJ0.out
                  have hMW := HM10.out.alloc (.cells #[.slice Ac s2.conns.length cc, .slice Aw s2.whole.length cw, .slice A3 s2.lost.length c3, .int .i64 s2.writes] 38)
                  generalize hW : w10.alloc (.cells #[.slice Ac s2.conns.length cc, .slice Aw s2.whole.length cw, .slice A3 s2.lost.length c3, .int .i64 s2.writes] 38) = W at hjj hMW ⊢
                  generalize hkd : w10.heap.size = kd at hjj ⊢
                  have hsz0 : Sz s2 s2.conns.length 1048576 := ⟨rfl, HhB2.out.whole, HhB2.out.lost, HhB2.out.each⟩
                  have hnc := HhB2.out.conns
                  clear hW hkd
                  have Hhjj := Lib.hid hjj
                  clear hjj
                  have HhMW := Lib.hid hMW
                  clear hMW
                  have Hhsz0 := Lib.hid hsz0
                  clear hsz0
                  go_loopg [80] (s2.conns.length + 1) (fun kk v80 wx => ∃ k col s' cv wv kv bvs, v80 = .int .i64 (k : Nat) ∧ kk + k = s2.conns.length + 1 ∧ k ≤ s2.conns.length ∧ Junk wx w9.heap.size kd col s' cv wv kv bvs ∧ Sz s' s2.conns.length (1048576 + 9 * k) ∧ Mods No w9 wx)
                  case atStart => exact ⟨0, _, _, _, _, _, _, rfl, rfl, Nat.zero_le _, Hhjj.out, Hhsz0.out.le (by omega), HhMW.out⟩
                  case round =>
                    obtain ⟨k, col, s', cv, wv, kv, bvs, rfl, hkk, hkn, hju, hsz, hm0⟩ := hrel
                    have bx0 := hju.box.at_ 0 rfl
                    have hJw := hm0.size
                    rcases Nat.lt_or_ge k s2.conns.length with hltk | hgek
                    · have hltk' : decide (k < s2.conns.length) = true := decide_eq_true hltk
                      have hcl := hsz.conns
                      obtain ⟨c, hc⟩ : ∃ c, s'.conns[k]? = some c := ⟨_, List.getElem?_eq_getElem (by omega)⟩
                      obtain ⟨bv, hbv⟩ : ∃ bv, bvs[k]? = some bv := ⟨_, List.getElem?_eq_getElem (by rw [hju.rep.len]; omega)⟩
                      obtain ⟨gc, cc, ecv, xgc, hgl, hJgc, hkg, hgk, _⟩ := hju.app hJw hc hbv
                      rw [hcl] at ecv
                      subst ecv
                      obtain ⟨Bb, yb, rfl, hby, _⟩ := (hju.rep.each k bv c hbv hc).form
                      have hlb : c.bytes.length ≤ 100000000 := by have := hsz.each c (List.mem_of_getElem? hc); omega
                      have Hju := Lib.hid hju
                      have Hsz := Lib.hid hsz
                      have HMk := Lib.hid hm0
                      have Hc := Lib.hid hc
                      have Hbv := Lib.hid hbv
                      clear hju hsz hm0 hc hbv hcl
                      go_wp2_with (first | ((with_reducible refine wp_region_por ?_ ?_ ?_ ?_); kernel_rfl; kernel_rfl; (with_reducible repeat (first | exact calm_ret | refine calm_then ?_ | refine calm_in ?_ | refine calm_chk ?_ | refine calm_noGoto ?_))) | ((with_reducible refine chk_end ?_ ?_); kernel_rfl))
                      go_loopg [90] (c.bytes.length + 1) (fun kk v90 wx => ∃ j s'', v90 = .int .i64 (j : Nat) ∧ kk + j = c.bytes.length + 1 ∧ j ≤ c.bytes.length ∧ Junk wx w9.heap.size kd col s'' (.slice (some ⟨gc, 0, none⟩) s2.conns.length cc) wv kv bvs ∧ Sz s'' s2.conns.length (1048576 + 9 * k) ∧ (∃ c', s''.conns[k]? = some c' ∧ c'.bytes.length = c.bytes.length) ∧ Mods No w9 wx)
                      case atStart => exact ⟨0, s', rfl, rfl, Nat.zero_le _, Hju.out, Hsz.out, ⟨c, Hc.out, rfl⟩, HMk.out⟩
                      case round =>
                        obtain ⟨j, s'', rfl, hkj2, hj2, hju, hsz, ⟨c', hc', hlc⟩, hm0⟩ := hrel
                        have by0 := hju.box.at_ 0 rfl
                        have hcl := hsz.conns
                        have hJw2 := hm0.size
                        obtain ⟨gc', cc', ecv, ygc, hgl2, _, _, _, _⟩ := hju.app hJw2 hc' Hbv.out
                        injection ecv with ecv en ec
                        injection ecv with ecv
                        injection ecv with ecv _ _
                        subst ecv
                        clear en ec
                        rcases Nat.lt_or_ge j c.bytes.length with hltb | hgeb
                        · have hltb' : decide (j < c.bytes.length) = true := decide_eq_true hltb
                          obtain ⟨gb, cb3, x, eb, xgb, fgb, hJgb, hjn⟩ := hju.byte hc' Hbv.out (j := j) (by omega)
                          injection eb with eb en eb'
                          subst eb eb'
                          clear en
                          have hszn := hsz.put k (c := { c' with bytes := c'.bytes.set j 63 }) (by have := hsz.each c' (List.mem_of_getElem? hc'); simpa using this)
                          have hcn : ∃ c9, (s''.conns.set k { c' with bytes := c'.bytes.set j 63 })[k]? = some c9 ∧ c9.bytes.length = c.bytes.length := ⟨{ c' with bytes := c'.bytes.set j 63 }, by rw [List.getElem?_set, if_pos rfl, if_pos (by omega)], by simpa using hlc⟩
                          have hmn := hm0.trans (T := fun g => g = gb) ((Mods.refl _ wr).setCell ⟨gb, j, none⟩ (.int .u8 63) fun _ => rfl) fun g hg e => by omega
                          clear hju hsz hm0 hc' hlc hcl
                          have Hhjn := Lib.hid hjn
                          clear hjn
                          have Hhszn := Lib.hid hszn
                          clear hszn
                          have Hhcn := Lib.hid hcn
                          clear hcn
                          have Hhmn := Lib.hid hmn
                          clear hmn
                          go_wp2_with (first | ((with_reducible refine wp_region_por ?_ ?_ ?_ ?_); kernel_rfl; kernel_rfl; (with_reducible repeat (first | exact calm_ret | refine calm_then ?_ | refine calm_in ?_ | refine calm_chk ?_ | refine calm_noGoto ?_))) | ((with_reducible refine chk_end ?_ ?_); kernel_rfl))
                          go_roundg (c.bytes.length - j)
                          case rel => exact ⟨j + 1, _, by go_num, by omega, by omega, Hhjn.out, Hhszn.out, Hhcn.out, Hhmn.out⟩
                          case measure => omega
                        · have hltb' : decide (j < c.bytes.length) = false := decide_eq_false (by omega)
                          have Hju2 := Lib.hid hju
                          have Hsz2 := Lib.hid hsz
                          have HMk2 := Lib.hid hm0
                          clear hju hsz hm0 hc' hlc hcl
                          go_wp2_with (first | ((with_reducible refine wp_region_por ?_ ?_ ?_ ?_); kernel_rfl; kernel_rfl; (with_reducible repeat (first | exact calm_ret | refine calm_then ?_ | refine calm_in ?_ | refine calm_chk ?_ | refine calm_noGoto ?_))) | ((with_reducible refine chk_end ?_ ?_); kernel_rfl))
                          go_loopg [15] 10 (fun kk v15 wx => ∃ t col s'' bvs, v15 = .int .i64 (t : Nat) ∧ kk + t = 10 ∧ t ≤ 9 ∧ Junk wx w9.heap.size kd col s'' (.slice (some ⟨gc, 0, none⟩) s2.conns.length cc) wv kv bvs ∧ Sz s'' s2.conns.length (1048576 + 9 * k + t) ∧ Mods No w9 wx)
                          case atStart => exact ⟨0, _, _, _, rfl, rfl, by omega, Hju2.out, Hsz2.out.le (by omega), HMk2.out⟩
                          case round =>
                            obtain ⟨t, col, s3, bvs, rfl, hkt, ht, hju, hsz, hm0⟩ := hrel
                            have bz0 := hju.box.at_ 0 rfl
                            have hJw3 := hm0.size
                            rcases Nat.lt_or_ge t 9 with hltt | hget
                            · have hltt' : decide (t < 9) = true := decide_eq_true hltt
                              have hltt2 : decide ((t : Int) < 9) = true := decide_eq_true (by omega)
                              have hcl3 := hsz.conns
                              obtain ⟨c3', hc3⟩ : ∃ c, s3.conns[k]? = some c := ⟨_, List.getElem?_eq_getElem (by omega)⟩
                              obtain ⟨bv3, hbv3⟩ : ∃ bv, bvs[k]? = some bv := ⟨_, List.getElem?_eq_getElem (by rw [hju.rep.len]; omega)⟩
                              obtain ⟨gd, cd, ecv, zgc, hgl3, hJg3, hkg3, hgk3, ⟨tg, csg, hcg⟩, hng, hnk, hown3, hfin3⟩ := hju.drew.app hJw3 hc3 hbv3
                              injection ecv with ecv en ec
                              injection ecv with ecv
                              injection ecv with ecv _ _
                              subst ecv
                              clear en ec
                              obtain ⟨B3, y3, rfl, hby3, _⟩ := (hju.rep.each k bv3 c3' hbv3 hc3).form
                              have hlb3 : c3'.bytes.length ≤ 100000000 := by have := hsz.each c3' (List.mem_of_getElem? hc3); omega
                              have hszn := (hsz.le (show 1048576 + 9 * k + t ≤ 1048576 + 9 * k + (t + 1) by omega)).put k (c := { c3' with bytes := c3'.bytes ++ [33] }) (by have := hsz.each c3' (List.mem_of_getElem? hc3); simp; omega)
                              have hbxd := hju.drew.box
                              have HM5 := Lib.hid hm0
                              clear hju hsz hm0 hc3 hbv3 hcl3
                              have Hhown3 := Lib.hid hown3
                              clear hown3
                              have Hhfin3 := Lib.hid hfin3
                              clear hfin3
                              have Hhszn := Lib.hid hszn
                              clear hszn
                              have Hhbxd := Lib.hid hbxd
                              clear hbxd
                              have Hhcg := Lib.hid hcg
                              clear hcg
                              have Hhng := Lib.hid hng
                              clear hng
                              have Hhnk := Lib.hid hnk
                              clear hnk
                              go_wp2_with (first | ((with_reducible refine wp_region_two 35 (fun g => g = kd ∨ g = gc) [1, 4, 8] 9 10 ?_ ?_ ?_ ?_ ?_); kernel_rfl; kernel_rfl; kernel_rfl; (with_reducible repeat (first | exact calm_ret | refine calm_then ?_ | refine calm_in ?_ | refine calm_chk ?_ | refine calm_noGoto ?_)); simp only [List.drop_succ_cons, List.drop_zero, List.take_succ_cons, List.take_zero]) | (with_reducible refine segEnd ?_) | (refine And.intro (Keep.two ((Mods.refl No wr.drew).alloc _) Hhbxd.out (fun e => e) Hhcg.out (fun e => e)) ?_) | (refine And.intro (True.intro) ?_) | ((with_reducible refine chkM_end (fun g => g = kd ∨ g = gc) ?_ [(.pointer (some ⟨kd, 0, none⟩)), (.pointer (some ⟨kd, 0, none⟩)), .pointer (some ⟨gc, k * 2, none⟩)] ?_ ?_ ?_); kernel_rfl; kernel_rfl; (intro v hv x hx; simp only [List.mem_cons, List.not_mem_nil, or_false] at hv; rcases hv with rfl | rfl | rfl <;> (injection hx with hx; injection hx with hx; subst hx; simp))) | (at_builtin; go_loud (refine wpList_append _ rfl (.tmp 114) (.tmp 115) 30 rfl 5 (.int .u8 0) 1 1 Tryd.underlying30 infoU8 rfl (by decide) (F := fun g => (Value.slice B3 c3'.bytes.length y3).ownBlock = some g) (n := c3'.bytes.length) (xs := vbs c3'.bytes) (by rfl) (Hhown3.out _) (G := fun g => g = wr.heap.size) (y := .slice (some ⟨wr.heap.size, 0, none⟩) 1 1) (m := 1) (news := [.int .u8 33]) (by rfl) ?e1 (by intro u hu; simp at hu; subst hu; rfl) (by omega) (by decide) ?e4)) | ((with_reducible refine wp_region_por ?_ ?_ ?_ ?_); kernel_rfl; kernel_rfl; (with_reducible repeat (first | exact calm_ret | refine calm_then ?_ | refine calm_in ?_ | refine calm_chk ?_ | refine calm_noGoto ?_))) | ((with_reducible refine chk_end ?_ ?_); kernel_rfl))
                              case e1 => exact Rd.box _ #[.int .u8 33] _ (by simp) rfl (by decide)
                              case e4 =>
                                intro v1 w5 hownN hmodN hltN
                                obtain ⟨z1, z2, z3, z4, col', hj'⟩ := Hhfin3.out _ v1 w5 hownN hmodN hltN
                                obtain ⟨B4, y4, rfl, _, _⟩ := hownN.form
                                have hmn := HM5.out.drew.trans z4 fun g hg e => by omega
                                have hkd5 := Hhbxd.out.alloc (.cells #[.int .u8 33] 5)
                                have hcg5 := Hhcg.out.alloc (.cells #[.int .u8 33] 5)
                                clear hownN hltN z4
                                have HhmodN := Lib.hid hmodN
                                clear hmodN
                                have Hhj' := Lib.hid hj'
                                clear hj'
                                have Hhmn := Lib.hid hmn
                                clear hmn
                                have Hhkd5 := Lib.hid hkd5
                                clear hkd5
                                have Hhcg5 := Lib.hid hcg5
                                clear hcg5
                                go_wp2_with (first | ((with_reducible refine wp_region_two 35 (fun g => g = kd ∨ g = gc) [1, 4, 8] 9 10 ?_ ?_ ?_ ?_ ?_); kernel_rfl; kernel_rfl; kernel_rfl; (with_reducible repeat (first | exact calm_ret | refine calm_then ?_ | refine calm_in ?_ | refine calm_chk ?_ | refine calm_noGoto ?_)); simp only [List.drop_succ_cons, List.drop_zero, List.take_succ_cons, List.take_zero]) | (with_reducible refine segEnd ?_) | (refine And.intro (Keep.two HhmodN.out Hhkd5.out Hhnk.out Hhcg5.out Hhng.out) ?_) | (refine And.intro (True.intro) ?_) | ((with_reducible refine chkM_end (fun g => g = kd ∨ g = gc) ?_ [(.pointer (some ⟨kd, 0, none⟩)), (.pointer (some ⟨kd, 0, none⟩)), .pointer (some ⟨gc, k * 2, none⟩)] ?_ ?_ ?_); kernel_rfl; kernel_rfl; (intro v hv x hx; simp only [List.mem_cons, List.not_mem_nil, or_false] at hv; rcases hv with rfl | rfl | rfl <;> (injection hx with hx; injection hx with hx; subst hx; simp))) | ((with_reducible refine wp_region_por ?_ ?_ ?_ ?_); kernel_rfl; kernel_rfl; (with_reducible repeat (first | exact calm_ret | refine calm_then ?_ | refine calm_in ?_ | refine calm_chk ?_ | refine calm_noGoto ?_))) | ((with_reducible refine chk_end ?_ ?_); kernel_rfl))
                                go_roundg (9 - t)
                                case rel => exact ⟨t + 1, col', _, _, by go_num, by omega, by omega, Hhj'.out, Hhszn.out, Hhmn.out⟩
                                case measure => omega
                            · have hltt' : decide (t < 9) = false := decide_eq_false (by omega)
                              have hltt2 : decide ((t : Int) < 9) = false := decide_eq_false (by omega)
                              have Hju6 := Lib.hid hju
                              have Hsz6 := Lib.hid hsz
                              have HM5 := Lib.hid hm0
                              clear hju hsz hm0
                              go_wp2_with (first | ((with_reducible refine wp_region_por ?_ ?_ ?_ ?_); kernel_rfl; kernel_rfl; (with_reducible repeat (first | exact calm_ret | refine calm_then ?_ | refine calm_in ?_ | refine calm_chk ?_ | refine calm_noGoto ?_))) | ((with_reducible refine chk_end ?_ ?_); kernel_rfl))
                              go_roundg (s2.conns.length - k)
                              case rel => exact ⟨k + 1, _, _, _, _, _, _, by go_num, by omega, by omega, Hju6.out, Hsz6.out.le (by omega), HM5.out⟩
                              case measure => omega
                    · have hltk' : decide (k < s2.conns.length) = false := decide_eq_false (by omega)
                      have HjA := Lib.hid hju
                      have HsA := Lib.hid (hsz.le (show 1048576 + 9 * k ≤ 20000000 by omega))
                      have HmA := Lib.hid hm0
                      obtain ⟨Bw1, yw1, rfl, hyw, _⟩ := hju.rep.whole.form
                      obtain ⟨Bl1, yl1, rfl, hyl, _⟩ := hju.rep.lost.form
                      have bx1 := hju.box.at_ 1 rfl
                      clear hju hsz hm0 bx0
                      go_wp2_with (first | ((with_reducible refine wp_region_por ?_ ?_ ?_ ?_); kernel_rfl; kernel_rfl; (with_reducible repeat (first | exact calm_ret | refine calm_then ?_ | refine calm_in ?_ | refine calm_chk ?_ | refine calm_noGoto ?_))) | ((with_reducible refine chk_end ?_ ?_); kernel_rfl))
                      have hwb := HsA.out.whole
                      have hlb2 := HsA.out.lost
                      go_loopg [123] (s'.whole.length + 1) (fun kk v wx => ∃ j s'', v = .int .i64 (j : Nat) ∧ kk + j = s'.whole.length + 1 ∧ j ≤ s'.whole.length ∧ Junk wx w9.heap.size kd col s'' cv (.slice Bw1 s'.whole.length yw1) (.slice Bl1 s'.lost.length yl1) bvs ∧ Sz s'' s2.conns.length 20000000 ∧ s''.whole.length = s'.whole.length ∧ s''.lost.length = s'.lost.length ∧ Mods No w9 wx)
                      case atStart => exact ⟨0, _, rfl, rfl, Nat.zero_le _, HjA.out, HsA.out, rfl, rfl, HmA.out⟩
                      case round =>
                        obtain ⟨j, s'', rfl, hkj2, hj2, hju, hsz, hl1, hl2, hm0⟩ := hrel
                        have by1 := hju.box.at_ 1 rfl
                        have hfb := hsz.whole
                        rcases Nat.lt_or_ge j s'.whole.length with hltb | hgeb
                        · have hltb' : decide (j < s'.whole.length) = true := decide_eq_true hltb
                          obtain ⟨gb, cb3, x, eb, xgb, fgb, hJgb, hjn⟩ := hju.whole (j := j) (by omega)
                          injection eb with eb en eb'
                          subst eb eb'
                          clear en
                          have hszn : Sz { s'' with whole := s''.whole.set j (-1) } s2.conns.length 20000000 := ⟨hsz.conns, by simpa using hsz.whole, hsz.lost, hsz.each⟩
                          have hmn := hm0.trans (T := fun g => g = gb) ((Mods.refl _ wr).setCell ⟨gb, j, none⟩ (.int .i64 (-1)) fun _ => rfl) fun g hg e => by omega
                          have Hl1 := Lib.hid hl1
                          have Hl2 := Lib.hid hl2
                          clear hju hsz hm0 hl1 hl2 hfb
                          have Hhjn := Lib.hid hjn
                          clear hjn
                          have Hhszn := Lib.hid hszn
                          clear hszn
                          have Hhmn := Lib.hid hmn
                          clear hmn
                          go_wp2_with (first | ((with_reducible refine wp_region_por ?_ ?_ ?_ ?_); kernel_rfl; kernel_rfl; (with_reducible repeat (first | exact calm_ret | refine calm_then ?_ | refine calm_in ?_ | refine calm_chk ?_ | refine calm_noGoto ?_))) | ((with_reducible refine chk_end ?_ ?_); kernel_rfl))
                          go_roundg (s'.whole.length - j)
                          case rel => exact ⟨j + 1, _, by go_num, by omega, by omega, Hhjn.out, Hhszn.out, (by simpa using Hl1.out), Hl2.out, Hhmn.out⟩
                          case measure => omega
                        · have hltb' : decide (j < s'.whole.length) = false := decide_eq_false (by omega)
                          have by2 := hju.box.at_ 2 rfl
                          have HjB := Lib.hid hju
                          have HsB := Lib.hid hsz
                          have HmB := Lib.hid hm0
                          have HlB1 := Lib.hid hl1
                          have HlB2 := Lib.hid hl2
                          clear hju hsz hm0 hl1 hl2 hfb
                          go_wp2_with (first | ((with_reducible refine wp_region_por ?_ ?_ ?_ ?_); kernel_rfl; kernel_rfl; (with_reducible repeat (first | exact calm_ret | refine calm_then ?_ | refine calm_in ?_ | refine calm_chk ?_ | refine calm_noGoto ?_))) | ((with_reducible refine chk_end ?_ ?_); kernel_rfl))
                          go_loopg [134] (s'.lost.length + 1) (fun kk v wx => ∃ j s'', v = .int .i64 (j : Nat) ∧ kk + j = s'.lost.length + 1 ∧ j ≤ s'.lost.length ∧ Junk wx w9.heap.size kd col s'' cv (.slice Bw1 s'.whole.length yw1) (.slice Bl1 s'.lost.length yl1) bvs ∧ Sz s'' s2.conns.length 20000000 ∧ s''.whole.length = s'.whole.length ∧ s''.lost.length = s'.lost.length ∧ Mods No w9 wx)
                          case atStart => exact ⟨0, _, rfl, rfl, Nat.zero_le _, HjB.out, HsB.out, HlB1.out, HlB2.out, HmB.out⟩
                          case round =>
                            obtain ⟨j, s'', rfl, hkj2, hj2, hju, hsz, hl1, hl2, hm0⟩ := hrel
                            have by1 := hju.box.at_ 2 rfl
                            have hfb := hsz.lost
                            rcases Nat.lt_or_ge j s'.lost.length with hltb | hgeb
                            · have hltb' : decide (j < s'.lost.length) = true := decide_eq_true hltb
                              obtain ⟨gb, cb3, x, eb, xgb, fgb, hJgb, hjn⟩ := hju.lost (j := j) (by omega)
                              injection eb with eb en eb'
                              subst eb eb'
                              clear en
                              have hszn : Sz { s'' with lost := s''.lost.set j (-1) } s2.conns.length 20000000 := ⟨hsz.conns, hsz.whole, by simpa using hsz.lost, hsz.each⟩
                              have hmn := hm0.trans (T := fun g => g = gb) ((Mods.refl _ wr).setCell ⟨gb, j, none⟩ (.int .i64 (-1)) fun _ => rfl) fun g hg e => by omega
                              have Hl1 := Lib.hid hl1
                              have Hl2 := Lib.hid hl2
                              clear hju hsz hm0 hl1 hl2 hfb
                              have Hhjn := Lib.hid hjn
                              clear hjn
                              have Hhszn := Lib.hid hszn
                              clear hszn
                              have Hhmn := Lib.hid hmn
                              clear hmn
                              go_wp2_with (first | ((with_reducible refine wp_region_por ?_ ?_ ?_ ?_); kernel_rfl; kernel_rfl; (with_reducible repeat (first | exact calm_ret | refine calm_then ?_ | refine calm_in ?_ | refine calm_chk ?_ | refine calm_noGoto ?_))) | ((with_reducible refine chk_end ?_ ?_); kernel_rfl))
                              go_roundg (s'.lost.length - j)
                              case rel => exact ⟨j + 1, _, by go_num, by omega, by omega, Hhjn.out, Hhszn.out, Hl1.out, (by simpa using Hl2.out), Hhmn.out⟩
                              case measure => omega
                            · have hltb' : decide (j < s'.lost.length) = false := decide_eq_false (by omega)
                              have by2 := hju.box.at_ 2 rfl
                              have HjC := Lib.hid hju
                              have HsC := Lib.hid hsz
                              have HmC := Lib.hid hm0
                              have HlC1 := Lib.hid hl1
                              have HlC2 := Lib.hid hl2
                              clear hju hsz hm0 hl1 hl2 hfb
                              go_wp2_with (first | ((with_reducible refine wp_region_por ?_ ?_ ?_ ?_); kernel_rfl; kernel_rfl; (with_reducible repeat (first | exact calm_ret | refine calm_then ?_ | refine calm_in ?_ | refine calm_chk ?_ | refine calm_noGoto ?_))) | ((with_reducible refine chk_end ?_ ?_); kernel_rfl))
                              go_loopg [18] 10 (fun kk v wx => ∃ t col s'' cv wv kv bvs, v = .int .i64 (t : Nat) ∧ kk + t = 10 ∧ t ≤ 9 ∧ Junk wx w9.heap.size kd col s'' cv wv kv bvs ∧ Sz s'' s2.conns.length (20000000 + t) ∧ Mods No w9 wx)
                              case atStart => exact ⟨0, _, _, _, _, _, _, rfl, rfl, by omega, HjC.out, HsC.out.le (by omega), HmC.out⟩
                              case round =>
                                obtain ⟨t, col, s3, cv, wv, kv, bvs, rfl, hkt, ht, hju, hsz, hm0⟩ := hrel
                                have hJw3 := hm0.size
                                rcases Nat.lt_or_ge t 9 with hltt | hget
                                · have hltt' : decide (t < 9) = true := decide_eq_true hltt
                                  have hltt2 : decide ((t : Int) < 9) = true := decide_eq_true (by omega)
                                  have bz1 := hju.box.at_ 1 rfl
                                  have hwl3 : s3.whole.length ≤ 100000000 := by have := hsz.whole; omega
                                  have hll3 : s3.lost.length ≤ 100000000 := by have := hsz.lost; omega
                                  have hszn : Sz { s3 with whole := s3.whole ++ [-2], lost := s3.lost ++ [-2] } s2.conns.length (20000000 + (t + 1)) := ⟨hsz.conns, by have := hsz.whole; simp; omega, by have := hsz.lost; simp; omega, fun c hc => Nat.le_trans (hsz.each c hc) (by omega)⟩
                                  obtain ⟨A7, c7, rfl, hnc7, hown7, hfin7⟩ := hju.appW hJw3
                                  have HM5 := Lib.hid hm0
                                  clear hju hsz hm0
                                  have Hhown7 := Lib.hid hown7
                                  clear hown7
                                  have Hhfin7 := Lib.hid hfin7
                                  clear hfin7
                                  have Hhszn := Lib.hid hszn
                                  clear hszn
                                  go_wp2_with (first | (at_builtin; go_loud (refine wpList_append _ rfl (.tmp 147) (.tmp 148) 36 rfl 2 (.int .i64 0) 1 8 Tryd.underlying36 infoI64 rfl (by decide) (F := fun g => (Value.slice A7 s3.whole.length c7).ownBlock = some g) (n := s3.whole.length) (xs := vis s3.whole) (by rfl) (Hhown7.out _) (G := fun g => g = wr.heap.size) (y := .slice (some ⟨wr.heap.size, 0, none⟩) 1 1) (m := 1) (news := [.int .i64 (-2)]) (by rfl) ?f1 (by intro u hu; simp at hu; subst hu; rfl) (by omega) (by decide) ?f4)) | ((with_reducible refine wp_region_por ?_ ?_ ?_ ?_); kernel_rfl; kernel_rfl; (with_reducible repeat (first | exact calm_ret | refine calm_then ?_ | refine calm_in ?_ | refine calm_chk ?_ | refine calm_noGoto ?_))) | ((with_reducible refine chk_end ?_ ?_); kernel_rfl))
                                  case f1 => exact Rd.box _ #[.int .i64 (-2)] _ (by simp) rfl (by decide)
                                  case f4 =>
                                    intro v1 w5 hownN hmodN hltN
                                    obtain ⟨z1, z2, z4, col', hj'⟩ := Hhfin7.out _ v1 w5 hownN hmodN hltN
                                    obtain ⟨B4, y4, rfl, _, _⟩ := hownN.form
                                    have hmn := HM5.out.trans z4 fun g hg e => by omega
                                    have hJw4 := hmn.size
                                    have bq2 : w5.cell? ⟨kd, 2, none⟩ = some kv := (World.cell?_setCell_other (w := w5) (a := ⟨kd, 1, none⟩) (b := ⟨kd, 2, none⟩) (v := .slice B4 (s3.whole.length + 1) y4) (by simp)).symm.trans (hj'.box.at_ 2 rfl)
                                    obtain ⟨A8, c8, rfl, hnc8, hown8, hfin8⟩ := hj'.appL hJw4
                                    clear hownN hltN z4 hmodN
                                    have Hhj' := Lib.hid hj'
                                    clear hj'
                                    have Hhmn := Lib.hid hmn
                                    clear hmn
                                    have Hhown8 := Lib.hid hown8
                                    clear hown8
                                    have Hhfin8 := Lib.hid hfin8
                                    clear hfin8
                                    go_wp2_with (first | (at_builtin; go_loud (refine wpList_append _ rfl (.tmp 152) (.tmp 153) 36 rfl 2 (.int .i64 0) 1 8 Tryd.underlying36 infoI64 rfl (by decide) (F := fun g => (Value.slice A8 s3.lost.length c8).ownBlock = some g) (n := s3.lost.length) (xs := vis s3.lost) (by rfl) (Hhown8.out _) (G := fun g => g = w5.heap.size) (y := .slice (some ⟨w5.heap.size, 0, none⟩) 1 1) (m := 1) (news := [.int .i64 (-2)]) (by rfl) ?g1 (by intro u hu; simp at hu; subst hu; rfl) (by omega) (by decide) ?g4)) | ((with_reducible refine wp_region_por ?_ ?_ ?_ ?_); kernel_rfl; kernel_rfl; (with_reducible repeat (first | exact calm_ret | refine calm_then ?_ | refine calm_in ?_ | refine calm_chk ?_ | refine calm_noGoto ?_))) | ((with_reducible refine chk_end ?_ ?_); kernel_rfl))
                                    case g1 => exact Rd.box _ #[.int .i64 (-2)] _ (by simp [World.setCell]) rfl (by decide)
                                    case g4 =>
                                      intro v2 w8 hownM hmodM hltM
                                      obtain ⟨z5, z6, z8, col2, hj2⟩ := Hhfin8.out _ v2 w8 (by simpa [World.setCell] using hownM) hmodM hltM
                                      obtain ⟨B5, y5, rfl, _, _⟩ := hownM.form
                                      have hmn2 := Hhmn.out.trans z8 fun g hg e => by omega
                                      clear hownM hltM z8 hmodM
                                      have Hhj2 := Lib.hid hj2
                                      clear hj2
                                      have Hhmn2 := Lib.hid hmn2
                                      clear hmn2
                                      go_wp2_with (first | ((with_reducible refine wp_region_por ?_ ?_ ?_ ?_); kernel_rfl; kernel_rfl; (with_reducible repeat (first | exact calm_ret | refine calm_then ?_ | refine calm_in ?_ | refine calm_chk ?_ | refine calm_noGoto ?_))) | ((with_reducible refine chk_end ?_ ?_); kernel_rfl))
                                      go_roundg (9 - t)
                                      case rel => exact ⟨t + 1, col2, _, _, _, _, _, by go_num, by omega, by omega, Hhj2.out, Hhszn.out, Hhmn2.out⟩
                                      case measure => omega
                                · have hltt' : decide (t < 9) = false := decide_eq_false (by omega)
                                  have hltt2 : decide ((t : Int) < 9) = false := decide_eq_false (by omega)
                                  have HM5 := Lib.hid hm0
                                  clear hju hsz hm0
                                  go_wp2_with (first | ((with_reducible refine wp_region_por ?_ ?_ ?_ ?_); kernel_rfl; kernel_rfl; (with_reducible repeat (first | exact calm_ret | refine calm_then ?_ | refine calm_in ?_ | refine calm_chk ?_ | refine calm_noGoto ?_))) | ((with_reducible refine chk_end ?_ ?_); kernel_rfl))
                                  go_roundg (L.length - i)
                                  case rel => exact ⟨i + 1, F7, G9, by go_num, by omega, by omega, by rw [Hhsu.out]; exact Hs9.out.keep (by repeat (first | exact HM5.out | apply Mods.drew)), by rw [Hhsu.out]; exact Hf9.out.keep (by repeat (first | exact HM5.out | apply Mods.drew)), HD9.out, HM9.out.trans (by repeat (first | exact HM5.out | apply Mods.drew)) (fun _ _ e => e)⟩
                                  case measure => omega
          · have hlt' : decide (i < L.length) = false := decide_eq_false (by omega)
            generalize after plan (L.map (·.2)) i = s1 at hsn hrf hB
            have HM := Lib.hid hm0
            have HsN := Lib.hid hsn
            have HrF := Lib.hid hrf
            obtain ⟨n1, n2, n3⟩ : s1.conns.length ≤ 1000000000 ∧ s1.whole.length ≤ 1000000000 ∧ s1.lost.length ≤ 1000000000 := ⟨by have := hB.conns; omega, by have := hB.whole; omega, by have := hB.lost; omega⟩
            obtain ⟨cv, wv, kv, bvs, hqc, hrd, _⟩ := hrf.rep
            have q1 := hqc.at_ 1 rfl
            have q2 := hqc.at_ 2 rfl
            have q3 := hqc.at_ 3 rfl
            have q4 := hqc.at_ 4 rfl
            have Hqc := Lib.hid hqc
            have Hrd := Lib.hid hrd
            clear hqc hrd hm0 hsn hrf
            have HhB := Lib.hid hB
            clear hB
            have Hhdj := Lib.hid hdj
            clear hdj
            have Hn1 := Lib.hid n1
            clear n1
            have Hn2 := Lib.hid n2
            clear n2
            have Hn3 := Lib.hid n3
            clear n3
            go_wp2_with (first | ((with_reducible refine wp_region_one 52 (fun g => g = q) [5] 1 ?_ ?_ ?_ ?_ ?_); kernel_rfl; kernel_rfl; kernel_rfl; (with_reducible repeat (first | exact calm_ret | refine calm_then ?_ | refine calm_in ?_ | refine calm_chk ?_ | refine calm_noGoto ?_)); simp only [List.drop_succ_cons, List.drop_zero, List.take_succ_cons, List.take_zero]) | (with_reducible refine segEnd ?_) | (refine And.intro (Keep.one HMk.out Hqc.out.drew (fun e => e)) ?_) | ((with_reducible refine chkM_end (fun g => g = q) ?_ [.pointer (some ⟨q, 1, none⟩)] ?_ ?_ ?_); kernel_rfl; kernel_rfl; (intro v hv x hx; simp only [List.mem_cons, List.not_mem_nil, or_false] at hv; subst hv; (injection hx with hx; injection hx with hx; subst hx; simp))) | (go_at_call 14; go_loud (refine ret_use (same_eq _ (fun g ↦ wr.heap.size ≤ g ∧ g < w5.heap.size) G cv5 wv5 lv5 cv wv kv bvs5 bvs s1 s1 (Hr5.out.keep (fun gg hg ↦ hg.2) (by repeat (first | exact Mods.refl _ _ | apply Mods.drew | apply Mods.alloc))) ((Hrd.out.keep (fun gg hg ↦ (HrF.out.lt gg hg).2) HMr.out).keep (fun gg hg ↦ Nat.lt_of_lt_of_le (HrF.out.lt gg hg).2 HMr.out.size) (by repeat (first | exact Mods.refl _ _ | apply Mods.drew | apply Mods.alloc))) (fun gg hg ↦ by simpa using hg.2) (fun gg hg ↦ Nat.lt_of_lt_of_le (HrF.out.lt gg hg).2 (by simpa using HMr.out.size)) Hn1.out Hn2.out Hn3.out) ?_; rintro v w6 ⟨rfl, hm⟩; have HM6 := Lib.hid (Mods.trans (T := No) (by repeat (first | exact HM5.out | apply Mods.drew | apply Mods.alloc)) hm (fun _ _ e => e)); clear hm; rw [sameRep_self])) | (go_at_call 15; go_loud (refine ret_use (report_S _ p w1.heap.size _ s1 F 1048576 (HsN.out.keep (by repeat (first | exact Mods.refl _ _ | apply Mods.drew | apply Mods.alloc))) HhB.out (by decide)) ?_; rintro v w5 hrep; obtain ⟨cv5, wv5, lv5, bvs5, rfl, hr5, hm⟩ := hrep.got; have HMk := Lib.hid hm; have HMr := Lib.hid (Mods.trans (S := No) (T := No) (a := wr) (by repeat (first | exact Mods.refl _ _ | apply Mods.drew | apply Mods.alloc)) hm (fun _ _ e => e)); have HM5 := Lib.hid (HM.out.trans HMr.out (fun _ _ e => e)); have Hr5 := Lib.hid (hr5.more (G := fun g => wr.heap.size ≤ g ∧ g < w5.heap.size) (fun gg hg => ⟨by simpa using hg.1, hg.2⟩)); clear hrep hr5 hm; have q1 := (Hqc.out.mods HMr.out (fun e => e)).at_ 1 rfl; have q2 := (Hqc.out.mods HMr.out (fun e => e)).at_ 2 rfl; have q3 := (Hqc.out.mods HMr.out (fun e => e)).at_ 3 rfl; have q4 := (Hqc.out.mods HMr.out (fun e => e)).at_ 4 rfl)) | ((with_reducible refine wp_region_por ?_ ?_ ?_ ?_); kernel_rfl; kernel_rfl; (with_reducible repeat (first | exact calm_ret | refine calm_then ?_ | refine calm_in ?_ | refine calm_chk ?_ | refine calm_noGoto ?_))) | ((with_reducible refine chk_end ?_ ?_); kernel_rfl))
            go_ret
            exact ⟨rfl, HM6.out⟩
end Go.Proofs.YtmfpgghpnkmkpaaDoor
