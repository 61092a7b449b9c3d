/- The law file's helpers has and played. -/
import Derived.Test.YtmfpgghpnkmkpaaDoorSinkW
namespace Go.Proofs.YtmfpgghpnkmkpaaDoor
open Go.RowKit Go.Tum
theorem _root_.Go.Tum.results_two {P : Program} {fn : Func} {p u : Tmp} {ty : TypeId} (h : fn.results = #[.cell p ty, .tmp u]) (tmps : Array Value) (w : World) (g : Nat) (t : TypeId) (cs : Array Value) (fr : Nat × Nat) (d : TypeDesc)
    (hp : tmps.getD p undef = .pointer (some ⟨g, 0, none⟩)) (hg : w.heap[g]? = some (.cells cs t fr))
    (hu : P.underlying ty = some d) (hd : (match d with | .struct _ | .array _ _ => true | _ => false) = true) (hi : (P.info? ty).map (·.size) = some cs.size) :
    (results fn tmps).run P w = .ok (.tuple #[.agg cs, tmps.getD u undef]) w := by
  rw [results_cell_tmp h, hp]
  simp [asAddr, run_loadVar_row w g t ty cs fr d hg hu hd hi]
theorem sum_mem : ∀ {l : List Nat} {x : Nat}, x ∈ l → x ≤ l.sum
  | y :: l, x, h => by
    rw [List.sum_cons]
    rcases List.mem_cons.1 h with rfl | h
    · omega
    · have := sum_mem h; omega
set_option maxHeartbeats 400000 in
set_option maxRecDepth 100000 in
theorem has_K (w : World) (F : Nat → Prop) (v : Value) (l : List Int) (n : Int) (h : Rd w F 1 v l.length (vis l)) (hn : l.length ≤ 1000000000) :
    Calls Tryd.prog 19 #[v, .int .i64 n] w (Ret fun v' w' => v' = .bool (decide (n ∈ l)) ∧ ∃ d, w' = w.drewN d) := by
  obtain ⟨A, c, rfl, _, _⟩ := h.form
  have Hh := Lib.hid h
  clear h
  go_enter Tryd.func19, Tryd.ntmps19
  go_wp2
  go_loopg [5] (l.length + 1) (fun k v5 wr => ∃ i d, v5 = .int .i64 (i : Nat) ∧ k + i = l.length + 1 ∧ i ≤ l.length ∧ (∀ j, j < i → l[j]? ≠ some n) ∧ wr = w.drewN d)
  case atStart => exact ⟨0, 0, rfl, rfl, Nat.zero_le _, fun j hj => by omega, rfl⟩
  case round =>
    obtain ⟨i, d, rfl, hk, hi, hpre, rfl⟩ := hrel
    have Hhpre := Lib.hid hpre
    clear hpre
    rcases Nat.lt_or_ge i l.length with hlt | hge
    · have hlt' : decide (i < l.length) = true := decide_eq_true hlt
      obtain ⟨g1, o1, c1, e1, _, h1⟩ := Hh.out.at1 (i := i) hlt
      injection e1 with e1 _ e1'
      subst e1 e1'
      obtain ⟨x, hx⟩ : ∃ x, l[i]? = some x := ⟨_, List.getElem?_eq_getElem hlt⟩
      have h1' : w.cell? ⟨g1, o1 + i, none⟩ = some (.int .i64 x) := by rw [h1]; simp [vis, hx]
      clear h1
      by_cases hxy : x = n
      · have hxy' : (x == n) = true := by simp [hxy]
        have Hhx := Lib.hid hx
        clear hx
        go_wp2_with (first | ((with_reducible refine wp_region_por ?_ ?_ ?_ ?_); kernel_rfl; kernel_rfl; (with_reducible repeat (first | exact calm_ret | refine calm_then ?_ | refine calm_in ?_ | refine calm_chk ?_ | refine calm_noGoto ?_))) | ((with_reducible refine chk_end ?_ ?_); kernel_rfl))
        go_ret
        refine ⟨?_, d, rfl⟩
        rw [decide_eq_true (by subst hxy; exact List.mem_of_getElem? Hhx.out)]
        rfl
      · have hxy' : (x == n) = false := by simp [hxy]
        have Hhx := Lib.hid hx
        clear hx
        go_wp2_with (first | ((with_reducible refine wp_region_por ?_ ?_ ?_ ?_); kernel_rfl; kernel_rfl; (with_reducible repeat (first | exact calm_ret | refine calm_then ?_ | refine calm_in ?_ | refine calm_chk ?_ | refine calm_noGoto ?_))) | ((with_reducible refine chk_end ?_ ?_); kernel_rfl))
        go_roundg (l.length - i)
        case rel =>
          refine ⟨i + 1, d, by go_num, by omega, by omega, fun j hj => ?_, rfl⟩
          rcases Nat.lt_or_ge j i with h | h
          · exact Hhpre.out j h
          · have : j = i := by omega
            subst this
            rw [Hhx.out]
            exact fun e => hxy (by injection e)
        case measure => omega
    · have hlt' : decide (i < l.length) = false := decide_eq_false (by omega)
      go_wp2_with (first | ((with_reducible refine wp_region_por ?_ ?_ ?_ ?_); kernel_rfl; kernel_rfl; (with_reducible repeat (first | exact calm_ret | refine calm_then ?_ | refine calm_in ?_ | refine calm_chk ?_ | refine calm_noGoto ?_))) | ((with_reducible refine chk_end ?_ ?_); kernel_rfl))
      go_ret
      refine ⟨?_, d, rfl⟩
      rw [decide_eq_false fun e => by obtain ⟨j, hj, rfl⟩ := List.getElem_of_mem e; exact Hhpre.out j (by omega) (List.getElem?_eq_getElem hj)]
      rfl
set_option maxHeartbeats 3200000 in
set_option maxRecDepth 100000 in
theorem played_K (w : World) (ea : Addr) (hg : w.cell? ⟨0, 0, none⟩ = some (.iface 94 (.pointer (some ea)))) (pv lv : Value) (plan : Plan) (L : List (Value × List UInt8)) (s : SinkS)
    (hp : Rd w (OldOf w) 2 pv plan.length (planCells plan)) (hl : Rd w (OldOf w) 1 lv L.length (L.map (·.1))) (hr : ∀ a ∈ L, Rd w (OldOf w) 1 a.1 a.2.length (vbs a.2))
    (np : plan.length ≤ 1048576) (nl : L.length ≤ 1048576) (nw : (L.map fun a => a.2.length + 1).sum ≤ 1048576) (hs : s = after plan (L.map (·.2)) L.length) :
    Calls Tryd.prog 17 #[pv, lv] w (Ret fun v w' => ∃ Ac cc Aw cw Al cl bvs, v = .tuple #[.agg #[.slice Ac s.conns.length cc, .slice Aw s.whole.length cw, .slice Al s.lost.length cl, .int .i64 s.writes], .bool true] ∧
      RepRd w' (fun g => w.heap.size ≤ g ∧ g < w'.heap.size) s (.slice Ac s.conns.length cc) (.slice Aw s.whole.length cw) (.slice Al s.lost.length cl) bvs ∧ Mods No w w') := by
  have lg := World.block_lt_of_cell? w _ hg
  have hgk : ∀ W, Mods No w W → W.cell? ⟨0, 0, none⟩ = some (.iface 94 (.pointer (some ea))) := fun W hm => (World.cell?_of_block (a := ⟨0, 0, none⟩) (hm.block _ lg fun e => e)).trans hg
  have haw := fun W hm => awake_K W ea (hgk W hm)
  obtain ⟨Ap, cp, rfl, _, _⟩ := hp.form
  obtain ⟨Al, cl, rfl, _, _⟩ := hl.form
  have np' : plan.length ≤ 1000000000 := by omega
  have hb0 : ∀ i, Bnd (after plan (L.map (·.2)) i) 1048576 := fun i => (after_bnd plan (L.map (·.2)) i).le (by simpa [List.map_map, Function.comp_def] using nw)
  have hnm := fun i hi => named plan (L.map (·.2)) i hi
  have k0 := Cells.new w 38 #[.slice none 0 0, .slice none 0 0, .slice none 0 0, .int .i64 0]
  have m0 := (Mods.refl No w).alloc (.cells #[.slice none 0 0, .slice none 0 0, .slice none 0 0, .int .i64 0] 38)
  have z0 : (w.alloc (.cells #[.slice none 0 0, .slice none 0 0, .slice none 0 0, .int .i64 0] 38)).heap.size = w.heap.size + 1 := by simp
  generalize hW0 : w.alloc (.cells #[.slice none 0 0, .slice none 0 0, .slice none 0 0, .int .i64 0] 38) = W0 at k0 m0 z0
  have Hhgk := Lib.hid hgk
  clear hgk
  have Hhg := Lib.hid hg
  clear hg
  have Hhaw := Lib.hid haw
  clear haw
  have Hhp := Lib.hid hp
  clear hp
  have Hhl := Lib.hid hl
  clear hl
  have Hhr := Lib.hid hr
  clear hr
  have Hnp := Lib.hid np
  clear np
  have Hnw := Lib.hid nw
  clear nw
  have Hnp' := Lib.hid np'
  clear np'
  have Hhb0 := Lib.hid hb0
  clear hb0
  have Hhnm := Lib.hid hnm
  clear hnm
  have Hhs := Lib.hid hs
  clear hs
  have Hk0 := Lib.hid k0
  clear k0
  have Hm0 := Lib.hid m0
  clear m0
  have Hz0 := Lib.hid z0
  clear z0
  have HhW0 := Lib.hid hW0
  clear hW0
  go_enter Tryd.func17, Tryd.ntmps17
  go_wp2_with (first | ((with_reducible refine wp_region_por ?_ ?_ ?_ ?_); kernel_rfl; kernel_rfl; (with_reducible repeat (first | exact calm_ret | refine calm_then ?_ | refine calm_in ?_ | refine calm_chk ?_ | refine calm_noGoto ?_))) | ((with_reducible refine chk_end ?_ ?_); kernel_rfl))
  rw [HhW0.out]
  go_wp2_with (first | (go_at_call 10; go_loud (refine ret_use (new_S _ (OldOf w) (.slice Ap plan.length cp) plan (Hhp.out.old Hm0.out) (fun gg hg ↦ by have hg' : gg < w.heap.size := hg; have := Hz0.out; omega) Hnp'.out) ?_; rintro v w1 ⟨p, F1, rfl, hs, hm⟩; have Hs1 := Lib.hid (hs.low (n1 := w.heap.size + 1) (by have := Hz0.out; omega)); have HM1 := Lib.hid hm; clear hs hm)) | ((with_reducible refine wp_region_por ?_ ?_ ?_ ?_); kernel_rfl; kernel_rfl; (with_reducible repeat (first | exact calm_ret | refine calm_then ?_ | refine calm_in ?_ | refine calm_chk ?_ | refine calm_noGoto ?_))) | ((with_reducible refine chk_end ?_ ?_); kernel_rfl))
  go_loopg [7] (L.length + 1) (fun k v7 wr => ∃ i F, v7 = .int .i64 (i : Nat) ∧ k + i = L.length + 1 ∧ i ≤ L.length ∧ Snk wr p plan (after plan (L.map (·.2)) i) F (w.heap.size + 1) ∧ Mods No W0 wr)
  case atStart => exact ⟨0, F1, rfl, rfl, Nat.zero_le _, Hs1.out.keep (by repeat (first | exact Mods.refl _ _ | apply Mods.drew)), (by repeat (first | exact HM1.out | apply Mods.drew | apply Mods.alloc))⟩
  case round =>
    obtain ⟨i, F, rfl, hk, hi, hsn, hm0⟩ := hrel
    rcases Nat.lt_or_ge i L.length with hlt | hge
    · have hlt' : decide (i < L.length) = true := decide_eq_true hlt
      obtain ⟨⟨bv, b⟩, ha⟩ : ∃ a, L[i]? = some a := ⟨_, List.getElem?_eq_getElem hlt⟩
      have HMw := Lib.hid (Hm0.out.trans hm0 fun _ _ e => e)
      obtain ⟨g0, o0, y0, e0, hg0, hx⟩ := (Hhl.out.old HMw.out).at1 (i := i) hlt
      injection e0 with e0 _ e0'
      subst e0 e0'
      have x0 : wr.cell? ⟨g0, o0 + i, none⟩ = some bv := by rw [hx]; simp [ha]
      have hb := Hhr.out _ (List.mem_of_getElem? ha)
      dsimp only at hb
      obtain ⟨Ab, cb, rfl, _, _⟩ := hb.form
      have hai : (L.map (·.2))[i]? = some b := by simp [ha]
      have hnb : b.length ≤ 2000000 := by
        have h1 : b.length + 1 ≤ (L.map fun a => a.2.length + 1).sum := sum_mem (List.mem_map.2 ⟨_, List.mem_of_getElem? ha, rfl⟩)
        have := Hnw.out
        omega
      have hnx := (Hhnm.out i (by simpa using hi)).next (plan := plan) hai
      have hsu := after_succ plan (L.map (·.2)) i b hai
      have HB := Lib.hid (Hhb0.out i)
      generalize after plan (L.map (·.2)) i = s1 at hsn hnx hsu HB
      generalize hfr : frame plan s1 i b = r at hnx hsu
      obtain ⟨s2, e⟩ := r
      obtain ⟨_, he⟩ := hnx
      dsimp only at he hsu
      subst he
      have HMr := Lib.hid hm0
      have HsN := Lib.hid hsn
      clear hx ha hai hm0 hsn
      have Hhb := Lib.hid hb
      clear hb
      have Hhnb := Lib.hid hnb
      clear hnb
      have Hhsu := Lib.hid hsu
      clear hsu
      have Hhfr := Lib.hid hfr
      clear hfr
      go_wp2_with (first | (go_at_call 12; go_loud (refine ret_use (frame_S _ p (w.heap.size + 1) plan s1 F (OldOf w) i (.slice Ab b.length cb) ea b 1048576 (HsN.out.keep (by repeat (first | exact Mods.refl _ _ | apply Mods.drew | apply Mods.alloc))) (Hhgk.out _ (by repeat (first | exact HMw.out | apply Mods.drew | apply Mods.alloc))) (by omega) (Hhb.out.old (by repeat (first | exact HMw.out | apply Mods.drew | apply Mods.alloc))) (fun gg hg ↦ ⟨Nat.lt_of_lt_of_le hg (by simpa using HMw.out.size), fun e ↦ by have := (HsN.out.lt gg e).1; have hg' : gg < w.heap.size := hg; omega⟩) Hnp'.out Hhnb.out HB.out (by decide)) ?_; rintro v w3 hpost; rw [Hhfr.out] at hpost; obtain ⟨rfl, F3, hs3, _, hm, _⟩ := hpost; have Hs3 := Lib.hid hs3; have HM3 := Lib.hid (mods_new (a := W0) (by repeat (first | exact HMr.out | apply Mods.drew | apply Mods.alloc)) hm (fun gg hg e => by have := (HsN.out.lt gg e).1; have := Hz0.out; omega)); clear hs3 hm)) | ((with_reducible refine wp_region_por ?_ ?_ ?_ ?_); kernel_rfl; kernel_rfl; (with_reducible repeat (first | exact calm_ret | refine calm_then ?_ | refine calm_in ?_ | refine calm_chk ?_ | refine calm_noGoto ?_))) | ((with_reducible refine chk_end ?_ ?_); kernel_rfl))
      go_roundg (L.length - i)
      case rel => exact ⟨i + 1, F3, by go_num, by omega, by omega, by rw [Hhsu.out]; exact Hs3.out.keep (by repeat (first | exact Mods.refl _ _ | apply Mods.drew)), (by repeat (first | exact HM3.out | apply Mods.drew | apply Mods.alloc))⟩
      case measure => omega
    · have hlt' : decide (i < L.length) = false := decide_eq_false (by omega)
      obtain rfl : i = L.length := by omega
      rw [← Hhs.out] at hsn
      have HB := Lib.hid (show Bnd s 1048576 by rw [Hhs.out]; exact Hhb0.out _)
      have HMr := Lib.hid hm0
      have HsN := Lib.hid hsn
      clear hm0 hsn
      go_wp2_with (first | (go_at_call 16; go_loud (refine ret_use (Hhaw.out _ (Hm0.out.trans (by repeat (first | exact HM5.out | apply Mods.drew | apply Mods.alloc)) (fun _ _ e ↦ e))) ?_; rintro v w7 ⟨rfl, hm⟩; have HM57 := Lib.hid (Mods.trans (S := No) (T := No) (a := w5) (by repeat (first | exact Mods.refl _ _ | apply Mods.drew | apply Mods.alloc)) hm (fun _ _ e => e)); have HM7 := Lib.hid (HM5.out.trans HM57.out (fun _ _ e => e)); clear hm; have b0 := (Hk0.out.mods HM7.out (fun e => e)).at_ 0 rfl; have b1 := (Hk0.out.mods HM7.out (fun e => e)).at_ 1 rfl; have b2 := (Hk0.out.mods HM7.out (fun e => e)).at_ 2 rfl; have b3 := (Hk0.out.mods HM7.out (fun e => e)).at_ 3 rfl; have f0 := (Hk0.out.mods HM7.out (fun e => e)).frozen 0; have f1 := (Hk0.out.mods HM7.out (fun e => e)).frozen 1; have f2 := (Hk0.out.mods HM7.out (fun e => e)).frozen 2; have f3 := (Hk0.out.mods HM7.out (fun e => e)).frozen 3)) | (go_at_call 15; go_loud (refine ret_use (report_S _ p (w.heap.size + 1) _ s F 1048576 (HsN.out.keep (by repeat (first | exact Mods.refl _ _ | apply Mods.drew | apply Mods.alloc))) HB.out (by decide)) ?_; rintro v w5 hrep; obtain ⟨cv5, wv5, lv5, bvs5, rfl, hr5, hm⟩ := hrep.got; obtain ⟨Ac, cc, rfl, _, _⟩ := hr5.conns.form; obtain ⟨Aw, cw, rfl, _, _⟩ := hr5.whole.form; obtain ⟨A3, c3, rfl, _, _⟩ := hr5.lost.form; have HM5 := Lib.hid (HMr.out.trans (Mods.trans (S := No) (T := No) (a := wr) (by repeat (first | exact Mods.refl _ _ | apply Mods.drew | apply Mods.alloc)) hm (fun _ _ e => e)) (fun _ _ e => e)); have Hr5 := Lib.hid (hr5.more (G := fun g => wr.heap.size ≤ g ∧ g < w5.heap.size) (fun gg hg => ⟨by simpa using hg.1, hg.2⟩)); clear hrep hr5 hm)) | ((with_reducible refine wp_region_por ?_ ?_ ?_ ?_); kernel_rfl; kernel_rfl; (with_reducible repeat (first | exact calm_ret | refine calm_then ?_ | refine calm_in ?_ | refine calm_chk ?_ | refine calm_noGoto ?_))) | ((with_reducible refine chk_end ?_ ?_); kernel_rfl))
      (try simp only [Exit.inBlock, Exit.then])
      have h4 := mods_set4 w7 w.heap.size (.slice Ac s.conns.length cc) (.slice Aw s.whole.length cw) (.slice A3 s.lost.length c3) (.int .i64 s.writes)
      refine bodyPost_ret (results_two rfl _ _ w.heap.size 38 _ (0, 0) _ rfl ((Hk0.out.mods HM7.out (fun e => e)).set4 _ _ _ _) Tryd.underlying38 rfl infoRep) rfl ?_
      have z1 := HMr.out.size
      have z2 := Hz0.out
      refine ⟨Ac, cc, Aw, cw, A3, c3, bvs5, rfl, ?_, (Hm0.out.trans HM7.out (fun _ _ e => e)).trans h4 (fun g hg e => by omega)⟩
      have h5 := Hr5.out.keep (fun gg hg => hg.2) HM57.out
      refine (h5.same (h4.same fun gg hg => ⟨Nat.lt_of_lt_of_le hg.2 HM57.out.size, fun e => by have := hg.1; omega⟩)).more fun gg hg => ⟨by have := hg.1; omega, ?_⟩
      exact Nat.lt_of_lt_of_le hg.2 (Nat.le_trans HM57.out.size h4.size)
end Go.Proofs.YtmfpgghpnkmkpaaDoor
