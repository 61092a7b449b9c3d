/- The law SinkFrames, walked. -/
import Derived.Test.YtmfpgghpnkmkpaaDoorSinkEn
import Derived.Laws.OwnMore
namespace Go.Proofs.YtmfpgghpnkmkpaaDoor
open Go.RowKit Go.Tum
theorem infoBool : (Tryd.prog.info? 4).map (fun i => (i.zero, i.size, i.bytes)) = some (some (.bool false), 1, 1) := by kernel_rfl
theorem make_bools (W : World) (n : Nat) (hn : n ≤ 1048576) : (Instr.makeSlice 52 (.int .i64 ((n : Int) + 1)) (.int .i64 ((n : Int) + 1))).run Tryd.prog W =
    .ok (.slice (some ⟨W.heap.size, 0, none⟩) (n + 1) (n + 1)) (W.alloc (.cells (madeCells #[.bool false] (n + 1)) 4)) := by
  have h := infoBool
  rw [Option.map_eq_some_iff] at h
  obtain ⟨i, hi, h⟩ := h
  simp only [Prod.mk.injEq] at h
  have := run_makeSlice (P := Tryd.prog) W 52 4 i (.bool false) Tryd.underlying52 hi h.1 .i64 .i64 ((n : Int) + 1) ((n : Int) + 1) (by omega) (by omega) (by rw [h.2.1]; omega) (by rw [h.2.2]; omega) (by omega)
  rw [this, h.2.1, show ((n : Int) + 1).toNat = n + 1 by omega, Nat.mul_one]
  rfl
theorem marks_new (W : World) (n : Nat) : Marks (W.alloc (.cells (madeCells #[.bool false] (n + 1)) 4)) W.heap.size n (fun _ => false) := by
  refine ⟨_, Cells.new W _ _, size_madeCells _ _, fun j hj => ?_⟩
  rw [← Array.getElem?_toList, toList_madeCells_one, List.getElem?_replicate, if_pos (by omega)]
theorem failed_in {cs : List ConnS} (h : ∀ c ∈ cs.dropLast, c.failed = true) {i : Nat} {c : ConnS} (hi : i + 1 < cs.length) (hc : cs[i]? = some c) : c.failed = true := by
  refine h c ?_
  obtain ⟨h1, rfl⟩ := List.getElem?_eq_some_iff.1 hc
  have h2 : i < cs.dropLast.length := by rw [List.length_dropLast]; omega
  rw [show cs[i] = cs.dropLast[i] by rw [List.getElem_dropLast]]
  exact List.getElem_mem h2
theorem marks_cells (W : World) (n : Nat) (arr : Array Value) (f : Nat → Bool) (hs : arr.size = n + 1) (ha : ∀ j, j ≤ n → arr[j]? = some (.bool (f j))) : Marks (W.alloc (.cells arr 4)) W.heap.size n f := ⟨arr, Cells.new W _ _, hs, ha⟩
theorem Marks.far {w w' : World} {nb n : Nat} {f : Nat → Bool} {S : Nat → Prop} (h : Marks w nb n f) (hm : Mods S w w') (hS : ¬ S nb) : Marks w' nb n f := by
  obtain ⟨arr, hc, hs, ha⟩ := h
  exact ⟨arr, hc.mods hm hS, hs, ha⟩
set_option maxHeartbeats 8000000 in
set_option maxRecDepth 100000 in
theorem sinkFrames_K (w : World) (ea : Addr) (hg : w.cell? ⟨0, 0, none⟩ = some (.iface 94 (.pointer (some ea)))) (pv lv : Value) (plan : Plan) (L : List (Value × List UInt8))
    (hp : Rd w (OldOf w) 2 pv plan.length (planCells plan)) (hl : Rd w (OldOf w) 1 lv L.length (L.map (·.1))) (hr : ∀ a ∈ L, Rd w (OldOf w) 1 a.1 a.2.length (vbs a.2))
    (np : plan.length ≤ 1048576) (nl : L.length ≤ 1048576) (nw : (L.map fun a => a.2.length + 1).sum ≤ 1048576) :
    Calls Tryd.prog 5 #[pv, lv] w (Ret fun v w' => v = .bool true ∧ Mods No w w') := by
  have hpl := played_K w ea hg pv lv plan L _ hp hl hr np nl nw rfl
  have hN := named plan (L.map (·.2)) L.length (by simp)
  obtain ⟨K, hch, hKn, hKe⟩ := covered plan (L.map (·.2))
  rw [List.length_map] at hch hKn hKe
  generalize after plan (L.map (·.2)) L.length = s at hpl hN hch
  obtain ⟨Ap, cp, rfl, _, _⟩ := hp.form
  obtain ⟨Al, cl, rfl, _, _⟩ := hl.form
  have hcn := hN.conns
  have n1 : s.conns.length ≤ 1048576 := by omega
  have n2 : s.whole.length ≤ 1048576 := by have := hN.count; omega
  have hmk := fun W => make_bools W L.length nl
  have hMs := size_madeCells #[.bool false] (L.length + 1)
  have hMa : ∀ j, j ≤ L.length → (madeCells #[.bool false] (L.length + 1))[j]? = some (.bool false) := fun j hj => by
    rw [← Array.getElem?_toList, toList_madeCells_one, List.getElem?_replicate, if_pos (by omega)]
  generalize madeCells #[.bool false] (L.length + 1) = MC at hmk hMs hMa
  have hM0 := hMa 0 (Nat.zero_le _)
  have HhMs := Lib.hid hMs
  clear hMs
  have HhMa := Lib.hid hMa
  clear hMa
  have Hhp := Lib.hid hp
  clear hp
  have Hhl := Lib.hid hl
  clear hl
  have Hhr := Lib.hid hr
  clear hr
  have Hhpl := Lib.hid hpl
  clear hpl
  have HhN := Lib.hid hN
  clear hN
  have Hhch := Lib.hid hch
  clear hch
  have HhKn := Lib.hid hKn
  clear hKn
  have HhKe := Lib.hid hKe
  clear hKe
  have Hhcn := Lib.hid hcn
  clear hcn
  have Hnp := Lib.hid np
  clear np
  have Hnw := Lib.hid nw
  clear nw
  clear hg
  go_enter Tryd.func5, Tryd.ntmps5
  go_wp2_with (first | (go_at_call 17; go_loud (refine ret_use (Hhpl.out) ?_; rintro v w1 ⟨Ac, cc, Aw, cw, A3, c3, bvs, rfl, hrep, hm⟩; have Hrep := Lib.hid hrep; have HM1 := Lib.hid hm; clear hrep hm)) | ((with_reducible refine wp_region_por ?_ ?_ ?_ ?_); kernel_rfl; kernel_rfl; (with_reducible repeat (first | exact calm_ret | refine calm_then ?_ | refine calm_in ?_ | refine calm_chk ?_ | refine calm_noGoto ?_))) | ((with_reducible refine chk_end ?_ ?_); kernel_rfl))
  have kx := Cells.new w1 38 #[.slice Ac s.conns.length cc, .slice Aw s.whole.length cw, .slice A3 s.lost.length c3, .int .i64 s.writes]
  have mx := HM1.out.alloc (.cells #[.slice Ac s.conns.length cc, .slice Aw s.whole.length cw, .slice A3 s.lost.length c3, .int .i64 s.writes] 38)
  have hz1 : (w1.alloc (.cells #[.slice Ac s.conns.length cc, .slice Aw s.whole.length cw, .slice A3 s.lost.length c3, .int .i64 s.writes] 38)).heap.size = w1.heap.size + 1 := by simp
  have rx := (Hrep.out.keep (fun gg hg => hg.2) ((Mods.refl No w1).alloc (.cells #[.slice Ac s.conns.length cc, .slice Aw s.whole.length cw, .slice A3 s.lost.length c3, .int .i64 s.writes] 38))).more (G := OldOf (w1.alloc (.cells #[.slice Ac s.conns.length cc, .slice Aw s.whole.length cw, .slice A3 s.lost.length c3, .int .i64 s.writes] 38))) (fun gg hg => by have := hg.2; show gg < _; omega)
  have hup : ∀ {size n : Nat} {v : Value} {xs : List Value}, Rd w (OldOf w) size v n xs → Rd (w1.alloc (.cells #[.slice Ac s.conns.length cc, .slice Aw s.whole.length cw, .slice A3 s.lost.length c3, .int .i64 s.writes] 38)) (OldOf (w1.alloc (.cells #[.slice Ac s.conns.length cc, .slice Aw s.whole.length cw, .slice A3 s.lost.length c3, .int .i64 s.writes] 38))) size v n xs := fun hx => (hx.old mx).more fun gg hg => Nat.lt_of_lt_of_le hg mx.size
  have hl1 := hup Hhl.out
  have hr1 := fun a ha => hup (Hhr.out a ha)
  have hmk0 := marks_cells (w1.alloc (.cells #[.slice Ac s.conns.length cc, .slice Aw s.whole.length cw, .slice A3 s.lost.length c3, .int .i64 s.writes] 38)) L.length (MC.setIfInBounds 0 (.bool true)) (fun m => decide (m = 0)) (by simpa using HhMs.out) (fun j hj => by
    rw [Array.getElem?_setIfInBounds]
    by_cases e : 0 = j
    · subst e; simp [HhMs.out]
    · have e' : ¬ j = 0 := fun h => e h.symm
      simp [e, e', HhMa.out j hj])
  rw [hz1] at hmk0
  have hsz : (w1.alloc (.cells #[.slice Ac s.conns.length cc, .slice Aw s.whole.length cw, .slice A3 s.lost.length c3, .int .i64 s.writes] 38)).heap.size ≤ w1.heap.size + 1 := by omega
  generalize hW : w1.alloc (.cells #[.slice Ac s.conns.length cc, .slice Aw s.whole.length cw, .slice A3 s.lost.length c3, .int .i64 s.writes] 38) = W at kx mx rx hl1 hr1 hmk0 hsz ⊢
  generalize hnb0 : w1.heap.size + 1 = nb0 at hmk0 hsz ⊢
  generalize hkd : w1.heap.size = kd at kx ⊢
  clear hup hz1
  have hkdW := kx.lt
  have hms : ∀ o, Mods No W (W.alloc o) := fun o => (Mods.refl No W).alloc o
  have Hkx := Lib.hid kx
  clear kx
  have Hmx := Lib.hid mx
  clear mx
  have Hrx := Lib.hid rx
  clear rx
  have Hhl1 := Lib.hid hl1
  clear hl1
  have Hhr1 := Lib.hid hr1
  clear hr1
  have Hhmk0 := Lib.hid hmk0
  clear hmk0
  have HhW := Lib.hid hW
  clear hW
  have Hhkd := Lib.hid hkd
  clear hkd
  have Hhnb0 := Lib.hid hnb0
  clear hnb0
  have Hhms := Lib.hid hms
  clear hms
  go_loopg [7, 8] (s.conns.length + 1) (fun kk v7 v8 wr => ∃ i nb f k0, v7 = .slice (some ⟨nb, 0, none⟩) (L.length + 1) (L.length + 1) ∧ v8 = .int .i64 (i : Nat) ∧ kk + i = s.conns.length + 1 ∧ i ≤ s.conns.length ∧ Marks wr nb L.length f ∧ W.heap.size ≤ nb ∧ f k0 = true ∧ k0 ≤ L.length ∧
    Chain (L.map (·.2)) s.whole (s.conns.drop i) k0 K ∧ Mods No W wr)
  case atStart => exact ⟨0, nb0, _, 0, rfl, rfl, rfl, Nat.zero_le _, Hhmk0.out, hsz, rfl, Nat.zero_le _, Hhch.out, Hhms.out _⟩
  case round =>
    obtain ⟨i, nb, f, k0, rfl, rfl, hk, hi, hmark, hnbW, hfk, hk0, hchn, hm0⟩ := hrel
    have hkr := Hkx.out.mods hm0 (fun e => e)
    have bc0 := hkr.at_ 0 rfl
    have bc1 := hkr.at_ 1 rfl
    have bc2 := hkr.at_ 2 rfl
    have bc3 := hkr.at_ 3 rfl
    have HM := Lib.hid hm0
    have hnlt := hmark.lt
    have Hmark := Lib.hid hmark
    clear hmark hkr
    rcases Nat.lt_or_ge i s.conns.length with hlt | hge
    · have hlt' : decide (i < s.conns.length) = true := decide_eq_true hlt
      obtain ⟨c, hc⟩ : ∃ c, s.conns[i]? = some c := ⟨_, List.getElem?_eq_getElem hlt⟩
      have hdrop : s.conns.drop i = c :: s.conns.drop (i + 1) := by
        rw [List.drop_eq_getElem_cons hlt]
        rw [List.getElem?_eq_getElem hlt] at hc
        injection hc with hc
        rw [hc]
      rw [hdrop] at hchn
      obtain ⟨k1, hfit, hchn1⟩ := hchn
      have hk1 : k1 ≤ L.length := by simpa using hfit.le
      have hrr := (Hrx.out.keep (fun gg hg => hg) hm0)
      obtain ⟨bv, hbv⟩ : ∃ bv, bvs[i]? = some bv := ⟨_, List.getElem?_eq_getElem (by rw [hrr.len]; exact hlt)⟩
      obtain ⟨g1, o1, c1, e1, _, h1⟩ := hrr.conns.cells (by omega)
      injection e1 with e1 _ e1'
      subst e1 e1'
      have y1 : wr.cell? ⟨g1, o1 + i * 2 + 1, none⟩ = some (.bool c.failed) := by rw [Nat.add_assoc, h1 _ (by omega), (conCells_at bvs s.conns i bv c hbv hc).2]
      have Hc := Lib.hid hc

      clear h1 hrr hbv hdrop hc hm0
      have Hhfit := Lib.hid hfit
      clear hfit
      have Hhchn1 := Lib.hid hchn1
      clear hchn1
      by_cases hlast : i + 1 < s.conns.length
      · have hl2 : decide (i + 1 < s.conns.length) = true := decide_eq_true hlast
        have hl3 : decide ((i : Int) + 1 < (s.conns.length : Int)) = true := decide_eq_true (by omega)
        have hfc := failed_in HhN.out.failed hlast Hc.out
        rw [hfc] at y1
        clear hfc
        go_wp2_with (first | ((with_reducible refine wp_region_por ?_ ?_ ?_ ?_); kernel_rfl; kernel_rfl; (with_reducible repeat (first | exact calm_ret | refine calm_then ?_ | refine calm_in ?_ | refine calm_chk ?_ | refine calm_noGoto ?_))) | ((with_reducible refine chk_end ?_ ?_); kernel_rfl))
        obtain ⟨Wr, hWr⟩ : ∃ X, X = wr := ⟨_, rfl⟩
        have HMr := Lib.hid (show Mods No W Wr by rw [hWr]; exact HM.out)
        have Hmr := Lib.hid (show Marks Wr nb L.length f by rw [hWr]; exact Hmark.out)
        have hnr : nb < Wr.heap.size := by rw [hWr]; exact hnlt
        rw [← hWr]
        clear hWr
        have Hm2 := Lib.hid (marks_cells Wr L.length MC (fun _ => false) HhMs.out HhMa.out)
        generalize hnb2 : Wr.heap.size = nb2 at Hm2 hnr ⊢
        have hW2 : W.heap.size ≤ nb2 := by rw [← hnb2]; exact HMr.out.size
        clear hnb2
        go_loopg [10] (L.length + 2) (fun kk v10 wx => ∃ k g, v10 = .int .i64 (k : Nat) ∧ kk + k = L.length + 2 ∧ k ≤ L.length + 1 ∧ Marks wx nb L.length f ∧ Marks wx nb2 L.length g ∧ (∀ m, m < k → f m = true → ∀ q, Fits (L.map (·.2)) s.whole c.failed c.bytes m q → g q = true) ∧ Mods No W wx)
        case atStart => exact ⟨0, _, rfl, rfl, Nat.zero_le _, Hmr.out.keep ((Mods.refl No Wr).alloc _), Hm2.out, fun m hm => by omega, HMr.out.alloc _⟩
        case round =>
          obtain ⟨k, g, rfl, hkk, hkn, hma, hmb, hfg, hm0⟩ := hrel
          have hkr := Hkx.out.mods hm0 (fun e => e)
          have bd0 := hkr.at_ 0 rfl
          have bd1 := hkr.at_ 1 rfl
          have bd2 := hkr.at_ 2 rfl
          have bd3 := hkr.at_ 3 rfl
          clear hkr
          rcases Nat.lt_or_ge k (L.length + 1) with hkl | hkl
          · have hkl' : decide (k ≤ L.length) = true := decide_eq_true (by omega)
            have hkle : k ≤ L.length := by omega
            have nbk := hma.at_ hkle
            have hsm : Same (OldOf W) W wr := hm0.same fun gg hg => ⟨hg, fun e => e⟩
            have hend := ends_K wr (OldOf W) _ _ _ bvs s L Al cl i k nb2 c g (Hrx.out.same hsm) (Hhl1.out.same hsm) (fun a ha => (Hhr1.out a ha).same hsm) (fun gg hg => ⟨Nat.lt_of_lt_of_le hg hm0.size, fun e => by have hg' : gg < W.heap.size := hg; omega⟩) Hc.out hkle hmb n1 n2 nl
            have HMx := Lib.hid hm0
            have Hma := Lib.hid hma
            have Hmb := Lib.hid hmb
            have Hfg := Lib.hid hfg
            clear hm0 hma hmb hfg hsm
            have Hhend := Lib.hid hend
            clear hend
            cases hfk2 : f k with
            | false =>
              rw [hfk2] at nbk
              have Hfk2 := Lib.hid hfk2
              clear hfk2
              go_wp2_with (first | ((with_reducible refine wp_region_por ?_ ?_ ?_ ?_); kernel_rfl; kernel_rfl; (with_reducible repeat (first | exact calm_ret | refine calm_then ?_ | refine calm_in ?_ | refine calm_chk ?_ | refine calm_noGoto ?_))) | ((with_reducible refine chk_end ?_ ?_); kernel_rfl))
              go_roundg (L.length + 1 - k)
              case rel => exact ⟨k + 1, g, by go_num, by omega, by omega, Hma.out.keep (by repeat (first | exact Mods.refl _ _ | apply Mods.drew)), Hmb.out.keep (by repeat (first | exact Mods.refl _ _ | apply Mods.drew)), fun m hm hfm => (by rcases Nat.lt_or_ge m k with h | h; exact Hfg.out m h hfm; (have hmk : m = k := by omega); rw [hmk, Hfk2.out] at hfm; exact absurd hfm (by decide)), by repeat (first | exact HMx.out | apply Mods.drew)⟩
              case measure => omega
            | true =>
              rw [hfk2] at nbk
              clear hfk2
              go_wp2_with (first | (go_at_call 18; go_loud (refine ret_use (Hhend.out) ?_; rintro v w3 ⟨g2, hg2, hup2, hfit2, hm2⟩; have Hg2 := Lib.hid hg2; have Hup2 := Lib.hid hup2; have Hfit2 := Lib.hid hfit2; have Hm3 := Lib.hid hm2; clear hg2 hup2 hfit2 hm2)) | ((with_reducible refine wp_region_por ?_ ?_ ?_ ?_); kernel_rfl; kernel_rfl; (with_reducible repeat (first | exact calm_ret | refine calm_then ?_ | refine calm_in ?_ | refine calm_chk ?_ | refine calm_noGoto ?_))) | ((with_reducible refine chk_end ?_ ?_); kernel_rfl))
              go_roundg (L.length + 1 - k)
              case rel => exact ⟨k + 1, g2, by go_num, by omega, by omega, Hma.out.far Hm3.out (fun e => by omega), Hg2.out, fun m hm hfm q hq => (by rcases Nat.lt_or_ge m k with h | h; exact Hup2.out q (Hfg.out m h hfm q hq); (have hmk : m = k := by omega); rw [hmk] at hq; exact Hfit2.out q hq), mods_new HMx.out Hm3.out (fun gg hg e => by omega)⟩
              case measure => omega
          · have hkl' : decide (k ≤ L.length) = false := decide_eq_false (by omega)
            have HMx := Lib.hid hm0
            have Hmb := Lib.hid hmb
            have hgk := hfg k0 (by omega) hfk k1 Hhfit.out
            clear hm0 hma hmb hfg
            go_wp2_with (first | ((with_reducible refine wp_region_por ?_ ?_ ?_ ?_); kernel_rfl; kernel_rfl; (with_reducible repeat (first | exact calm_ret | refine calm_then ?_ | refine calm_in ?_ | refine calm_chk ?_ | refine calm_noGoto ?_))) | ((with_reducible refine chk_end ?_ ?_); kernel_rfl))
            go_roundg (s.conns.length - i)
            case rel => exact ⟨i + 1, nb2, g, k1, rfl, by go_num, by omega, by omega, Hmb.out.keep (by repeat (first | exact Mods.refl _ _ | apply Mods.drew)), hW2, hgk, hk1, Hhchn1.out, by repeat (first | exact HMx.out | apply Mods.drew)⟩
            case measure => omega
      · have hl2 : decide (i + 1 < s.conns.length) = false := decide_eq_false hlast
        have hl3 : decide ((i : Int) + 1 < (s.conns.length : Int)) = false := decide_eq_false (by omega)
        go_wp2_with (first | ((with_reducible refine wp_region_por ?_ ?_ ?_ ?_); kernel_rfl; kernel_rfl; (with_reducible repeat (first | exact calm_ret | refine calm_then ?_ | refine calm_in ?_ | refine calm_chk ?_ | refine calm_noGoto ?_))) | ((with_reducible refine chk_end ?_ ?_); kernel_rfl))
        obtain ⟨Wr, hWr⟩ : ∃ X, X = wr := ⟨_, rfl⟩
        have HMr := Lib.hid (show Mods No W Wr by rw [hWr]; exact HM.out)
        have Hmr := Lib.hid (show Marks Wr nb L.length f by rw [hWr]; exact Hmark.out)
        have hnr : nb < Wr.heap.size := by rw [hWr]; exact hnlt
        rw [← hWr]
        clear hWr
        have Hm2 := Lib.hid (marks_cells Wr L.length MC (fun _ => false) HhMs.out HhMa.out)
        generalize hnb2 : Wr.heap.size = nb2 at Hm2 hnr ⊢
        have hW2 : W.heap.size ≤ nb2 := by rw [← hnb2]; exact HMr.out.size
        clear hnb2
        go_loopg [10] (L.length + 2) (fun kk v10 wx => ∃ k g, v10 = .int .i64 (k : Nat) ∧ kk + k = L.length + 2 ∧ k ≤ L.length + 1 ∧ Marks wx nb L.length f ∧ Marks wx nb2 L.length g ∧ (∀ m, m < k → f m = true → ∀ q, Fits (L.map (·.2)) s.whole c.failed c.bytes m q → g q = true) ∧ Mods No W wx)
        case atStart => exact ⟨0, _, rfl, rfl, Nat.zero_le _, Hmr.out.keep ((Mods.refl No Wr).alloc _), Hm2.out, fun m hm => by omega, HMr.out.alloc _⟩
        case round =>
          obtain ⟨k, g, rfl, hkk, hkn, hma, hmb, hfg, hm0⟩ := hrel
          have hkr := Hkx.out.mods hm0 (fun e => e)
          have bd0 := hkr.at_ 0 rfl
          have bd1 := hkr.at_ 1 rfl
          have bd2 := hkr.at_ 2 rfl
          have bd3 := hkr.at_ 3 rfl
          clear hkr
          rcases Nat.lt_or_ge k (L.length + 1) with hkl | hkl
          · have hkl' : decide (k ≤ L.length) = true := decide_eq_true (by omega)
            have hkle : k ≤ L.length := by omega
            have nbk := hma.at_ hkle
            have hsm : Same (OldOf W) W wr := hm0.same fun gg hg => ⟨hg, fun e => e⟩
            have hend := ends_K wr (OldOf W) _ _ _ bvs s L Al cl i k nb2 c g (Hrx.out.same hsm) (Hhl1.out.same hsm) (fun a ha => (Hhr1.out a ha).same hsm) (fun gg hg => ⟨Nat.lt_of_lt_of_le hg hm0.size, fun e => by have hg' : gg < W.heap.size := hg; omega⟩) Hc.out hkle hmb n1 n2 nl
            have HMx := Lib.hid hm0
            have Hma := Lib.hid hma
            have Hmb := Lib.hid hmb
            have Hfg := Lib.hid hfg
            clear hm0 hma hmb hfg hsm
            have Hhend := Lib.hid hend
            clear hend
            cases hfk2 : f k with
            | false =>
              rw [hfk2] at nbk
              have Hfk2 := Lib.hid hfk2
              clear hfk2
              go_wp2_with (first | ((with_reducible refine wp_region_por ?_ ?_ ?_ ?_); kernel_rfl; kernel_rfl; (with_reducible repeat (first | exact calm_ret | refine calm_then ?_ | refine calm_in ?_ | refine calm_chk ?_ | refine calm_noGoto ?_))) | ((with_reducible refine chk_end ?_ ?_); kernel_rfl))
              go_roundg (L.length + 1 - k)
              case rel => exact ⟨k + 1, g, by go_num, by omega, by omega, Hma.out.keep (by repeat (first | exact Mods.refl _ _ | apply Mods.drew)), Hmb.out.keep (by repeat (first | exact Mods.refl _ _ | apply Mods.drew)), fun m hm hfm => (by rcases Nat.lt_or_ge m k with h | h; exact Hfg.out m h hfm; (have hmk : m = k := by omega); rw [hmk, Hfk2.out] at hfm; exact absurd hfm (by decide)), by repeat (first | exact HMx.out | apply Mods.drew)⟩
              case measure => omega
            | true =>
              rw [hfk2] at nbk
              clear hfk2
              go_wp2_with (first | (go_at_call 18; go_loud (refine ret_use (Hhend.out) ?_; rintro v w3 ⟨g2, hg2, hup2, hfit2, hm2⟩; have Hg2 := Lib.hid hg2; have Hup2 := Lib.hid hup2; have Hfit2 := Lib.hid hfit2; have Hm3 := Lib.hid hm2; clear hg2 hup2 hfit2 hm2)) | ((with_reducible refine wp_region_por ?_ ?_ ?_ ?_); kernel_rfl; kernel_rfl; (with_reducible repeat (first | exact calm_ret | refine calm_then ?_ | refine calm_in ?_ | refine calm_chk ?_ | refine calm_noGoto ?_))) | ((with_reducible refine chk_end ?_ ?_); kernel_rfl))
              go_roundg (L.length + 1 - k)
              case rel => exact ⟨k + 1, g2, by go_num, by omega, by omega, Hma.out.far Hm3.out (fun e => by omega), Hg2.out, fun m hm hfm q hq => (by rcases Nat.lt_or_ge m k with h | h; exact Hup2.out q (Hfg.out m h hfm q hq); (have hmk : m = k := by omega); rw [hmk] at hq; exact Hfit2.out q hq), mods_new HMx.out Hm3.out (fun gg hg e => by omega)⟩
              case measure => omega
          · have hkl' : decide (k ≤ L.length) = false := decide_eq_false (by omega)
            have HMx := Lib.hid hm0
            have Hmb := Lib.hid hmb
            have hgk := hfg k0 (by omega) hfk k1 Hhfit.out
            clear hm0 hma hmb hfg
            go_wp2_with (first | ((with_reducible refine wp_region_por ?_ ?_ ?_ ?_); kernel_rfl; kernel_rfl; (with_reducible repeat (first | exact calm_ret | refine calm_then ?_ | refine calm_in ?_ | refine calm_chk ?_ | refine calm_noGoto ?_))) | ((with_reducible refine chk_end ?_ ?_); kernel_rfl))
            go_roundg (s.conns.length - i)
            case rel => exact ⟨i + 1, nb2, g, k1, rfl, by go_num, by omega, by omega, Hmb.out.keep (by repeat (first | exact Mods.refl _ _ | apply Mods.drew)), hW2, hgk, hk1, Hhchn1.out, by repeat (first | exact HMx.out | apply Mods.drew)⟩
            case measure => omega
    · have hlt' : decide (i < s.conns.length) = false := decide_eq_false (by omega)
      obtain rfl : i = s.conns.length := by omega
      rw [List.drop_length] at hchn
      have hKK : k0 = K := hchn
      subst hKK
      have Hfk := Lib.hid hfk
      have HKe := Lib.hid HhKe.out
      clear hfk hchn hm0
      go_wp2_with (first | ((with_reducible refine wp_region_por ?_ ?_ ?_ ?_); kernel_rfl; kernel_rfl; (with_reducible repeat (first | exact calm_ret | refine calm_then ?_ | refine calm_in ?_ | refine calm_chk ?_ | refine calm_noGoto ?_))) | ((with_reducible refine chk_end ?_ ?_); kernel_rfl))
      go_loopg [11] (L.length + 1) (fun kk v11 wx => ∃ m, v11 = .int .i64 (m : Nat) ∧ kk = m + 1 ∧ k0 ≤ m ∧ m ≤ L.length ∧ Marks wx nb L.length f ∧ Mods No W wx)
      case atStart => exact ⟨L.length, rfl, rfl, hk0, Nat.le_refl _, Hmark.out.keep (by repeat (first | exact Mods.refl _ _ | apply Mods.drew)), by repeat (first | exact HM.out | apply Mods.drew)⟩
      case round =>
        obtain ⟨m, rfl, hkk, hm1, hm2, hma, hm0⟩ := hrel
        have hge0 : decide ((0 : Int) ≤ (m : Int)) = true := decide_eq_true (by omega)
        have nbm := hma.at_ hm2
        have hmn : m < L.length + 1 := by omega
        have hl2 := Hhl1.out.same (hm0.same fun gg hg => ⟨hg, fun e => e⟩)
        have HMx := Lib.hid hm0
        have Hma := Lib.hid hma
        clear hm0 hma
        cases hfm : f m with
        | true =>
          rw [hfm] at nbm
          clear hfm hl2
          go_wp2_with (first | ((with_reducible refine wp_region_por ?_ ?_ ?_ ?_); kernel_rfl; kernel_rfl; (with_reducible repeat (first | exact calm_ret | refine calm_then ?_ | refine calm_in ?_ | refine calm_chk ?_ | refine calm_noGoto ?_))) | ((with_reducible refine chk_end ?_ ?_); kernel_rfl))
          go_ret
          exact ⟨rfl, Hmx.out.trans HMx.out fun _ _ e => e⟩
        | false =>
          rw [hfm] at nbm
          have hne : m ≠ k0 := fun e => by rw [e, Hfk.out] at hfm; cases hfm
          clear hfm
          obtain ⟨r, rfl⟩ : ∃ r, m = r + 1 := ⟨m - 1, by omega⟩
          have hrl : r < L.length := by omega
          have he := HKe.out r (by omega) hrl
          obtain ⟨⟨bv, b⟩, ha⟩ : ∃ a, L[r]? = some a := ⟨_, List.getElem?_eq_getElem hrl⟩
          have hb : b = [] := by
            rw [List.getElem?_map, ha] at he
            simpa using he
          subst hb
          obtain ⟨Ax, cx, hbf, hcx, _⟩ := (Hhr1.out _ (List.mem_of_getElem? ha)).form
          dsimp only at hbf
          subst hbf
          obtain ⟨g0, o0, y0, e0, hg0, hx⟩ := hl2.at1 (i := r) hrl
          injection e0 with e0 _ e0'
          subst e0 e0'
          have x0 : wr.cell? ⟨g0, o0 + r, none⟩ = some (.slice Ax 0 cx) := by rw [hx]; simp [ha]
          have hz0 : (((r + 1 : Nat) : Int) == 0) = false := by rw [beq_eq_false_iff_ne]; omega
          have hsub : (((r + 1 : Nat) : Int) - 1) = (r : Int) := by omega
          have hkr : k0 ≤ r := by omega
          clear hx ha he hl2 hne
          go_wp2_with (first | ((with_reducible refine wp_region_por ?_ ?_ ?_ ?_); kernel_rfl; kernel_rfl; (with_reducible repeat (first | exact calm_ret | refine calm_then ?_ | refine calm_in ?_ | refine calm_chk ?_ | refine calm_noGoto ?_))) | ((with_reducible refine chk_end ?_ ?_); kernel_rfl))
          go_roundg (r + 1)
          case rel => exact ⟨r, by go_num, rfl, by omega, by omega, Hma.out.keep (by repeat (first | exact Mods.refl _ _ | apply Mods.drew)), by repeat (first | exact HMx.out | apply Mods.drew)⟩
          case measure => omega
end Go.Proofs.YtmfpgghpnkmkpaaDoor
