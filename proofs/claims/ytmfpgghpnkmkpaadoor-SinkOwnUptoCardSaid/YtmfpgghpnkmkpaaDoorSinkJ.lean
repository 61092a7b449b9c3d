/- (*Sink).Report in memory. -/
import Derived.Test.YtmfpgghpnkmkpaaDoorSinkI
namespace Go.Proofs.YtmfpgghpnkmkpaaDoor
open Go.RowKit Go.Tum
theorem _root_.Go.Tum.Cells.far4 {w : World} {g k : Nat} {t : TypeId} {cs : Array Value} (h : Cells w g t cs) (hne : g ≠ k) (a b c d : Value) : Cells ((((w.setCell ⟨k, 0, none⟩ a).setCell ⟨k, 1, none⟩ b).setCell ⟨k, 2, none⟩ c).setCell ⟨k, 3, none⟩ d) g t cs :=
  (((h.far (p := ⟨k, 0, none⟩) hne a).far (p := ⟨k, 1, none⟩) hne b).far (p := ⟨k, 2, none⟩) hne c).far (p := ⟨k, 3, none⟩) hne d
theorem _root_.Go.Tum.Cells.set4 {w : World} {k : Nat} {t : TypeId} {a' b' c' d' : Value} (h : Cells w k t #[a', b', c', d']) (a b c d : Value) : Cells ((((w.setCell ⟨k, 0, none⟩ a).setCell ⟨k, 1, none⟩ b).setCell ⟨k, 2, none⟩ c).setCell ⟨k, 3, none⟩ d) k t #[a, b, c, d] := by
  simpa using (((h.set_ 0 a).set_ 1 b).set_ 2 c).set_ 3 d
theorem mods_set4 (w : World) (k : Nat) (a b c d : Value) : Mods (fun g => g = k) w ((((w.setCell ⟨k, 0, none⟩ a).setCell ⟨k, 1, none⟩ b).setCell ⟨k, 2, none⟩ c).setCell ⟨k, 3, none⟩ d) :=
  ((((Mods.refl (fun g => g = k) w).setCell ⟨k, 0, none⟩ a (fun _ => rfl)).setCell ⟨k, 1, none⟩ b (fun _ => rfl)).setCell ⟨k, 2, none⟩ c (fun _ => rfl)).setCell ⟨k, 3, none⟩ d (fun _ => rfl)
theorem infoRep : (Tryd.prog.info? 38).map (·.size) = some 4 := by kernel_rfl
theorem infoConn : (Tryd.prog.info? 54).map (fun i => (i.zero, i.size, i.bytes)) = some (some (.agg #[.slice none 0 0, .bool false]), 2, 32) := by kernel_rfl
theorem rep_last {w wr W : World} {s : SinkS} {kd i y : Nat} {B : Option Addr} {wv lv : Value} {col : Nat → Nat} {bvs : List Value} (h : RepMid w s kd wv lv i wr col (.slice B (List.take i s.conns).length y) bvs) (hi : i ≥ s.conns.length)
    (hM : Mods (fun g => g = w.heap.size) wr W) (hin : i ≤ s.conns.length) : RepNew w W s (.agg #[.slice B i y, wv, lv, .int .i64 s.writes]) := by
  have e : (List.take i s.conns) = s.conns := List.take_of_length_le (by omega)
  have e2 : { s with conns := s.conns.take i } = s := by rw [e]
  have hr := h.rep
  rw [e2, e, show s.conns.length = i by omega] at hr
  have h0 : col w.heap.size = 0 := by
    rcases Nat.eq_zero_or_pos (col w.heap.size) with h0 | h0
    · exact h0
    · have := h.new w.heap.size (by omega); omega
  refine ⟨recol wr.heap.size col 0, _, _, _, bvs, rfl, hr.keep hM fun g _ e => by rw [e, h0]; decide, fun g hg => ?_, h.mods.trans hM fun g hg e => by omega⟩
  rcases Nat.lt_or_ge g wr.heap.size with h7 | h7
  · rw [recol_old h7] at hg
    exact Nat.le_of_lt (h.new g hg)
  · rw [recol_new h7] at hg
    exact absurd rfl hg
theorem rep_on {w wr w5 : World} {s : SinkS} {kd i : Nat} {cv v1 wv lv bv : Value} {col col3 : Nat → Nat} {bvs : List Value} {c : ConnS} (h : RepMid w s kd wv lv i wr col cv bvs) (hc : s.conns[i]? = some c)
    (hk5 : Cells w5 kd 38 #[cv, wv, lv, .int .i64 s.writes]) (r1 : col3 kd = 1) (r2 : RepK (w5.setCell ⟨kd, 0, none⟩ v1) col3 { { s with conns := s.conns.take i } with conns := s.conns.take i ++ [c] } v1 wv lv (bvs ++ [bv]))
    (r3 : ∀ g, col3 g ≠ 0 → (g < wr.drew.heap.size ∧ col g ≠ 0) ∨ wr.drew.heap.size ≤ g) (_r4 : ∀ g, g < wr.drew.heap.size → col3 g = col g) (r5 : Mods (fun g => g = kd ∨ cv.ownBlock = some g) wr.drew (w5.setCell ⟨kd, 0, none⟩ v1)) :
    RepMid w s kd wv lv (i + 1) (w5.setCell ⟨kd, 0, none⟩ v1) col3 v1 (bvs ++ [bv]) := by
  have hw := h.res.lt
  have hkn : w.heap.size < kd := h.new kd (by rw [h.colk]; decide)
  have hcn : ∀ g, cv.ownBlock = some g → w.heap.size < g := fun g hg => h.new g (by rw [h.rep.conns.2 g hg]; decide)
  refine ⟨by simpa using hk5.set_ 0 v1, h.res.drew.mods r5 ?_, r1, ?_, fun g hg => ?_, ?_⟩
  · rintro (e | e)
    · omega
    · have := hcn _ e; omega
  · rw [List.take_add_one, hc]
    exact r2
  · rcases r3 g hg with ⟨_, e⟩ | e
    · exact h.new g e
    · exact Nat.lt_of_lt_of_le hw e
  · refine h.mods.drew.trans r5 fun g hg e => ?_
    rcases e with e | e
    · omega
    · have := hcn _ e; omega
set_option maxHeartbeats 8000000 in
set_option maxRecDepth 100000 in
theorem report_K (w : World) (p : Nat) (plan : Plan) (s : SinkS) (ks : List Nat) (F : Nat → Prop) (h : SinkK w p plan s ks F) (b1 : s.conns.length ≤ 1000000000) (b2 : s.whole.length ≤ 1000000000) (b3 : s.lost.length ≤ 1000000000) (b4 : ∀ c ∈ s.conns, c.bytes.length ≤ 1000000000) :
    Calls Tryd.prog 15 #[(.pointer (some ⟨p, 0, none⟩))] w (Ret fun v w' => RepNew w w' s v) := by
  obtain ⟨col, pv, cv, wv, lv, hp, hF⟩ := h
  have c0 : w.cell? ⟨p, 0, none⟩ = some (.bool true) := hp.hdr.at_ 0 rfl
  have c2 : w.cell? ⟨p, 2, none⟩ = some cv := hp.hdr.at_ 2 rfl
  have c5 : w.cell? ⟨p, 5, none⟩ = some wv := hp.hdr.at_ 5 rfl
  have c6 : w.cell? ⟨p, 6, none⟩ = some lv := hp.hdr.at_ 6 rfl
  have c7 : w.cell? ⟨p, 7, none⟩ = some (.int .i64 s.writes) := hp.hdr.at_ 7 rfl
  have hl := hp.hdr.lt
  obtain ⟨A2, z2, rfl, _, _⟩ := hp.conns.form
  obtain ⟨A5, z5, rfl, _, _⟩ := hp.whole.form
  obtain ⟨A6, z6, rfl, _, _⟩ := hp.lost.form
  have hlen := hp.len
  have ok1 := ok_some (w.alloc (.cells #[.slice none 0 0, .slice none 0 0, .slice none 0 0, .int .i64 0] 38)) p true ((World.cell?_of_block (a := ⟨p, 0, none⟩) (Below.heap_alloc w _ p hl)).trans c0)
  have kp : ∀ {j e : Nat} {size n : Nat} {v : Value} {xs : List Value}, Own w (fun g => col g = j) e size v n xs → ∀ w', Mods No w w' → Rd w' (fun g => g < w.heap.size) size v n xs := fun ho w' hm => (Rd.of_own ho.1 fun g hg => ho.lt g hg).same (hm.same fun g hg => ⟨hg, fun e => e⟩)
  have r5 := kp hp.whole
  have r6 := kp hp.lost
  have rk := kp hp.conns
  have re := fun (i k : Nat) (c : ConnS) (h1 : ks[i]? = some k) (h2 : s.conns[i]? = some c) => hp.each i k c h1 h2
  have hv := vis_one
  have hsz : ∀ w', Mods No w w' → ∀ g, g < w.heap.size → g < w'.heap.size := fun w' hm g hg => Nat.lt_of_lt_of_le hg hm.size
  have hc5 : ∀ W, Mods No w W → Calls Tryd.prog 25 #[.slice A5 s.whole.length z5] W (Ret fun v' w' => Own w' (fun k => W.heap.size ≤ k ∧ k < w'.heap.size) 2 1 v' s.whole.length (vis s.whole) ∧ Mods No W w') := fun W hm => clone_ids W (r5 W hm) (hsz W hm) (hv _) b2
  have hc6 : ∀ W, Mods No w W → Calls Tryd.prog 25 #[.slice A6 s.lost.length z6] W (Ret fun v' w' => Own w' (fun k => W.heap.size ≤ k ∧ k < w'.heap.size) 2 1 v' s.lost.length (vis s.lost) ∧ Mods No W w') := fun W hm => clone_ids W (r6 W hm) (hsz W hm) (hv _) b3
  have hcell : ∀ W i v, Mods No w W → w.cell? ⟨p, i, none⟩ = some v → W.cell? ⟨p, i, none⟩ = some v := fun W i v hm hc => (World.cell?_of_block (a := ⟨p, i, none⟩) (hm.block p hl fun e => e)).trans hc
  have m0 : Mods No w (w.alloc (.cells #[.slice none 0 0, .slice none 0 0, .slice none 0 0, .int .i64 0] 38)) := (Mods.refl No w).alloc _
  obtain ⟨w0, hw0⟩ : ∃ w0, w0 = (w.alloc (.cells #[.slice none 0 0, .slice none 0 0, .slice none 0 0, .int .i64 0] 38)) := ⟨_, rfl⟩
  have d5 := hcell _ _ _ m0 c5
  have d6 := hcell _ _ _ m0 c6
  have d7 := hcell _ _ _ m0 c7
  have d2 := hcell _ _ _ m0 c2
  rw [← hw0] at ok1 m0 d5 d6 d7 d2
  have n0 := World.new_ne w0 _ d5
  have Hc5 := Lib.hid c5
  have Hc6 := Lib.hid c6
  have Hc7 := Lib.hid c7
  have Hc2 := Lib.hid c2
  clear c2 c5 c6 c7
  have Hhp := Lib.hid hp
  clear hp
  have HhF := Lib.hid hF
  clear hF
  have Hhlen := Lib.hid hlen
  clear hlen
  have Hr5 := Lib.hid r5
  clear r5
  have Hr6 := Lib.hid r6
  clear r6
  have Hrk := Lib.hid rk
  clear rk
  have Hre := Lib.hid re
  clear re
  have Hhv := Lib.hid hv
  clear hv
  have Hhsz := Lib.hid hsz
  clear hsz
  have Hhc5 := Lib.hid hc5
  clear hc5
  have Hhc6 := Lib.hid hc6
  clear hc6
  have Hhcell := Lib.hid hcell
  clear hcell
  have Hc0 := Lib.hid c0
  clear c0
  clear kp
  have HM0 := Lib.hid m0
  clear m0
  have HW0 := Lib.hid hw0
  clear hw0
  go_enter Tryd.func15, Tryd.ntmps15
  go_wp2_with (go_at_call 21; rw [← HW0.out]; refine ret_use ok1 ?_; rintro v _ ⟨rfl, rfl⟩)
  go_region_held3 (fun w' => w'.cell? ⟨p, 5, none⟩ = some (.slice A5 s.whole.length z5) ∧ w'.cell? ⟨p, 6, none⟩ = some (.slice A6 s.lost.length z6) ∧ w'.cell? ⟨p, 7, none⟩ = some (.int .i64 s.writes)) (go_keep)
    (first
      | (go_at_call 25; refine ret_use (Hhc5.out _ (by repeat (first | exact HM0.out | exact HM5.out | apply Mods.drew | apply Mods.alloc))) ?_; rintro v w3 ⟨ho, hm⟩; obtain ⟨A7, z7, rfl, _, _⟩ := ho.form;
         have HM5 := Lib.hid (Mods.trans (T := No) (by repeat (first | exact HM0.out | apply Mods.drew | apply Mods.alloc)) hm (fun _ _ e => e)); have HO5 := Lib.hid ho; have HMA := Lib.hid hm; clear ho hm; have e5 := Hhcell.out w3 5 _ HM5.out Hc5.out; have e6 := Hhcell.out w3 6 _ HM5.out Hc6.out; have e7 := Hhcell.out w3 7 _ HM5.out Hc7.out; have n3 := World.new_ne w3 _ e5; try (have kx : Cells w3 w0.heap.size 38 #[.slice none 0 0, .slice none 0 0, .slice none 0 0, .int .i64 0] := Cells.mods (Cells.new w0.drew 38 #[.slice none 0 0, .slice none 0 0, .slice none 0 0, .int .i64 0]) HMA.out (fun e => e); have x0 := kx.at_ 0 rfl; have xf0 := kx.frozen 0; have x1 := kx.at_ 1 rfl; have xf1 := kx.frozen 1; have x2 := kx.at_ 2 rfl; have xf2 := kx.frozen 2; have x3 := kx.at_ 3 rfl; have xf3 := kx.frozen 3; have HKX := Lib.hid kx; clear kx))
      | (go_at_call 25; refine ret_use (Hhc6.out _ (by repeat (first | exact HM5.out | apply Mods.drew | apply Mods.alloc))) ?_; rintro v w4 ⟨ho, hm⟩; obtain ⟨A8, z8, rfl, _, _⟩ := ho.form;
         have HM6 := Lib.hid (Mods.trans (T := No) (by repeat (first | exact HM5.out | apply Mods.drew | apply Mods.alloc)) hm (fun _ _ e => e)); have HO6 := Lib.hid ho; have HMB := Lib.hid hm; clear ho hm; have k5 := Hhcell.out w4 5 _ HM6.out Hc5.out; have k6 := Hhcell.out w4 6 _ HM6.out Hc6.out; have k7 := Hhcell.out w4 7 _ HM6.out Hc7.out; have n4 := World.new_ne w4 _ k5; first | (have ky : Cells w4 w0.heap.size 38 #[.slice none 0 0, .slice none 0 0, .slice none 0 0, .int .i64 0] := Cells.mods (HKX.out) HMB.out (fun e => e); have y0 := ky.at_ 0 rfl; have yf0 := ky.frozen 0; have y1 := ky.at_ 1 rfl; have yf1 := ky.frozen 1; have y2 := ky.at_ 2 rfl; have yf2 := ky.frozen 2; have y3 := ky.at_ 3 rfl; have yf3 := ky.frozen 3; have HKY := Lib.hid ky; clear ky) | (have ky : Cells w4 w3.heap.size 38 #[.slice none 0 0, .slice none 0 0, .slice none 0 0, .int .i64 0] := Cells.mods (Cells.new w3 38 #[.slice none 0 0, .slice none 0 0, .slice none 0 0, .int .i64 0]) HMB.out (fun e => e); have y0 := ky.at_ 0 rfl; have yf0 := ky.frozen 0; have y1 := ky.at_ 1 rfl; have yf1 := ky.frozen 1; have y2 := ky.at_ 2 rfl; have yf2 := ky.frozen 2; have y3 := ky.at_ 3 rfl; have yf3 := ky.frozen 3; have HKY := Lib.hid ky; clear ky) | skip))
  · skip
    have cz : Cells w0 w.heap.size 38 #[.slice none 0 0, .slice none 0 0, .slice none 0 0, .int .i64 0] := by rw [HW0.out]; exact Cells.new w _ _
    have z0 : w0.heap.size = w.heap.size + 1 := by rw [HW0.out]; simp
    have z1 := HMA.out.size
    have z2' := HMB.out.size
    try simp only [World.size_drew] at z1 z2'
    try simp only [World.size_alloc] at z1 z2'
    have hW2 : w.heap.size < w0.drew.heap.size := by simp; omega
    have hWk : w.heap.size < w4.heap.size := by omega
    obtain ⟨col1, q1, q2, q3⟩ := rep_first w w0.drew w3 w3 w4 (w4.alloc (.cells #[.slice none 0 0, .slice A7 s.whole.length z7, .slice A8 s.lost.length z8, .int .i64 s.writes] 38)) w4.heap.size s _ _ 38 (by decide) hW2 hWk (.inl rfl) HO5.out HMA.out (Mods.refl _ _) HO6.out HMB.out ((Mods.refl _ _).alloc _)
    have hst : RepMid w s w4.heap.size (.slice A7 s.whole.length z7) (.slice A8 s.lost.length z8) 0 (w4.alloc (.cells #[.slice none 0 0, .slice A7 s.whole.length z7, .slice A8 s.lost.length z8, .int .i64 s.writes] 38)) col1 (.slice none 0 0) [] := ⟨(Cells.new _ _ _), (((cz.drew.mods HMA.out (fun e => e)).mods HMB.out (fun e => e)).alloc _), q1, by simpa using q2, q3, (HM6.out.alloc _)⟩
    generalize hW : (w4.alloc (.cells #[.slice none 0 0, .slice A7 s.whole.length z7, .slice A8 s.lost.length z8, .int .i64 s.writes] 38)) = W at hst ⊢
    generalize hkd : w4.heap.size = kd at hst ⊢
    have u2 := Hhcell.out W 2 _ hst.mods Hc2.out
    have Hq2 := Lib.hid q2
    clear q2
    have Hq3 := Lib.hid q3
    clear q3
    have Hhst := Lib.hid hst
    clear hst
    have HhW := Lib.hid hW
    clear hW
    have Hhkd := Lib.hid hkd
    clear hkd
    go_wp2_with (first | ((with_reducible refine wp_region_por ?_ ?_ ?_ ?_); kernel_rfl; kernel_rfl; (with_reducible repeat (first | exact calm_ret | refine calm_then ?_ | refine calm_in ?_ | refine calm_chk ?_ | refine calm_noGoto ?_))) | ((with_reducible refine chk_end ?_ ?_); kernel_rfl))
    go_loopg [30] (s.conns.length + 1) (fun k v30 wr => ∃ i col cv bvs, v30 = .int .i64 (i : Nat) ∧ k + i = s.conns.length + 1 ∧ i ≤ s.conns.length ∧ RepMid w s kd (.slice A7 s.whole.length z7) (.slice A8 s.lost.length z8) i wr col cv bvs)
    case atStart => exact ⟨0, col1, _, _, rfl, rfl, Nat.zero_le _, Hhst.out⟩
    case round =>
      obtain ⟨i, col2, cv, bvs, rfl, hk, hi, hmid⟩ := hrel
      have hlen := Hhlen.out
      rcases Nat.lt_or_ge i s.conns.length with hlt | hge
      · have hlt' : decide (i < ks.length) = true := decide_eq_true (by omega)
        have hltk : i < ks.length := by omega
        obtain ⟨g0, o0, y0, e0, _, hx⟩ := (Hrk.out wr hmid.mods).at1 (i := i) (by omega)
        injection e0 with e0 _ e0'
        subst e0 e0'
        obtain ⟨k, hki⟩ : ∃ k, ks[i]? = some k := ⟨_, List.getElem?_eq_getElem (by omega)⟩
        obtain ⟨⟨cb, fl⟩, hci⟩ : ∃ c, s.conns[i]? = some c := ⟨_, List.getElem?_eq_getElem hlt⟩
        obtain ⟨ck, bv, hkc, hbo⟩ := Hre.out i k _ hki hci
        have hx' : wr.cell? ⟨g0, o0 + i, none⟩ = some ((.pointer (some ⟨k, 0, none⟩))) := by rw [hx]; simp [hki, ptr]
        have hkw := hkc.mods hmid.mods (fun e => e)
        dsimp only at hkw hbo
        obtain ⟨B2, y2, rfl, _, _⟩ := hbo.form
        obtain ⟨B1, y1, hcv, _, _⟩ := hmid.rep.conns.form
        have hti : (List.take i s.conns).length = i := by simp; omega
        dsimp only at hcv
        rw [hti] at hcv
        subst hcv
        have hbt : (List.take i s.conns).length ≤ 1000000000 := by omega
        have hx0 := hmid.hdr.at_ 0 rfl
        have hxf := hmid.hdr.frozen 0
        have hk0 := hkw.at_ 0 rfl
        have hk1 := hkw.at_ 1 rfl
        have hbr : Rd wr.drew (fun g => g < w.heap.size) 1 (.slice B2 cb.length y2) cb.length (vbs cb) := (Rd.of_own hbo.1 fun g hg => hbo.lt g hg).same (hmid.mods.same fun g hg => ⟨hg, fun e => e⟩)
        have hcl := clone_bytes wr.drew hbr (fun g hg => Nat.lt_of_lt_of_le hg hmid.mods.size) (vbs_one cb) (b4 ⟨cb, fl⟩ (List.mem_of_getElem? hci))
        clear hx
        have hdw := hmid.hdr.drew
        have hkd2 := hkw.drew
        have Hhti := Lib.hid hti
        clear hti
        have Hhdw := Lib.hid hdw
        clear hdw
        have Hhkd2 := Lib.hid hkd2
        clear hkd2
        have Hhmid := Lib.hid hmid
        clear hmid
        have Hhlen := Lib.hid hlen
        clear hlen
        have Hhki := Lib.hid hki
        clear hki
        have Hhci := Lib.hid hci
        clear hci
        have Hck := Lib.hid ck
        clear ck
        have Hhkc := Lib.hid hkc
        clear hkc
        have Hhbo := Lib.hid hbo
        clear hbo
        have Hhkw := Lib.hid hkw
        clear hkw
        have Hhbr := Lib.hid hbr
        clear hbr
        have Hhcl := Lib.hid hcl
        clear hcl
        go_wp2_with (first | ((with_reducible refine wp_region_two 7 (fun g => g = kd ∨ g = k) [1, 10] 6 12 ?_ ?_ ?_ ?_ ?_); kernel_rfl; kernel_rfl; kernel_rfl; (with_reducible repeat (first | exact calm_ret | refine calm_then ?_ | refine calm_in ?_ | refine calm_chk ?_ | refine calm_noGoto ?_)); simp only [List.drop_succ_cons, List.drop_zero, List.take_succ_cons, List.take_zero]) | (with_reducible refine segEnd ?_) | (refine And.intro (Keep.two HMC.out Hhdw.out (fun e => e) Hhkd2.out (fun e => e)) ?_) | (refine And.intro (Keep.two ((Mods.refl No w2).alloc _) (Hhdw.out.mods HMC.out (fun e => e)) (fun e => e) (Hhkd2.out.mods HMC.out (fun e => e)) (fun e => e)) ?_) | ((with_reducible refine chkM_end (fun g => g = kd ∨ g = k) ?_ [(.pointer (some ⟨kd, 0, none⟩)), .pointer (some ⟨k, 1, none⟩)] ?_ ?_ ?_); kernel_rfl; kernel_rfl; (intro v hv x hx; simp only [List.mem_cons, List.not_mem_nil, or_false] at hv; rcases hv with rfl | rfl <;> (injection hx with hx; injection hx with hx; subst hx; simp))) | (go_at_call 26; (refine ret_use (Hhcl.out) ?_; rintro v w2 ⟨hoc, hmc⟩; obtain ⟨B3, y3, rfl, _, _⟩ := hoc.form; have HOC := Lib.hid hoc; have HMC := Lib.hid hmc; have l0 := Nat.lt_of_lt_of_le Hhdw.out.lt hmc.size; have l1 := Nat.lt_of_lt_of_le Hhkd2.out.lt hmc.size; have p0 := (Hhdw.out.mods hmc (fun e => e)).at_ 0 rfl; have p1 := (Hhkd2.out.mods hmc (fun e => e)).at_ 1 rfl; have p2 := (Hhkd2.out.mods hmc (fun e => e)).at_ 0 rfl; have Hst := Lib.hid (rep_step wr.drew w2 col2 _ _ _ _ _ bvs ⟨cb, fl⟩ kd 0 _ _ (by decide) Hhdw.out Hhmid.out.colk (Hhmid.out.rep.same (Same.drew _ _)) hoc hmc); clear hoc hmc)) | (at_builtin; (refine wpList_append _ rfl (.tmp 35) (.tmp 46) 35 rfl 54 (.agg #[.slice none 0 0, .bool false]) 2 32 Tryd.underlying35 infoConn rfl (by decide) (F := fun g => (Value.slice B1 i y1).ownBlock = some g) (n := (List.take i s.conns).length) (xs := conCells bvs (List.take i s.conns)) (by rfl) (Hst.out.1 _) (G := fun g => g = w2.heap.size) (y := .slice (some ⟨w2.heap.size, 0, none⟩) 1 1) (m := 1) (news := [.slice B3 cb.length y3, .bool fl]) (by rfl) ?c1 (two_one rfl rfl) (by omega) (by decide) ?c4)) | ((with_reducible refine wp_region_por ?_ ?_ ?_ ?_); kernel_rfl; kernel_rfl; (with_reducible repeat (first | exact calm_ret | refine calm_then ?_ | refine calm_in ?_ | refine calm_chk ?_ | refine calm_noGoto ?_))) | ((with_reducible refine chk_end ?_ ?_); kernel_rfl))
        case c1 => exact Rd.box _ #[.slice B3 cb.length y3, .bool fl] _ (by simp) rfl (by decide)
        case c4 =>
          intro v1 w5 hown hmod hlt5
          obtain ⟨hk5, col3, r1, r2, r3, r4, r5⟩ := Hst.out.2 _ v1 w5 (by rw [show (List.take i s.conns).length = i from Hhti.out]; exact hown) hmod hlt5
          obtain ⟨B4, y4, rfl, _, _⟩ := hown.form
          have s0 := hk5.at_ 0 rfl
          have sf := hk5.frozen 0
          clear hown hmod hlt5
          have Hhk5 := Lib.hid hk5
          clear hk5
          have Hr2 := Lib.hid r2
          clear r2
          have Hr3 := Lib.hid r3
          clear r3
          have Hr4 := Lib.hid r4
          clear r4
          have Hr5 := Lib.hid r5
          clear r5
          go_wp2_with (first | ((with_reducible refine wp_region_two 7 (fun g => g = kd ∨ g = k) [1, 10] 6 12 ?_ ?_ ?_ ?_ ?_); kernel_rfl; kernel_rfl; kernel_rfl; (with_reducible repeat (first | exact calm_ret | refine calm_then ?_ | refine calm_in ?_ | refine calm_chk ?_ | refine calm_noGoto ?_)); simp only [List.drop_succ_cons, List.drop_zero, List.take_succ_cons, List.take_zero]) | (with_reducible refine segEnd ?_) | (refine And.intro (True.intro) ?_) | (refine And.intro (True.intro) ?_) | ((with_reducible refine chkM_end (fun g => g = kd ∨ g = k) ?_ [(.pointer (some ⟨kd, 0, none⟩)), .pointer (some ⟨k, 1, none⟩)] ?_ ?_ ?_); kernel_rfl; kernel_rfl; (intro v hv x hx; simp only [List.mem_cons, List.not_mem_nil, or_false] at hv; rcases hv with rfl | rfl <;> (injection hx with hx; injection hx with hx; subst hx; simp))) | ((with_reducible refine wp_region_por ?_ ?_ ?_ ?_); kernel_rfl; kernel_rfl; (with_reducible repeat (first | exact calm_ret | refine calm_then ?_ | refine calm_in ?_ | refine calm_chk ?_ | refine calm_noGoto ?_))) | ((with_reducible refine chk_end ?_ ?_); kernel_rfl))
          go_roundg (s.conns.length - i)
          case rel => exact ⟨i + 1, col3, _, _, by go_num, by omega, by omega, rep_on Hhmid.out Hhci.out Hhk5.out r1 Hr2.out Hr3.out Hr4.out Hr5.out⟩
          case measure => omega
      · have hlt' : decide (i < ks.length) = false := decide_eq_false (by omega)
        have hx0 := hmid.hdr.at_ 0 rfl
        have hx1 := hmid.hdr.at_ 1 rfl
        have hx2 := hmid.hdr.at_ 2 rfl
        have hx3 := hmid.hdr.at_ 3 rfl
        have hy0 := hmid.res.at_ 0 rfl
        have hy1 := hmid.res.at_ 1 rfl
        have hy2 := hmid.res.at_ 2 rfl
        have hy3 := hmid.res.at_ 3 rfl
        have hf0 := hmid.res.frozen 0
        have hf1 := hmid.res.frozen 1
        have hf2 := hmid.res.frozen 2
        have hf3 := hmid.res.frozen 3
        obtain ⟨B1, y1, rfl, _, _⟩ := hmid.rep.conns.form
        have hti : (List.take i s.conns).length = i := by simp; omega
        dsimp only at hx0 hmid
        have hr := hmid.rep.conns
        rw [hti] at hx0
        have hm0 : Mods (fun g => g = w.heap.size) wr ((((wr.setCell ⟨w.heap.size, 0, none⟩ (.slice B1 i y1)).setCell ⟨w.heap.size, 1, none⟩ (.slice A7 s.whole.length z7)).setCell ⟨w.heap.size, 2, none⟩ (.slice A8 s.lost.length z8)).setCell ⟨w.heap.size, 3, none⟩ (.int .i64 s.writes)) :=
          ((((Mods.refl (fun g => g = w.heap.size) wr).setCell ⟨w.heap.size, 0, none⟩ (.slice B1 i y1) (fun _ => rfl)).setCell ⟨w.heap.size, 1, none⟩ (.slice A7 s.whole.length z7) (fun _ => rfl)).setCell ⟨w.heap.size, 2, none⟩ (.slice A8 s.lost.length z8) (fun _ => rfl)).setCell ⟨w.heap.size, 3, none⟩ (.int .i64 s.writes) (fun _ => rfl)
        have hC0 : Cells ((((wr.setCell ⟨w.heap.size, 0, none⟩ (.slice B1 i y1)).setCell ⟨w.heap.size, 1, none⟩ (.slice A7 s.whole.length z7)).setCell ⟨w.heap.size, 2, none⟩ (.slice A8 s.lost.length z8)).setCell ⟨w.heap.size, 3, none⟩ (.int .i64 s.writes)) w.heap.size 38 #[.slice B1 i y1, .slice A7 s.whole.length z7, .slice A8 s.lost.length z8, .int .i64 s.writes] := by
          simpa using (((hmid.res.set_ 0 (.slice B1 i y1)).set_ 1 (.slice A7 s.whole.length z7)).set_ 2 (.slice A8 s.lost.length z8)).set_ 3 (.int .i64 s.writes)
        have Hhmid := Lib.hid hmid
        clear hmid
        have Hhlen := Lib.hid hlen
        clear hlen
        have Hhti := Lib.hid hti
        clear hti
        have Hhr := Lib.hid hr
        clear hr
        have Hhm0 := Lib.hid hm0
        clear hm0
        have HhC0 := Lib.hid hC0
        clear hC0
        go_wp2_with (first | ((with_reducible refine wp_region_por ?_ ?_ ?_ ?_); kernel_rfl; kernel_rfl; (with_reducible repeat (first | exact calm_ret | refine calm_then ?_ | refine calm_in ?_ | refine calm_chk ?_ | refine calm_noGoto ?_))) | ((with_reducible refine chk_end ?_ ?_); kernel_rfl))
        (try simp only [Exit.inBlock, Exit.then])
        refine bodyPost_ret (results_cell_row rfl _ _ w.heap.size 38 _ (0, 0) _ rfl HhC0.out Tryd.underlying38 rfl infoRep) rfl ?_
        exact rep_last Hhmid.out hge Hhm0.out hi
  · skip
    have cz : Cells w0 w.heap.size 38 #[.slice none 0 0, .slice none 0 0, .slice none 0 0, .int .i64 0] := by rw [HW0.out]; exact Cells.new w _ _
    have z0 : w0.heap.size = w.heap.size + 1 := by rw [HW0.out]; simp
    have z1 := HMA.out.size
    have z2' := HMB.out.size
    try simp only [World.size_drew] at z1 z2'
    try simp only [World.size_alloc] at z1 z2'
    have hW2 : w.heap.size < w0.drew.heap.size := by simp; omega
    have hWk : w.heap.size < w3.heap.size := by omega
    obtain ⟨col1, q1, q2, q3⟩ := rep_first w w0.drew w3 (w3.alloc (.cells #[.slice none 0 0, .slice none 0 0, .slice none 0 0, .int .i64 0] 38)) w4 ((((w4.setCell ⟨w3.heap.size, 0, none⟩ (.slice none 0 0)).setCell ⟨w3.heap.size, 1, none⟩ (.slice A7 s.whole.length z7)).setCell ⟨w3.heap.size, 2, none⟩ (.slice A8 s.lost.length z8)).setCell ⟨w3.heap.size, 3, none⟩ (.int .i64 s.writes)) w3.heap.size s _ _ 38 (by decide) hW2 hWk (.inr ⟨_, HKY.out⟩) HO5.out HMA.out ((Mods.refl _ _).alloc _) HO6.out HMB.out (mods_set4 _ _ _ _ _ _)
    have hst : RepMid w s w3.heap.size (.slice A7 s.whole.length z7) (.slice A8 s.lost.length z8) 0 ((((w4.setCell ⟨w3.heap.size, 0, none⟩ (.slice none 0 0)).setCell ⟨w3.heap.size, 1, none⟩ (.slice A7 s.whole.length z7)).setCell ⟨w3.heap.size, 2, none⟩ (.slice A8 s.lost.length z8)).setCell ⟨w3.heap.size, 3, none⟩ (.int .i64 s.writes)) col1 (.slice none 0 0) [] := ⟨(HKY.out.set4 _ _ _ _), ((((cz.drew.mods HMA.out (fun e => e)).alloc _).mods HMB.out (fun e => e)).far4 (by omega) _ _ _ _), q1, by simpa using q2, q3, (HM6.out.trans (mods_set4 _ _ _ _ _ _) (fun g hg e => by omega))⟩
    generalize hW : ((((w4.setCell ⟨w3.heap.size, 0, none⟩ (.slice none 0 0)).setCell ⟨w3.heap.size, 1, none⟩ (.slice A7 s.whole.length z7)).setCell ⟨w3.heap.size, 2, none⟩ (.slice A8 s.lost.length z8)).setCell ⟨w3.heap.size, 3, none⟩ (.int .i64 s.writes)) = W at hst ⊢
    generalize hkd : w3.heap.size = kd at hst ⊢
    have u2 := Hhcell.out W 2 _ hst.mods Hc2.out
    have Hq2 := Lib.hid q2
    clear q2
    have Hq3 := Lib.hid q3
    clear q3
    have Hhst := Lib.hid hst
    clear hst
    have HhW := Lib.hid hW
    clear hW
    have Hhkd := Lib.hid hkd
    clear hkd
    go_wp2_with (first | ((with_reducible refine wp_region_por ?_ ?_ ?_ ?_); kernel_rfl; kernel_rfl; (with_reducible repeat (first | exact calm_ret | refine calm_then ?_ | refine calm_in ?_ | refine calm_chk ?_ | refine calm_noGoto ?_))) | ((with_reducible refine chk_end ?_ ?_); kernel_rfl))
    go_loopg [30] (s.conns.length + 1) (fun k v30 wr => ∃ i col cv bvs, v30 = .int .i64 (i : Nat) ∧ k + i = s.conns.length + 1 ∧ i ≤ s.conns.length ∧ RepMid w s kd (.slice A7 s.whole.length z7) (.slice A8 s.lost.length z8) i wr col cv bvs)
    case atStart => exact ⟨0, col1, _, _, rfl, rfl, Nat.zero_le _, Hhst.out⟩
    case round =>
      obtain ⟨i, col2, cv, bvs, rfl, hk, hi, hmid⟩ := hrel
      have hlen := Hhlen.out
      rcases Nat.lt_or_ge i s.conns.length with hlt | hge
      · have hlt' : decide (i < ks.length) = true := decide_eq_true (by omega)
        have hltk : i < ks.length := by omega
        obtain ⟨g0, o0, y0, e0, _, hx⟩ := (Hrk.out wr hmid.mods).at1 (i := i) (by omega)
        injection e0 with e0 _ e0'
        subst e0 e0'
        obtain ⟨k, hki⟩ : ∃ k, ks[i]? = some k := ⟨_, List.getElem?_eq_getElem (by omega)⟩
        obtain ⟨⟨cb, fl⟩, hci⟩ : ∃ c, s.conns[i]? = some c := ⟨_, List.getElem?_eq_getElem hlt⟩
        obtain ⟨ck, bv, hkc, hbo⟩ := Hre.out i k _ hki hci
        have hx' : wr.cell? ⟨g0, o0 + i, none⟩ = some ((.pointer (some ⟨k, 0, none⟩))) := by rw [hx]; simp [hki, ptr]
        have hkw := hkc.mods hmid.mods (fun e => e)
        dsimp only at hkw hbo
        obtain ⟨B2, y2, rfl, _, _⟩ := hbo.form
        obtain ⟨B1, y1, hcv, _, _⟩ := hmid.rep.conns.form
        have hti : (List.take i s.conns).length = i := by simp; omega
        dsimp only at hcv
        rw [hti] at hcv
        subst hcv
        have hbt : (List.take i s.conns).length ≤ 1000000000 := by omega
        have hx0 := hmid.hdr.at_ 0 rfl
        have hxf := hmid.hdr.frozen 0
        have hk0 := hkw.at_ 0 rfl
        have hk1 := hkw.at_ 1 rfl
        have hbr : Rd wr.drew (fun g => g < w.heap.size) 1 (.slice B2 cb.length y2) cb.length (vbs cb) := (Rd.of_own hbo.1 fun g hg => hbo.lt g hg).same (hmid.mods.same fun g hg => ⟨hg, fun e => e⟩)
        have hcl := clone_bytes wr.drew hbr (fun g hg => Nat.lt_of_lt_of_le hg hmid.mods.size) (vbs_one cb) (b4 ⟨cb, fl⟩ (List.mem_of_getElem? hci))
        clear hx
        have hdw := hmid.hdr.drew
        have hkd2 := hkw.drew
        have Hhti := Lib.hid hti
        clear hti
        have Hhdw := Lib.hid hdw
        clear hdw
        have Hhkd2 := Lib.hid hkd2
        clear hkd2
        have Hhmid := Lib.hid hmid
        clear hmid
        have Hhlen := Lib.hid hlen
        clear hlen
        have Hhki := Lib.hid hki
        clear hki
        have Hhci := Lib.hid hci
        clear hci
        have Hck := Lib.hid ck
        clear ck
        have Hhkc := Lib.hid hkc
        clear hkc
        have Hhbo := Lib.hid hbo
        clear hbo
        have Hhkw := Lib.hid hkw
        clear hkw
        have Hhbr := Lib.hid hbr
        clear hbr
        have Hhcl := Lib.hid hcl
        clear hcl
        go_wp2_with (first | ((with_reducible refine wp_region_two 7 (fun g => g = kd ∨ g = k) [1, 10] 6 12 ?_ ?_ ?_ ?_ ?_); kernel_rfl; kernel_rfl; kernel_rfl; (with_reducible repeat (first | exact calm_ret | refine calm_then ?_ | refine calm_in ?_ | refine calm_chk ?_ | refine calm_noGoto ?_)); simp only [List.drop_succ_cons, List.drop_zero, List.take_succ_cons, List.take_zero]) | (with_reducible refine segEnd ?_) | (refine And.intro (Keep.two HMC.out Hhdw.out (fun e => e) Hhkd2.out (fun e => e)) ?_) | (refine And.intro (Keep.two ((Mods.refl No w2).alloc _) (Hhdw.out.mods HMC.out (fun e => e)) (fun e => e) (Hhkd2.out.mods HMC.out (fun e => e)) (fun e => e)) ?_) | ((with_reducible refine chkM_end (fun g => g = kd ∨ g = k) ?_ [(.pointer (some ⟨kd, 0, none⟩)), .pointer (some ⟨k, 1, none⟩)] ?_ ?_ ?_); kernel_rfl; kernel_rfl; (intro v hv x hx; simp only [List.mem_cons, List.not_mem_nil, or_false] at hv; rcases hv with rfl | rfl <;> (injection hx with hx; injection hx with hx; subst hx; simp))) | (go_at_call 26; (refine ret_use (Hhcl.out) ?_; rintro v w2 ⟨hoc, hmc⟩; obtain ⟨B3, y3, rfl, _, _⟩ := hoc.form; have HOC := Lib.hid hoc; have HMC := Lib.hid hmc; have l0 := Nat.lt_of_lt_of_le Hhdw.out.lt hmc.size; have l1 := Nat.lt_of_lt_of_le Hhkd2.out.lt hmc.size; have p0 := (Hhdw.out.mods hmc (fun e => e)).at_ 0 rfl; have p1 := (Hhkd2.out.mods hmc (fun e => e)).at_ 1 rfl; have p2 := (Hhkd2.out.mods hmc (fun e => e)).at_ 0 rfl; have Hst := Lib.hid (rep_step wr.drew w2 col2 _ _ _ _ _ bvs ⟨cb, fl⟩ kd 0 _ _ (by decide) Hhdw.out Hhmid.out.colk (Hhmid.out.rep.same (Same.drew _ _)) hoc hmc); clear hoc hmc)) | (at_builtin; (refine wpList_append _ rfl (.tmp 35) (.tmp 46) 35 rfl 54 (.agg #[.slice none 0 0, .bool false]) 2 32 Tryd.underlying35 infoConn rfl (by decide) (F := fun g => (Value.slice B1 i y1).ownBlock = some g) (n := (List.take i s.conns).length) (xs := conCells bvs (List.take i s.conns)) (by rfl) (Hst.out.1 _) (G := fun g => g = w2.heap.size) (y := .slice (some ⟨w2.heap.size, 0, none⟩) 1 1) (m := 1) (news := [.slice B3 cb.length y3, .bool fl]) (by rfl) ?c12 (two_one rfl rfl) (by omega) (by decide) ?c42)) | ((with_reducible refine wp_region_por ?_ ?_ ?_ ?_); kernel_rfl; kernel_rfl; (with_reducible repeat (first | exact calm_ret | refine calm_then ?_ | refine calm_in ?_ | refine calm_chk ?_ | refine calm_noGoto ?_))) | ((with_reducible refine chk_end ?_ ?_); kernel_rfl))
        case c12 => exact Rd.box _ #[.slice B3 cb.length y3, .bool fl] _ (by simp) rfl (by decide)
        case c42 =>
          intro v1 w5 hown hmod hlt5
          obtain ⟨hk5, col3, r1, r2, r3, r4, r5⟩ := Hst.out.2 _ v1 w5 (by rw [show (List.take i s.conns).length = i from Hhti.out]; exact hown) hmod hlt5
          obtain ⟨B4, y4, rfl, _, _⟩ := hown.form
          have s0 := hk5.at_ 0 rfl
          have sf := hk5.frozen 0
          clear hown hmod hlt5
          have Hhk5 := Lib.hid hk5
          clear hk5
          have Hr2 := Lib.hid r2
          clear r2
          have Hr3 := Lib.hid r3
          clear r3
          have Hr4 := Lib.hid r4
          clear r4
          have Hr5 := Lib.hid r5
          clear r5
          go_wp2_with (first | ((with_reducible refine wp_region_two 7 (fun g => g = kd ∨ g = k) [1, 10] 6 12 ?_ ?_ ?_ ?_ ?_); kernel_rfl; kernel_rfl; kernel_rfl; (with_reducible repeat (first | exact calm_ret | refine calm_then ?_ | refine calm_in ?_ | refine calm_chk ?_ | refine calm_noGoto ?_)); simp only [List.drop_succ_cons, List.drop_zero, List.take_succ_cons, List.take_zero]) | (with_reducible refine segEnd ?_) | (refine And.intro (True.intro) ?_) | (refine And.intro (True.intro) ?_) | ((with_reducible refine chkM_end (fun g => g = kd ∨ g = k) ?_ [(.pointer (some ⟨kd, 0, none⟩)), .pointer (some ⟨k, 1, none⟩)] ?_ ?_ ?_); kernel_rfl; kernel_rfl; (intro v hv x hx; simp only [List.mem_cons, List.not_mem_nil, or_false] at hv; rcases hv with rfl | rfl <;> (injection hx with hx; injection hx with hx; subst hx; simp))) | ((with_reducible refine wp_region_por ?_ ?_ ?_ ?_); kernel_rfl; kernel_rfl; (with_reducible repeat (first | exact calm_ret | refine calm_then ?_ | refine calm_in ?_ | refine calm_chk ?_ | refine calm_noGoto ?_))) | ((with_reducible refine chk_end ?_ ?_); kernel_rfl))
          go_roundg (s.conns.length - i)
          case rel => exact ⟨i + 1, col3, _, _, by go_num, by omega, by omega, rep_on Hhmid.out Hhci.out Hhk5.out r1 Hr2.out Hr3.out Hr4.out Hr5.out⟩
          case measure => omega
      · have hlt' : decide (i < ks.length) = false := decide_eq_false (by omega)
        have hx0 := hmid.hdr.at_ 0 rfl
        have hx1 := hmid.hdr.at_ 1 rfl
        have hx2 := hmid.hdr.at_ 2 rfl
        have hx3 := hmid.hdr.at_ 3 rfl
        have hy0 := hmid.res.at_ 0 rfl
        have hy1 := hmid.res.at_ 1 rfl
        have hy2 := hmid.res.at_ 2 rfl
        have hy3 := hmid.res.at_ 3 rfl
        have hf0 := hmid.res.frozen 0
        have hf1 := hmid.res.frozen 1
        have hf2 := hmid.res.frozen 2
        have hf3 := hmid.res.frozen 3
        obtain ⟨B1, y1, rfl, _, _⟩ := hmid.rep.conns.form
        have hti : (List.take i s.conns).length = i := by simp; omega
        dsimp only at hx0 hmid
        have hr := hmid.rep.conns
        rw [hti] at hx0
        have hm0 : Mods (fun g => g = w.heap.size) wr ((((wr.setCell ⟨w.heap.size, 0, none⟩ (.slice B1 i y1)).setCell ⟨w.heap.size, 1, none⟩ (.slice A7 s.whole.length z7)).setCell ⟨w.heap.size, 2, none⟩ (.slice A8 s.lost.length z8)).setCell ⟨w.heap.size, 3, none⟩ (.int .i64 s.writes)) :=
          ((((Mods.refl (fun g => g = w.heap.size) wr).setCell ⟨w.heap.size, 0, none⟩ (.slice B1 i y1) (fun _ => rfl)).setCell ⟨w.heap.size, 1, none⟩ (.slice A7 s.whole.length z7) (fun _ => rfl)).setCell ⟨w.heap.size, 2, none⟩ (.slice A8 s.lost.length z8) (fun _ => rfl)).setCell ⟨w.heap.size, 3, none⟩ (.int .i64 s.writes) (fun _ => rfl)
        have hC0 : Cells ((((wr.setCell ⟨w.heap.size, 0, none⟩ (.slice B1 i y1)).setCell ⟨w.heap.size, 1, none⟩ (.slice A7 s.whole.length z7)).setCell ⟨w.heap.size, 2, none⟩ (.slice A8 s.lost.length z8)).setCell ⟨w.heap.size, 3, none⟩ (.int .i64 s.writes)) w.heap.size 38 #[.slice B1 i y1, .slice A7 s.whole.length z7, .slice A8 s.lost.length z8, .int .i64 s.writes] := by
          simpa using (((hmid.res.set_ 0 (.slice B1 i y1)).set_ 1 (.slice A7 s.whole.length z7)).set_ 2 (.slice A8 s.lost.length z8)).set_ 3 (.int .i64 s.writes)
        have Hhmid := Lib.hid hmid
        clear hmid
        have Hhlen := Lib.hid hlen
        clear hlen
        have Hhti := Lib.hid hti
        clear hti
        have Hhr := Lib.hid hr
        clear hr
        have Hhm0 := Lib.hid hm0
        clear hm0
        have HhC0 := Lib.hid hC0
        clear hC0
        go_wp2_with (first | ((with_reducible refine wp_region_por ?_ ?_ ?_ ?_); kernel_rfl; kernel_rfl; (with_reducible repeat (first | exact calm_ret | refine calm_then ?_ | refine calm_in ?_ | refine calm_chk ?_ | refine calm_noGoto ?_))) | ((with_reducible refine chk_end ?_ ?_); kernel_rfl))
        (try simp only [Exit.inBlock, Exit.then])
        refine bodyPost_ret (results_cell_row rfl _ _ w.heap.size 38 _ (0, 0) _ rfl HhC0.out Tryd.underlying38 rfl infoRep) rfl ?_
        exact rep_last Hhmid.out hge Hhm0.out hi
  · skip
    have cz : Cells w0 w.heap.size 38 #[.slice none 0 0, .slice none 0 0, .slice none 0 0, .int .i64 0] := by rw [HW0.out]; exact Cells.new w _ _
    have z0 : w0.heap.size = w.heap.size + 1 := by rw [HW0.out]; simp
    have z1 := HMA.out.size
    have z2' := HMB.out.size
    try simp only [World.size_drew] at z1 z2'
    try simp only [World.size_alloc] at z1 z2'
    have hW2 : w.heap.size < (w0.drew.alloc (.cells #[.slice none 0 0, .slice none 0 0, .slice none 0 0, .int .i64 0] 38)).heap.size := by simp; omega
    have hWk : w.heap.size < w0.heap.size := by omega
    obtain ⟨col1, q1, q2, q3⟩ := rep_first w (w0.drew.alloc (.cells #[.slice none 0 0, .slice none 0 0, .slice none 0 0, .int .i64 0] 38)) w3 w3 w4 ((((w4.setCell ⟨w0.heap.size, 0, none⟩ (.slice none 0 0)).setCell ⟨w0.heap.size, 1, none⟩ (.slice A7 s.whole.length z7)).setCell ⟨w0.heap.size, 2, none⟩ (.slice A8 s.lost.length z8)).setCell ⟨w0.heap.size, 3, none⟩ (.int .i64 s.writes)) w0.heap.size s _ _ 38 (by decide) hW2 hWk (.inr ⟨_, HKY.out⟩) HO5.out HMA.out (Mods.refl _ _) HO6.out HMB.out (mods_set4 _ _ _ _ _ _)
    have hst : RepMid w s w0.heap.size (.slice A7 s.whole.length z7) (.slice A8 s.lost.length z8) 0 ((((w4.setCell ⟨w0.heap.size, 0, none⟩ (.slice none 0 0)).setCell ⟨w0.heap.size, 1, none⟩ (.slice A7 s.whole.length z7)).setCell ⟨w0.heap.size, 2, none⟩ (.slice A8 s.lost.length z8)).setCell ⟨w0.heap.size, 3, none⟩ (.int .i64 s.writes)) col1 (.slice none 0 0) [] := ⟨(HKY.out.set4 _ _ _ _), ((((cz.drew.alloc _).mods HMA.out (fun e => e)).mods HMB.out (fun e => e)).far4 (by omega) _ _ _ _), q1, by simpa using q2, q3, (HM6.out.trans (mods_set4 _ _ _ _ _ _) (fun g hg e => by omega))⟩
    generalize hW : ((((w4.setCell ⟨w0.heap.size, 0, none⟩ (.slice none 0 0)).setCell ⟨w0.heap.size, 1, none⟩ (.slice A7 s.whole.length z7)).setCell ⟨w0.heap.size, 2, none⟩ (.slice A8 s.lost.length z8)).setCell ⟨w0.heap.size, 3, none⟩ (.int .i64 s.writes)) = W at hst ⊢
    generalize hkd : w0.heap.size = kd at hst ⊢
    have u2 := Hhcell.out W 2 _ hst.mods Hc2.out
    have Hq2 := Lib.hid q2
    clear q2
    have Hq3 := Lib.hid q3
    clear q3
    have Hhst := Lib.hid hst
    clear hst
    have HhW := Lib.hid hW
    clear hW
    have Hhkd := Lib.hid hkd
    clear hkd
    go_wp2_with (first | ((with_reducible refine wp_region_por ?_ ?_ ?_ ?_); kernel_rfl; kernel_rfl; (with_reducible repeat (first | exact calm_ret | refine calm_then ?_ | refine calm_in ?_ | refine calm_chk ?_ | refine calm_noGoto ?_))) | ((with_reducible refine chk_end ?_ ?_); kernel_rfl))
    go_loopg [30] (s.conns.length + 1) (fun k v30 wr => ∃ i col cv bvs, v30 = .int .i64 (i : Nat) ∧ k + i = s.conns.length + 1 ∧ i ≤ s.conns.length ∧ RepMid w s kd (.slice A7 s.whole.length z7) (.slice A8 s.lost.length z8) i wr col cv bvs)
    case atStart => exact ⟨0, col1, _, _, rfl, rfl, Nat.zero_le _, Hhst.out⟩
    case round =>
      obtain ⟨i, col2, cv, bvs, rfl, hk, hi, hmid⟩ := hrel
      have hlen := Hhlen.out
      rcases Nat.lt_or_ge i s.conns.length with hlt | hge
      · have hlt' : decide (i < ks.length) = true := decide_eq_true (by omega)
        have hltk : i < ks.length := by omega
        obtain ⟨g0, o0, y0, e0, _, hx⟩ := (Hrk.out wr hmid.mods).at1 (i := i) (by omega)
        injection e0 with e0 _ e0'
        subst e0 e0'
        obtain ⟨k, hki⟩ : ∃ k, ks[i]? = some k := ⟨_, List.getElem?_eq_getElem (by omega)⟩
        obtain ⟨⟨cb, fl⟩, hci⟩ : ∃ c, s.conns[i]? = some c := ⟨_, List.getElem?_eq_getElem hlt⟩
        obtain ⟨ck, bv, hkc, hbo⟩ := Hre.out i k _ hki hci
        have hx' : wr.cell? ⟨g0, o0 + i, none⟩ = some ((.pointer (some ⟨k, 0, none⟩))) := by rw [hx]; simp [hki, ptr]
        have hkw := hkc.mods hmid.mods (fun e => e)
        dsimp only at hkw hbo
        obtain ⟨B2, y2, rfl, _, _⟩ := hbo.form
        obtain ⟨B1, y1, hcv, _, _⟩ := hmid.rep.conns.form
        have hti : (List.take i s.conns).length = i := by simp; omega
        dsimp only at hcv
        rw [hti] at hcv
        subst hcv
        have hbt : (List.take i s.conns).length ≤ 1000000000 := by omega
        have hx0 := hmid.hdr.at_ 0 rfl
        have hxf := hmid.hdr.frozen 0
        have hk0 := hkw.at_ 0 rfl
        have hk1 := hkw.at_ 1 rfl
        have hbr : Rd wr.drew (fun g => g < w.heap.size) 1 (.slice B2 cb.length y2) cb.length (vbs cb) := (Rd.of_own hbo.1 fun g hg => hbo.lt g hg).same (hmid.mods.same fun g hg => ⟨hg, fun e => e⟩)
        have hcl := clone_bytes wr.drew hbr (fun g hg => Nat.lt_of_lt_of_le hg hmid.mods.size) (vbs_one cb) (b4 ⟨cb, fl⟩ (List.mem_of_getElem? hci))
        clear hx
        have hdw := hmid.hdr.drew
        have hkd2 := hkw.drew
        have Hhti := Lib.hid hti
        clear hti
        have Hhdw := Lib.hid hdw
        clear hdw
        have Hhkd2 := Lib.hid hkd2
        clear hkd2
        have Hhmid := Lib.hid hmid
        clear hmid
        have Hhlen := Lib.hid hlen
        clear hlen
        have Hhki := Lib.hid hki
        clear hki
        have Hhci := Lib.hid hci
        clear hci
        have Hck := Lib.hid ck
        clear ck
        have Hhkc := Lib.hid hkc
        clear hkc
        have Hhbo := Lib.hid hbo
        clear hbo
        have Hhkw := Lib.hid hkw
        clear hkw
        have Hhbr := Lib.hid hbr
        clear hbr
        have Hhcl := Lib.hid hcl
        clear hcl
        go_wp2_with (first | ((with_reducible refine wp_region_two 7 (fun g => g = kd ∨ g = k) [1, 10] 6 12 ?_ ?_ ?_ ?_ ?_); kernel_rfl; kernel_rfl; kernel_rfl; (with_reducible repeat (first | exact calm_ret | refine calm_then ?_ | refine calm_in ?_ | refine calm_chk ?_ | refine calm_noGoto ?_)); simp only [List.drop_succ_cons, List.drop_zero, List.take_succ_cons, List.take_zero]) | (with_reducible refine segEnd ?_) | (refine And.intro (Keep.two HMC.out Hhdw.out (fun e => e) Hhkd2.out (fun e => e)) ?_) | (refine And.intro (Keep.two ((Mods.refl No w2).alloc _) (Hhdw.out.mods HMC.out (fun e => e)) (fun e => e) (Hhkd2.out.mods HMC.out (fun e => e)) (fun e => e)) ?_) | ((with_reducible refine chkM_end (fun g => g = kd ∨ g = k) ?_ [(.pointer (some ⟨kd, 0, none⟩)), .pointer (some ⟨k, 1, none⟩)] ?_ ?_ ?_); kernel_rfl; kernel_rfl; (intro v hv x hx; simp only [List.mem_cons, List.not_mem_nil, or_false] at hv; rcases hv with rfl | rfl <;> (injection hx with hx; injection hx with hx; subst hx; simp))) | (go_at_call 26; (refine ret_use (Hhcl.out) ?_; rintro v w2 ⟨hoc, hmc⟩; obtain ⟨B3, y3, rfl, _, _⟩ := hoc.form; have HOC := Lib.hid hoc; have HMC := Lib.hid hmc; have l0 := Nat.lt_of_lt_of_le Hhdw.out.lt hmc.size; have l1 := Nat.lt_of_lt_of_le Hhkd2.out.lt hmc.size; have p0 := (Hhdw.out.mods hmc (fun e => e)).at_ 0 rfl; have p1 := (Hhkd2.out.mods hmc (fun e => e)).at_ 1 rfl; have p2 := (Hhkd2.out.mods hmc (fun e => e)).at_ 0 rfl; have Hst := Lib.hid (rep_step wr.drew w2 col2 _ _ _ _ _ bvs ⟨cb, fl⟩ kd 0 _ _ (by decide) Hhdw.out Hhmid.out.colk (Hhmid.out.rep.same (Same.drew _ _)) hoc hmc); clear hoc hmc)) | (at_builtin; (refine wpList_append _ rfl (.tmp 35) (.tmp 46) 35 rfl 54 (.agg #[.slice none 0 0, .bool false]) 2 32 Tryd.underlying35 infoConn rfl (by decide) (F := fun g => (Value.slice B1 i y1).ownBlock = some g) (n := (List.take i s.conns).length) (xs := conCells bvs (List.take i s.conns)) (by rfl) (Hst.out.1 _) (G := fun g => g = w2.heap.size) (y := .slice (some ⟨w2.heap.size, 0, none⟩) 1 1) (m := 1) (news := [.slice B3 cb.length y3, .bool fl]) (by rfl) ?c13 (two_one rfl rfl) (by omega) (by decide) ?c43)) | ((with_reducible refine wp_region_por ?_ ?_ ?_ ?_); kernel_rfl; kernel_rfl; (with_reducible repeat (first | exact calm_ret | refine calm_then ?_ | refine calm_in ?_ | refine calm_chk ?_ | refine calm_noGoto ?_))) | ((with_reducible refine chk_end ?_ ?_); kernel_rfl))
        case c13 => exact Rd.box _ #[.slice B3 cb.length y3, .bool fl] _ (by simp) rfl (by decide)
        case c43 =>
          intro v1 w5 hown hmod hlt5
          obtain ⟨hk5, col3, r1, r2, r3, r4, r5⟩ := Hst.out.2 _ v1 w5 (by rw [show (List.take i s.conns).length = i from Hhti.out]; exact hown) hmod hlt5
          obtain ⟨B4, y4, rfl, _, _⟩ := hown.form
          have s0 := hk5.at_ 0 rfl
          have sf := hk5.frozen 0
          clear hown hmod hlt5
          have Hhk5 := Lib.hid hk5
          clear hk5
          have Hr2 := Lib.hid r2
          clear r2
          have Hr3 := Lib.hid r3
          clear r3
          have Hr4 := Lib.hid r4
          clear r4
          have Hr5 := Lib.hid r5
          clear r5
          go_wp2_with (first | ((with_reducible refine wp_region_two 7 (fun g => g = kd ∨ g = k) [1, 10] 6 12 ?_ ?_ ?_ ?_ ?_); kernel_rfl; kernel_rfl; kernel_rfl; (with_reducible repeat (first | exact calm_ret | refine calm_then ?_ | refine calm_in ?_ | refine calm_chk ?_ | refine calm_noGoto ?_)); simp only [List.drop_succ_cons, List.drop_zero, List.take_succ_cons, List.take_zero]) | (with_reducible refine segEnd ?_) | (refine And.intro (True.intro) ?_) | (refine And.intro (True.intro) ?_) | ((with_reducible refine chkM_end (fun g => g = kd ∨ g = k) ?_ [(.pointer (some ⟨kd, 0, none⟩)), .pointer (some ⟨k, 1, none⟩)] ?_ ?_ ?_); kernel_rfl; kernel_rfl; (intro v hv x hx; simp only [List.mem_cons, List.not_mem_nil, or_false] at hv; rcases hv with rfl | rfl <;> (injection hx with hx; injection hx with hx; subst hx; simp))) | ((with_reducible refine wp_region_por ?_ ?_ ?_ ?_); kernel_rfl; kernel_rfl; (with_reducible repeat (first | exact calm_ret | refine calm_then ?_ | refine calm_in ?_ | refine calm_chk ?_ | refine calm_noGoto ?_))) | ((with_reducible refine chk_end ?_ ?_); kernel_rfl))
          go_roundg (s.conns.length - i)
          case rel => exact ⟨i + 1, col3, _, _, by go_num, by omega, by omega, rep_on Hhmid.out Hhci.out Hhk5.out r1 Hr2.out Hr3.out Hr4.out Hr5.out⟩
          case measure => omega
      · have hlt' : decide (i < ks.length) = false := decide_eq_false (by omega)
        have hx0 := hmid.hdr.at_ 0 rfl
        have hx1 := hmid.hdr.at_ 1 rfl
        have hx2 := hmid.hdr.at_ 2 rfl
        have hx3 := hmid.hdr.at_ 3 rfl
        have hy0 := hmid.res.at_ 0 rfl
        have hy1 := hmid.res.at_ 1 rfl
        have hy2 := hmid.res.at_ 2 rfl
        have hy3 := hmid.res.at_ 3 rfl
        have hf0 := hmid.res.frozen 0
        have hf1 := hmid.res.frozen 1
        have hf2 := hmid.res.frozen 2
        have hf3 := hmid.res.frozen 3
        obtain ⟨B1, y1, rfl, _, _⟩ := hmid.rep.conns.form
        have hti : (List.take i s.conns).length = i := by simp; omega
        dsimp only at hx0 hmid
        have hr := hmid.rep.conns
        rw [hti] at hx0
        have hm0 : Mods (fun g => g = w.heap.size) wr ((((wr.setCell ⟨w.heap.size, 0, none⟩ (.slice B1 i y1)).setCell ⟨w.heap.size, 1, none⟩ (.slice A7 s.whole.length z7)).setCell ⟨w.heap.size, 2, none⟩ (.slice A8 s.lost.length z8)).setCell ⟨w.heap.size, 3, none⟩ (.int .i64 s.writes)) :=
          ((((Mods.refl (fun g => g = w.heap.size) wr).setCell ⟨w.heap.size, 0, none⟩ (.slice B1 i y1) (fun _ => rfl)).setCell ⟨w.heap.size, 1, none⟩ (.slice A7 s.whole.length z7) (fun _ => rfl)).setCell ⟨w.heap.size, 2, none⟩ (.slice A8 s.lost.length z8) (fun _ => rfl)).setCell ⟨w.heap.size, 3, none⟩ (.int .i64 s.writes) (fun _ => rfl)
        have hC0 : Cells ((((wr.setCell ⟨w.heap.size, 0, none⟩ (.slice B1 i y1)).setCell ⟨w.heap.size, 1, none⟩ (.slice A7 s.whole.length z7)).setCell ⟨w.heap.size, 2, none⟩ (.slice A8 s.lost.length z8)).setCell ⟨w.heap.size, 3, none⟩ (.int .i64 s.writes)) w.heap.size 38 #[.slice B1 i y1, .slice A7 s.whole.length z7, .slice A8 s.lost.length z8, .int .i64 s.writes] := by
          simpa using (((hmid.res.set_ 0 (.slice B1 i y1)).set_ 1 (.slice A7 s.whole.length z7)).set_ 2 (.slice A8 s.lost.length z8)).set_ 3 (.int .i64 s.writes)
        have Hhmid := Lib.hid hmid
        clear hmid
        have Hhlen := Lib.hid hlen
        clear hlen
        have Hhti := Lib.hid hti
        clear hti
        have Hhr := Lib.hid hr
        clear hr
        have Hhm0 := Lib.hid hm0
        clear hm0
        have HhC0 := Lib.hid hC0
        clear hC0
        go_wp2_with (first | ((with_reducible refine wp_region_por ?_ ?_ ?_ ?_); kernel_rfl; kernel_rfl; (with_reducible repeat (first | exact calm_ret | refine calm_then ?_ | refine calm_in ?_ | refine calm_chk ?_ | refine calm_noGoto ?_))) | ((with_reducible refine chk_end ?_ ?_); kernel_rfl))
        (try simp only [Exit.inBlock, Exit.then])
        refine bodyPost_ret (results_cell_row rfl _ _ w.heap.size 38 _ (0, 0) _ rfl HhC0.out Tryd.underlying38 rfl infoRep) rfl ?_
        exact rep_last Hhmid.out hge Hhm0.out hi
end Go.Proofs.YtmfpgghpnkmkpaaDoor
