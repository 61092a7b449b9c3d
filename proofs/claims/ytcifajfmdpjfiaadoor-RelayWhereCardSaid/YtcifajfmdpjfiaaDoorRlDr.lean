/- The law RelayDrops, walked. -/
import Derived.Test.YtcifajfmdpjfiaaDoorRlI
import Derived.Test.YtcifajfmdpjfiaaDoorRkC
namespace Go.Proofs.YtcifajfmdpjfiaaDoor
open Go.RowKit Go.Tum Go.Lib Go.Sort
set_option maxRecDepth 100000
theorem RelK.more {w : World} {rb C R H : Nat} {nw : Bool} {N : List Tx} {S : List Stn} {dn : List Tx} {F G : Nat → Prop} (h : RelK w rb C R H nw N S dn F) (hs : ∀ b, b < w.heap.size → F b → G b) : RelK w rb C R H nw N S dn G := by
  obtain ⟨hi, ht, g, mb, col, ps, nv, sv, hp, hF⟩ := h
  exact ⟨hi, ht, g, mb, col, ps, nv, sv, hp, fun b hb e => hs b hb (hF b hb e)⟩
theorem relnew_bad {w w' : World} {l : List Tx} {C R H e : Int} {nw : Bool} {v : Value} (h : RelNew w w' l C R H nw v) (he : e = relE l C R H) (h0 : e ≠ 0) : v = .tuple #[.pointer none, .int .i64 e] ∧ Mods No w w' := by
  obtain ⟨p, rfl, hm, h1, _⟩ := h
  rw [he] at h0
  exact ⟨by rw [h1 h0, he], hm⟩
/-- One destination that has taken nothing. -/
structure DrI (W wr : World) (rb H : Nat) (nw : Bool) (s : Tx) (d : List Rcd) : Prop where
  rel : RelK wr rb 1 1 H nw [s] [dealt H nw d] [] (fun b => W.heap.size ≤ b)
  hm : Mods No W wr
theorem drop_put {W w : World} {rb H : Nat} {nw : Bool} {s : Tx} {d : List Rcd} {x : Rcd} (h : DrI W w rb H nw s d) (hx : x.1.length ≤ maxLen) (hd : d.length ≤ 2305843009213693952) :
    Calls Tryd.prog 13 #[(.pointer (some ⟨rb, 0, none⟩)), rv x] w (Ret fun v w' => v = .int .i64 1 ∧ DrI W w' rb H nw s (d ++ [x])) := by
  have h1 := h.rel.1.h1
  refine ret_use (putAll_K w rb 1 1 H nw [s] _ _ x h.rel (by simp) hx fun t ht => ?_) fun v w' ⟨e1, e2, e3⟩ => ⟨e1, ?_, h.hm.trans e3 fun k hk e => absurd hk (Nat.not_lt.2 e)⟩
  · rw [List.mem_singleton.1 ht]
    refine ⟨?_, by rw [dealt_len]; exact Nat.min_le_left _ _⟩
    unfold dealt
    dsimp only
    omega
  · have hs := h.hm.size
    have e4 := e2.more (G := fun b => W.heap.size ≤ b) fun b _ hb => by
      rcases hb with hb | hb
      · exact hb
      · omega
    rw [List.map_singleton, dealt_snoc h1] at e4
    exact e4
theorem drop_take {W w w' : World} {rb H : Nat} {nw : Bool} {s : Tx} {d : List Rcd} {v : Value} (h : DrI W w rb H nw s d) (ht : TakeIs w w' rb 1 1 H nw [s] [dealt H nw d] [] (fun b => W.heap.size ≤ b) s 65536 v) :
    ∃ A c F, v = .tuple #[.slice A (dealt H nw d).L.length c, .int .i64 0] ∧ Own w' (fun g => w.heap.size ≤ g) 45 4 (.slice A (dealt H nw d).L.length c) (dealt H nw d).L.length (rcs (dealt H nw d).L) ∧ RelK w' rb 1 1 H nw [s] [⟨[], (dealt H nw d).L.length, d.length - H⟩] [] F ∧ Mods No W w' := by
  have hH := h.rel.1.h2
  have hle : (dealt H nw d).L.length ≤ H := by rw [dealt_len]; exact Nat.min_le_left _ _
  rcases ht with ⟨h0, _⟩ | ⟨_, k, m, mid, st, A, c, hk, hst, hm, rfl, _, ho, hr, hmm⟩
  · exact absurd (by unfold takeE; simp) h0
  · match k with
    | 0 =>
      injection hst with hst
      subst hst
      obtain rfl : m = (dealt H nw d).L.length := by omega
      rw [List.take_length] at ho
      refine ⟨A, c, fun b => W.heap.size ≤ b ∨ mid ≤ b, rfl, ho.more fun g e => e.1, ?_, h.hm.trans hmm fun k hk e => absurd hk (Nat.not_lt.2 e)⟩
      have hr' := hr
      rw [takeS_ok (Nat.le_refl _), List.drop_length] at hr'
      have e5 : (dealt H nw d).sent = 0 := rfl
      rw [e5, Nat.zero_add] at hr'
      exact hr'
    | k + 1 => simp at hk
theorem relE_zero {l : List Tx} {C R H : Int} (h : relE l C R H = 0) : newE l C = 0 ∧ l.length ≠ 0 ∧ 1 ≤ R ∧ R ≤ 8 ∧ 1 ≤ H ∧ H ≤ 65536 := by
  unfold relE at h
  split at h
  · rename_i h1; exact absurd h h1
  · rename_i h1
    split at h
    · cases h
    · rename_i h2
      split at h
      · cases h
      · exact ⟨by simpa using h1, h2, by omega, by omega, by omega, by omega⟩
theorem drop_new {W w : World} {rb : Nat} {held : Int} {nw : Bool} {s : Tx} (h : RelK w rb (1 : Int).toNat (1 : Int).toNat held.toNat nw (nodesOf [s]) (List.replicate [s].length stn0) [] (fun b => W.heap.size ≤ b)) (hm : Mods No W w) : DrI W w rb held.toNat nw s [] :=
  ⟨by rw [dealt_nil]; exact h, hm⟩
theorem DrI.no {W w w' : World} {rb H : Nat} {nw : Bool} {s : Tx} {d : List Rcd} (h : DrI W w rb H nw s d) (hm : Mods No w w') : DrI W w' rb H nw s d := ⟨h.rel.no hm, h.hm.trans hm fun _ _ e => e⟩
theorem drop_counts {w : World} {rb H m d : Nat} {nw : Bool} {s : Tx} {F : Nat → Prop} (h : RelK w rb 1 1 H nw [s] [⟨[], m, d⟩] [] F) :
    Calls Tryd.prog 16 #[(.pointer (some ⟨rb, 0, none⟩))] w (Ret fun v w' => (∃ g c, v = .slice (some ⟨g, 0, none⟩) 1 c ∧ w'.cell? ⟨g, 0, none⟩ = some (ks s) ∧ w'.cell? ⟨g, 1, none⟩ = some (.bool true) ∧ w'.cell? ⟨g, 2, none⟩ = some (.int .i64 0) ∧ w'.cell? ⟨g, 3, none⟩ = some (.int .i64 (m : Int)) ∧ w'.cell? ⟨g, 4, none⟩ = some (.int .i64 (d : Int))) ∧ Mods No w w') := by
  refine ret_use (counts_K w rb 1 1 H nw [s] [⟨[], m, d⟩] [] F h) fun v w' ⟨ho, hm⟩ => ⟨?_, hm⟩
  have ho1 : Own w' (fun g => w.heap.size ≤ g) 53 5 v 1 (cc (s, true, 0, m, d)) := ho
  obtain ⟨g, c, rfl, _, _, hx⟩ := ho1.cells (by decide)
  exact ⟨g, c, rfl, (hx 0 (by decide)).1, (hx 1 (by decide)).1, (hx 2 (by decide)).1, (hx 3 (by decide)).1, (hx 4 (by decide)).1⟩
theorem same2 {w : World} {F G : Nat → Prop} {v u : Value} {a b : List Rcd} {n m : Nat} (hn : n = a.length) (hm : m = b.length) (hab : a = b) (ha : Rd w F 4 v n (rcs a)) (hb : Rd w G 4 u m (rcs b)) (hF : ∀ k, F k → k < w.heap.size) (hG : ∀ k, G k → k < w.heap.size) :
    Calls Tryd.prog 15 #[v, u] w (Ret fun r w' => r = .bool true ∧ Mods No w w') := by
  subst hn hm
  have h := sameR_K w F G v u a b ha hb hF hG
  rwa [decide_eq_true hab] at h
theorem cell_no {a b : World} (h : Mods No a b) {p : Addr} {v : Value} (hp : a.cell? p = some v) : b.cell? p = some v := (World.cell?_of_block (h.block p.block (World.block_lt_of_cell? a p hp) fun e => e)).trans hp
theorem nodes_one (s : Tx) : nodesOf [s] = [s] := rfl
set_option maxHeartbeats 6400000 in
theorem relayDrops_K (w : World) (s : Tx) (held : Int) (nw : Bool) (vl : Value) (l : List Rcd) (ht : Tab w) (hs : s.length ≤ maxLen) (hr : Rd w (fun g => g < w.heap.size) 4 vl l.length (rcs l)) (hp : ∀ x ∈ l, x.1.length ≤ maxLen) (hl : l.length ≤ 1152921504606846976) :
    Calls Tryd.prog 4 #[ks s, .int .i64 held, .bool nw, vl] w (Ret fun v w' => v = .bool true ∧ Mods No w w') := by
  obtain ⟨W, hW⟩ : ∃ W, W = ((w.alloc (.cells #[ks s] 9)).alloc (.cells #[.slice (some ⟨w.heap.size, 0, none⟩) 1 1, .int .i64 1, .int .i64 1, .int .i64 held, .bool nw] 26)) := ⟨_, rfl⟩
  have hM0 : Mods No w W := by rw [hW]; exact ((Mods.refl No w).alloc _).alloc _
  have hz0 : W.heap.size = w.heap.size + 2 := by rw [hW, World.size_alloc, World.size_alloc]
  have hrd : Rd W (fun g => g < W.heap.size) 1 (.slice (some ⟨w.heap.size, 0, none⟩) 1 1) [s].length ([s].map ks) := by
    rw [hW]
    exact (Rd.boxlt w #[ks s] 9 (n := 1) (size := 1) rfl (by decide)).keep ((Mods.refl No _).alloc _)
  have hbx : Cells W (w.heap.size + 1) 26 #[.slice (some ⟨w.heap.size, 0, none⟩) 1 1, .int .i64 1, .int .i64 1, .int .i64 held, .bool nw] := by
    rw [hW]
    have h := Cells.new (w.alloc (.cells #[ks s] 9)) 26 #[.slice (some ⟨w.heap.size, 0, none⟩) 1 1, .int .i64 1, .int .i64 1, .int .i64 held, .bool nw]
    rwa [World.size_alloc] at h
  have hn := relnew_K W _ [s] 1 1 held nw hrd (ht.no hM0)
  have hrn := fun w' (hm : Mods No W w') => rrnew_K w' _ 1 [s] 1 1 held nw (hrd.keep hm)
  have hal := fun w' (hm : Mods No W w') => ralive_K w' ((ht.no hM0).no hm)
  obtain ⟨e, he⟩ : ∃ e, e = relE [s] 1 1 held := ⟨_, rfl⟩
  unfold RrNewIs at hrn
  rw [← he] at hrn
  have HBX := Lib.hid hbx
  have HM0 := Lib.hid hM0
  have b0 := hbx.at_ 0 rfl
  have b1 := hbx.at_ 1 rfl
  have b2 := hbx.at_ 2 rfl
  have b3 := hbx.at_ 3 rfl
  have b4 := hbx.at_ 4 rfl
  have bl := hbx.lt
  by_cases h0 : e = 0
  · have he1 : (e != 0) = false := by rw [h0]; rfl
    have hz := relE_zero (he.symm.trans h0)
    have hok := fun w' v (h : RelNew W w' [s] 1 1 held nw v) => relnew_ok h (he.symm.trans h0)
    obtain ⟨H, rfl⟩ : ∃ H : Nat, held = (H : Int) := ⟨held.toNat, by omega⟩
    obtain ⟨A, c, rfl, hac, hmx⟩ := hr.form
    subst h0
    have Hz := Lib.hid hz
    have Hp := Lib.hid hp
    clear hz he hbx hM0 hz0 hrd hp
    subst hW
    have Hht := Lib.hid ht
    clear ht
    have Hhs := Lib.hid hs
    clear hs
    have Hhn := Lib.hid hn
    clear hn
    have Hhrn := Lib.hid hrn
    clear hrn
    have Hhal := Lib.hid hal
    clear hal
    have Hhok := Lib.hid hok
    clear hok
    have Hhr := Lib.hid hr
    clear hr
    unfold ks at *
    go_enter Tryd.func4, Tryd.ntmps4
    go_wp2_with (first | (go_at_call 10; (refine ret_use (Hhn.out) ?_; rintro v w2 hn2; obtain ⟨rb, rfl, hr2, hm2⟩ := Hhok.out _ _ hn2; have HM2 := Lib.hid hm2; have hd2 := drop_new hr2 hm2; rw [Int.toNat_natCast] at hd2; have HD2 := Lib.hid hd2; clear hd2; have hb2 := HBX.out.mods hm2 fun e => e; have d0 := hb2.at_ 0 rfl; have d1 := hb2.at_ 1 rfl; have d2 := hb2.at_ 2 rfl; have d3 := hb2.at_ 3 rfl; have d4 := hb2.at_ 4 rfl; have dl := hb2.lt; clear hn2 hm2 hb2 hr2)) | (go_at_call 11; (refine ret_use (Hhrn.out _ HM2.out) ?_; rintro v w3 hn3; obtain ⟨A0, n0, c0, C', R', H', nw', cc, A1, n1, c1, A2, n2, c2, A3, n3, c3, rfl, hm3, -⟩ := hn3; have HM3 := Lib.hid hm3; clear hm3)) | ((with_reducible refine wp_region_por ?_ ?_ ?_ ?_); kernel_rfl; kernel_rfl; (with_reducible repeat (first | exact calm_ret | refine calm_then ?_ | refine calm_in ?_ | refine calm_chk ?_ | refine calm_noGoto ?_))) | ((with_reducible refine chk_end ?_ ?_); kernel_rfl))
    have HD3 := Lib.hid ((HD2.out.no HM3.out).no ((Mods.refl No w3).alloc (.cells #[.slice A0 n0 c0, .int .i64 C', .int .i64 R', .int .i64 H', .bool nw', .int .i64 cc, .slice A1 n1 c1, .slice A2 n2 c2, .slice A3 n3 c3] 36)))
    clear d0 d1 d2 d3 d4 b0 b1 b2 b3 b4
    go_loopg [14] l.length (fun k v14 wr => ∃ i : Nat, v14 = .int .i64 i ∧ i ≤ l.length ∧ k + i = l.length ∧ DrI ((w.alloc (.cells #[.string ⟨s.toArray⟩] 9)).alloc (.cells #[.slice (some ⟨w.heap.size, 0, none⟩) 1 1, .int .i64 1, .int .i64 1, .int .i64 (H : Int), .bool nw] 26)) wr rb H nw s (l.take i))
    case atStart => exact ⟨0, rfl, Nat.zero_le _, rfl, HD3.out⟩
    case round =>
      obtain ⟨i, rfl, hi, hki, hin⟩ := hrel
      have Hki := Lib.hid hki
      have Hin := Lib.hid hin
      have hrr := Hhr.out.keep (HM0.out.trans hin.hm fun _ _ e => e)
      clear hki hin
      rcases Nat.lt_or_ge i l.length with h1 | h1
      · obtain ⟨x, hx⟩ := lt_get h1
        obtain ⟨b1, o1, rfl, _, x0, x1, x2, x3⟩ := hrr.rcd rfl hx
        have hpt := fun w' h => drop_put (W := ((w.alloc (.cells #[.string ⟨s.toArray⟩] 9)).alloc (.cells #[.slice (some ⟨w.heap.size, 0, none⟩) 1 1, .int .i64 1, .int .i64 1, .int .i64 (H : Int), .bool nw] 26))) (w := w') (rb := rb) (H := H) (nw := nw) (s := s) (d := l.take i) (x := x) h (Hp.out x (List.mem_of_getElem? hx)) (by rw [List.length_take]; omega)
        have Hx := Lib.hid hx
        clear hrr hx
        have Hhpt := Lib.hid hpt
        clear hpt
        unfold rv ks at Hhpt
        unfold ks at x0
        go_wp2_with (first | (go_at_call 13; (refine ret_use (Hhpt.out _ Hin.out) ?_; rintro v w5 ⟨rfl, hd5⟩; have HD5 := Lib.hid hd5; clear hd5)) | ((with_reducible refine wp_region_por ?_ ?_ ?_ ?_); kernel_rfl; kernel_rfl; (with_reducible repeat (first | exact calm_ret | refine calm_then ?_ | refine calm_in ?_ | refine calm_chk ?_ | refine calm_noGoto ?_))) | ((with_reducible refine chk_end ?_ ?_); kernel_rfl))
        go_roundg (gk - 1)
        case rel => exact ⟨i + 1, by go_num, h1, by have := Hki.out; omega, by rw [take_nx Hx.out]; exact HD5.out⟩
        case measure => have := Hki.out; omega
      · obtain rfl : i = l.length := by omega
        have hin := Hin.out
        rw [List.take_length] at hin
        have htk := fun w' (h : DrI ((w.alloc (.cells #[.string ⟨s.toArray⟩] 9)).alloc (.cells #[.slice (some ⟨w.heap.size, 0, none⟩) 1 1, .int .i64 1, .int .i64 1, .int .i64 (H : Int), .bool nw] 26)) w' rb H nw s l) => take_K w' rb 1 1 H nw [s] [dealt H nw l] [] _ s 65536 h.rel fun t ht => by rw [List.mem_singleton.1 ht]; exact Nat.zero_le _
        obtain ⟨D, hD⟩ : ∃ D, D = (dealt H nw l).L := ⟨_, rfl⟩
        have hdt := fun w' w'' v h ht => drop_take (W := ((w.alloc (.cells #[.string ⟨s.toArray⟩] 9)).alloc (.cells #[.slice (some ⟨w.heap.size, 0, none⟩) 1 1, .int .i64 1, .int .i64 1, .int .i64 (H : Int), .bool nw] 26))) (w := w') (w' := w'') (rb := rb) (H := H) (nw := nw) (s := s) (d := l) (v := v) h ht
        rw [← hD] at hdt
        obtain ⟨m, hm⟩ : ∃ m, m = D.length := ⟨_, rfl⟩
        obtain ⟨d, hd⟩ : ∃ d, d = l.length - H := ⟨_, rfl⟩
        rw [← hm, ← hd] at hdt
        have hct := fun w' F h => drop_counts (w := w') (rb := rb) (H := H) (m := m) (d := d) (nw := nw) (s := s) (F := F) h
        have HIN := Lib.hid hin
        have hq := fun w' => cnt_eql (s, true, 0, (m : Int), (d : Int)) (s, true, 0, (m : Int), (d : Int)) w'
        rw [decide_eq_true rfl] at hq
        unfold cvI at hq
        dsimp only at hq
        have HDD := Lib.hid hD
        have hmH : m ≤ H := by rw [hm, hD, dealt_len]; exact Nat.min_le_left _ _
        have hH := Hz.out
        have Hm := Lib.hid hm
        have Hd := Lib.hid hd
        clear hin hD hm Hin Hki hd
        have Hhtk := Lib.hid htk
        clear htk
        have Hhdt := Lib.hid hdt
        clear hdt
        have Hhct := Lib.hid hct
        clear hct
        unfold ks at Hhtk hq
        by_cases hle : l.length ≤ H
        · have hle' : decide ((H : Int) < (l.length : Int)) = false := decide_eq_false (by omega)
          have hDl : D = l := by
            rw [HDD.out]
            unfold dealt
            cases nw
            · dsimp only
              rw [if_neg (by decide), show l.length - H = 0 by omega]; rfl
            · dsimp only
              rw [if_pos rfl, List.take_of_length_le hle]
          have HEQ := Lib.hid hDl
          obtain rfl : m = l.length := by rw [Hm.out, hDl]
          obtain rfl : d = 0 := by rw [Hd.out]; omega
          clear hDl hH
          go_wp2_with (first | (go_at_call 14; (refine ret_use (Hhtk.out _ HIN.out) ?_; rintro v w4 ht4; obtain ⟨A4, c4, F4, rfl, ho4, hr4, hm4⟩ := Hhdt.out _ _ _ HIN.out ht4; have HO4 := Lib.hid ho4; have HR4 := Lib.hid hr4; have HM4 := Lib.hid hm4; clear ho4 hr4 hm4 ht4)) | (go_at_call 16; (refine ret_use (Hhct.out _ _ HR4.out) ?_; rintro v w5 ⟨⟨g5, k5, rfl, y0, y1, y2, y3, y4⟩, hm5⟩; have HM5 := Lib.hid (HM4.out.trans hm5 fun _ _ e => e); have HO5 := Lib.hid (Tum.Own.mods HO4.out hm5 fun _ _ e => e); have hs5 := same2 Hm.out rfl HEQ.out HO5.out.rdlt (Hhr.out.keep (HM0.out.trans HM5.out fun _ _ e => e)) (fun _ e => e) (fun _ e => e); have HS5 := Lib.hid hs5; unfold ks at y0; clear hs5 hm5)) | (go_at_call 15; (refine ret_use (HS5.out) ?_; rintro v w6 ⟨rfl, hm6⟩; have HM6 := Lib.hid hm6; have z0 := cell_no hm6 y0; have z1 := cell_no hm6 y1; have z2 := cell_no hm6 y2; have z3 := cell_no hm6 y3; have z4 := cell_no hm6 y4; clear hm6)) | (go_at_call 12; (refine ret_use (Hhal.out _ (HM5.out.trans HM6.out fun _ _ e => e)) ?_; rintro v w7 ⟨rfl, hm7⟩; have HM7 := Lib.hid hm7; clear hm7)) | ((with_reducible refine wp_region_por ?_ ?_ ?_ ?_); kernel_rfl; kernel_rfl; (with_reducible repeat (first | exact calm_ret | refine calm_then ?_ | refine calm_in ?_ | refine calm_chk ?_ | refine calm_noGoto ?_))) | ((with_reducible refine chk_end ?_ ?_); kernel_rfl))
          go_ret
          exact ⟨rfl, HM0.out.trans ((HM5.out.trans HM6.out fun _ _ e => e).trans HM7.out fun _ _ e => e) fun _ _ e => e⟩
        · have hle' : decide ((H : Int) < (l.length : Int)) = true := decide_eq_true (by omega)
          have hd2 : (l.length : Int) - (H : Int) = (d : Int) := by rw [Hd.out]; omega
          by_cases hnw : nw = true
          · subst hnw
            have hDl : D = l.take H := by rw [HDD.out]; unfold dealt; dsimp only; rw [if_pos rfl]
            have HEQ := Lib.hid hDl
            obtain rfl : m = H := by rw [Hm.out, hDl, List.length_take]; omega
            have HHl := Lib.hid (show m = (l.take m).length by rw [List.length_take]; omega)
            have HRT := fun w' (h : Rd w' (fun g => g < w'.heap.size) 4 (.slice A l.length c) l.length (rcs l)) => h.take (l := m) (by omega)
            simp only [rcs_take] at HRT
            clear hDl hH hmH
            have HHRT := Lib.hid HRT
            clear HRT
            go_wp2_with (first | (go_at_call 14; (refine ret_use (Hhtk.out _ HIN.out) ?_; rintro v w4 ht4; obtain ⟨A4, c4, F4, rfl, ho4, hr4, hm4⟩ := Hhdt.out _ _ _ HIN.out ht4; have HO4 := Lib.hid ho4; have HR4 := Lib.hid hr4; have HM4 := Lib.hid hm4; clear ho4 hr4 hm4 ht4)) | (go_at_call 16; (refine ret_use (Hhct.out _ _ HR4.out) ?_; rintro v w5 ⟨⟨g5, k5, rfl, y0, y1, y2, y3, y4⟩, hm5⟩; have HM5 := Lib.hid (HM4.out.trans hm5 fun _ _ e => e); have HO5 := Lib.hid (Tum.Own.mods HO4.out hm5 fun _ _ e => e); have hs5 := same2 Hm.out HHl.out HEQ.out HO5.out.rdlt (HHRT.out _ (Hhr.out.keep (HM0.out.trans HM5.out fun _ _ e => e))) (fun _ e => e) (fun _ e => e); have HS5 := Lib.hid hs5; unfold ks at y0; clear hs5 hm5)) | (go_at_call 15; (refine ret_use (HS5.out) ?_; rintro v w6 ⟨rfl, hm6⟩; have HM6 := Lib.hid hm6; have z0 := cell_no hm6 y0; have z1 := cell_no hm6 y1; have z2 := cell_no hm6 y2; have z3 := cell_no hm6 y3; have z4 := cell_no hm6 y4; clear hm6)) | (go_at_call 12; (refine ret_use (Hhal.out _ (HM5.out.trans HM6.out fun _ _ e => e)) ?_; rintro v w7 ⟨rfl, hm7⟩; have HM7 := Lib.hid hm7; clear hm7)) | ((with_reducible refine wp_region_por ?_ ?_ ?_ ?_); kernel_rfl; kernel_rfl; (with_reducible repeat (first | exact calm_ret | refine calm_then ?_ | refine calm_in ?_ | refine calm_chk ?_ | refine calm_noGoto ?_))) | ((with_reducible refine chk_end ?_ ?_); kernel_rfl))
            go_ret
            exact ⟨rfl, HM0.out.trans ((HM5.out.trans HM6.out fun _ _ e => e).trans HM7.out fun _ _ e => e) fun _ _ e => e⟩
          · obtain rfl : nw = false := by simpa using hnw
            have hDl : D = l.drop (l.length - H) := by rw [HDD.out]; unfold dealt; dsimp only; rw [if_neg (by decide)]
            rw [← Hd.out] at hDl
            have HEQ := Lib.hid hDl
            obtain rfl : m = H := by rw [Hm.out, hDl, List.length_drop, Hd.out]; omega
            have hdl : d ≤ l.length := by rw [Hd.out]; omega
            have hld : l.length - d = m := by omega
            have HHl := Lib.hid (show m = (l.drop d).length by rw [List.length_drop, hld])
            have hcd : ¬ c = d := by omega
            have HRT := fun w' (h : Rd w' (fun g => g < w'.heap.size) 4 (.slice A l.length c) l.length (rcs l)) => h.cut (k := d) (l := l.length) hdl (Nat.le_refl _)
            simp only [rcs_take, List.take_length, rcs_drop l d hdl, if_neg hcd, hld] at HRT
            clear hDl hH hmH
            have HHRT := Lib.hid HRT
            clear HRT
            go_wp2_with (first | (go_at_call 14; (refine ret_use (Hhtk.out _ HIN.out) ?_; rintro v w4 ht4; obtain ⟨A4, c4, F4, rfl, ho4, hr4, hm4⟩ := Hhdt.out _ _ _ HIN.out ht4; have HO4 := Lib.hid ho4; have HR4 := Lib.hid hr4; have HM4 := Lib.hid hm4; clear ho4 hr4 hm4 ht4)) | (go_at_call 16; (refine ret_use (Hhct.out _ _ HR4.out) ?_; rintro v w5 ⟨⟨g5, k5, rfl, y0, y1, y2, y3, y4⟩, hm5⟩; have HM5 := Lib.hid (HM4.out.trans hm5 fun _ _ e => e); have HO5 := Lib.hid (Tum.Own.mods HO4.out hm5 fun _ _ e => e); have hs5 := same2 Hm.out HHl.out HEQ.out HO5.out.rdlt (HHRT.out _ (Hhr.out.keep (HM0.out.trans HM5.out fun _ _ e => e))) (fun _ e => e) (fun _ e => e); have HS5 := Lib.hid hs5; unfold ks at y0; clear hs5 hm5)) | (go_at_call 15; (refine ret_use (HS5.out) ?_; rintro v w6 ⟨rfl, hm6⟩; have HM6 := Lib.hid hm6; have z0 := cell_no hm6 y0; have z1 := cell_no hm6 y1; have z2 := cell_no hm6 y2; have z3 := cell_no hm6 y3; have z4 := cell_no hm6 y4; clear hm6)) | (go_at_call 12; (refine ret_use (Hhal.out _ (HM5.out.trans HM6.out fun _ _ e => e)) ?_; rintro v w7 ⟨rfl, hm7⟩; have HM7 := Lib.hid hm7; clear hm7)) | ((with_reducible refine wp_region_por ?_ ?_ ?_ ?_); kernel_rfl; kernel_rfl; (with_reducible repeat (first | exact calm_ret | refine calm_then ?_ | refine calm_in ?_ | refine calm_chk ?_ | refine calm_noGoto ?_))) | ((with_reducible refine chk_end ?_ ?_); kernel_rfl))
            go_ret
            exact ⟨rfl, HM0.out.trans ((HM5.out.trans HM6.out fun _ _ e => e).trans HM7.out fun _ _ e => e) fun _ _ e => e⟩
  · have he1 : (e != 0) = true := bne_iff_ne.2 h0
    have hbad := fun w' v (h : RelNew W w' [s] 1 1 held nw v) => relnew_bad h he h0
    clear he h0 hbx hM0 hz0 hrd hr
    subst hW
    have Hht := Lib.hid ht
    clear ht
    have Hhs := Lib.hid hs
    clear hs
    have Hhp := Lib.hid hp
    clear hp
    have Hhn := Lib.hid hn
    clear hn
    have Hhrn := Lib.hid hrn
    clear hrn
    have Hhal := Lib.hid hal
    clear hal
    have Hhbad := Lib.hid hbad
    clear hbad
    unfold ks at *
    go_enter Tryd.func4, Tryd.ntmps4
    go_wp2_with (first | (go_at_call 10; (refine ret_use (Hhn.out) ?_; rintro v w2 hn2; obtain ⟨rfl, hm2⟩ := Hhbad.out _ _ hn2; have HM2 := Lib.hid hm2; have hb2 := HBX.out.mods hm2 fun e => e; have d0 := hb2.at_ 0 rfl; have d1 := hb2.at_ 1 rfl; have d2 := hb2.at_ 2 rfl; have d3 := hb2.at_ 3 rfl; have d4 := hb2.at_ 4 rfl; have dl := hb2.lt; clear hn2 hm2 hb2)) | (go_at_call 11; (refine ret_use (Hhrn.out _ HM2.out) ?_; rintro v w3 hn3; obtain ⟨A0, n0, c0, C', R', H', nw', cc, A1, n1, c1, A2, n2, c2, A3, n3, c3, rfl, hm3, -⟩ := hn3; have HM3 := Lib.hid (HM2.out.trans hm3 fun _ _ e => e); clear hm3)) | (go_at_call 12; (refine ret_use (Hhal.out _ (by repeat (with_reducible first | exact HM3.out | apply Mods.alloc | apply Mods.drew))) ?_; rintro v w4 ⟨rfl, hm4⟩; have HM4 := Lib.hid hm4; clear hm4)) | ((with_reducible refine wp_region_por ?_ ?_ ?_ ?_); kernel_rfl; kernel_rfl; (with_reducible repeat (first | exact calm_ret | refine calm_then ?_ | refine calm_in ?_ | refine calm_chk ?_ | refine calm_noGoto ?_))) | ((with_reducible refine chk_end ?_ ?_); kernel_rfl))
    go_ret
    exact ⟨rfl, HM0.out.trans ((HM3.out.alloc _).trans HM4.out fun _ _ e => e) fun _ _ e => e⟩
end Go.Proofs.YtcifajfmdpjfiaaDoor
