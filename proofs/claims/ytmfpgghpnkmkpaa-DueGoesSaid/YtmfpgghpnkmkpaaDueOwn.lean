/- The law DueOwn, walked. -/
import Derived.Test.YtmfpgghpnkmkpaaDueOw
namespace Go.Proofs.Ytmfpgghpnkmkpaa
open Go.RowKit Go.Tum Go.Shelf
set_option maxRecDepth 100000
theorem own_x0 : (setQ 1 (d0, 0) [120] 1).2 = 0 := by kernel_rfl
theorem own_x1 : (setQ 1 (d0, 0) [120] 1).1.2 = 1 := by kernel_rfl
/-- The list t of one's own, behind the queues. -/
structure OwT (W : World) (q r p n1 n : Nat) (s : QS) (L : List Ent) (v : Value) (Fd Fr Fp : Nat → Prop) (tv : Value) (wr : World) (i : Nat) (xs : List Value) : Prop where
  th : ThreeL wr q r 65536 s L W.heap.size v Fd Fr p (d0, 0) Fp
  own : Tum.Own wr (fun g => n1 ≤ g) 29 2 tv n xs
  hm : Mods No W wr
  old : ∀ g, Fd g ∨ Fr g ∨ Fp g ∨ g = r → g < n1
theorem OwT.apart {W : World} {q r p n1 n : Nat} {s : QS} {L : List Ent} {v : Value} {Fd Fr Fp : Nat → Prop} {tv : Value} {wr : World} {i : Nat} {xs : List Value} (h : OwT W q r p n1 n s L v Fd Fr Fp tv wr i xs) : ∀ g, tv.ownBlock = some g → ¬ Fd g ∧ ¬ Fr g ∧ ¬ Fp g ∧ g ≠ r := fun g hg => by
  have h1 : n1 ≤ g := h.own.2 g hg
  refine ⟨fun e => ?_, fun e => ?_, fun e => ?_, fun e => ?_⟩
  · exact absurd (h.old g (.inl e)) (Nat.not_lt_of_le h1)
  · exact absurd (h.old g (.inr (.inl e))) (Nat.not_lt_of_le h1)
  · exact absurd (h.old g (.inr (.inr (.inl e)))) (Nat.not_lt_of_le h1)
  · exact absurd (h.old g (.inr (.inr (.inr e)))) (Nat.not_lt_of_le h1)
theorem set_cell_size (w : World) (a : Addr) (u : Value) : (w.setCell a u).heap.size = w.heap.size := by simp [World.setCell]
theorem same_yes (w : World) (F G : Nat → Prop) (v u : Value) (a : List Ent) (ha : Rd w F 2 v a.length (entsL a)) (hb : Rd w G 2 u a.length (entsL a)) (hF : ∀ k, F k → k < w.heap.size) (hG : ∀ k, G k → k < w.heap.size) :
    Calls Try.prog 19 #[v, u] w (Ret fun r w' => r = .bool true ∧ Mods No w w') := by
  have h := same_K w F G v u a a ha hb hF hG
  rwa [decide_eq_true rfl] at h
set_option maxHeartbeats 6400000 in
theorem dueOwn_K (W : World) (v : Value) (l : List Ent) (now : Int) (hr : Rd W (fun g => g < W.heap.size) 2 v l.length (entsL l)) (hk : ∀ x ∈ l, x.1.length ≤ 281474976710656) :
    Calls Try.prog 4 #[v, .int .i64 now] W (Ret fun r w' => r = .bool true ∧ Mods No W w') := by
  obtain ⟨A, c, rfl, hlc, hc2⟩ := hr.form
  have hrd := fun w' (hm : Mods No W w') => hr.same (hm.same fun k hk => ⟨hk, fun e => e⟩)
  have hln : l.length ≤ 9223372036854775807 := by unfold maxLen at hc2; omega
  have Hhr := Lib.hid hr
  clear hr
  have Hhk := Lib.hid hk
  clear hk
  have Hhrd := Lib.hid hrd
  clear hrd
  go_enter Try.func4, Try.ntmps4
  go_wp2_with (first | (go_at_call 8; (fail_if_success have := HQ1); go_loud (refine ret_use (new_ok W 65536 (by decide) (by decide)) ?_; rintro v w1 ⟨rfl, hq1, hm1⟩; have HQ1 := Lib.hid hq1; have HM1 := Lib.hid hm1; clear hq1 hm1)) | (go_at_call 8; go_loud (refine ret_use (new_ok w1 1 (by decide) (by decide)) ?_; rintro v w2 ⟨rfl, hq2, hm2⟩; have HQ2 := Lib.hid hq2; have HM2 := Lib.hid hm2; clear hq2 hm2)) | (go_at_call 16; go_loud (refine ret_use (rnew_ok _ 65536 (by decide) (by decide)) ?_; rintro v w3 ⟨rfl, hm3⟩; have HM3 := Lib.hid hm3; clear hm3)) | (go_at_call 15; go_loud (refine ret_use (alive_K _) ?_; rintro v w9 ⟨rfl, hm9⟩; have HM9 := Lib.hid (((Mods.refl No w3).alloc _).trans hm9 fun _ _ e => e); have HC9 := Lib.hid ((Cells.new w3 _ _).mods hm9 fun e => e); clear hm9)) | ((with_reducible refine wp_region_por ?_ ?_ ?_ ?_); kernel_rfl; kernel_rfl; (with_reducible repeat (first | exact calm_ret | refine calm_then ?_ | refine calm_in ?_ | refine calm_chk ?_ | refine calm_noGoto ?_))) | ((with_reducible refine chk_end ?_ ?_); kernel_rfl))
  have HT := Lib.hid (Three.start HQ1.out HM1.out HQ2.out HM2.out (HM3.out.trans HM9.out fun _ _ e => e) HM3.out.size HC9.out)
  have HM := Lib.hid (((HM1.out.trans HM2.out fun _ _ e => e).trans HM3.out fun _ _ e => e).trans HM9.out fun _ _ e => e)
  obtain ⟨r, hrr⟩ : ∃ r, r = w3.heap.size := ⟨_, rfl⟩
  obtain ⟨q, hqq⟩ : ∃ q, q = W.heap.size + 1 := ⟨_, rfl⟩
  obtain ⟨p, hpp⟩ : ∃ p, p = w1.heap.size + 1 := ⟨_, rfl⟩
  rw [← hrr, ← hqq, ← hpp] at HT
  rw [← hrr, ← hqq, ← hpp]
  clear hrr hqq hpp
  go_loopg [11] l.length (fun k v11 wr => ∃ (i : Nat) (s : QS) (v : Value) (Fd Fr Fp : Nat → Prop), v11 = .int .i64 i ∧ i ≤ l.length ∧ k + i = l.length ∧ QI s.1 s.2 ∧ ThreeL wr q r 65536 s (srt s) W.heap.size v Fd Fr p (d0, 0) Fp ∧ Mods No W wr)
  case atStart => exact ⟨0, (d0, 0), _, _, _, _, rfl, Nat.zero_le _, rfl, qi_zero _, HT.out, HM.out⟩
  case round =>
    obtain ⟨i, s, vr, Fd, Fr, Fp, rfl, hi, hki, hqi, hT, hM⟩ := hrel
    have Hki := Lib.hid hki
    have HI := Lib.hid hqi
    have HTI := Lib.hid hT
    have HMI := Lib.hid hM
    clear hki hqi hT hM
    rcases Nat.lt_or_ge i l.length with hil | hil
    · obtain ⟨x, hx⟩ := lt_get hil
      obtain ⟨b, off, rfl, hb, x0, x1⟩ := (Hhrd.out _ HMI.out).pair hx
      have Hx := Lib.hid (And.intro (Hhk.out _ (List.mem_of_getElem? hx)) (And.intro x0 x1))
      clear hx
      unfold ks at x0
      go_wp2_with (first | (go_at_call 9; go_loud (refine ret_use ((HTI.out.no ((Mods.refl No _).drew)).setq (by decide) (by decide) x.1 x.2 Hx.out.1) ?_; rintro u w5 ⟨rfl, hm5, Fd5, h5⟩; have HM5 := Lib.hid (no_ge HMI.out.drew hm5); have HH5 := Lib.hid h5; have y0 := (World.cell?_of_block (a := ⟨b, off + i * 2, none⟩) ((Mods.drew HM5.out).block b hb fun e => e)).trans ((World.cell?_of_block (a := ⟨b, off + i * 2, none⟩) (HMI.out.block b hb fun e => e)).symm.trans Hx.out.2.1); have y1 := (World.cell?_of_block (a := ⟨b, off + i * 2 + 1, none⟩) ((Mods.drew HM5.out).block b hb fun e => e)).trans ((World.cell?_of_block (a := ⟨b, off + i * 2 + 1, none⟩) (HMI.out.block b hb fun e => e)).symm.trans Hx.out.2.2); (unfold ks at y0); clear hm5 h5)) | (go_at_call 17; go_loud (refine ret_use ((HH5.out.no ((Mods.refl No _).drew)).setr (by decide) x.1 x.2) ?_; rintro u w6 ⟨rfl, hm6, v6, Fr6, h6⟩; have HM6 := Lib.hid (no_ge HM5.out.drew hm6); have HH6 := Lib.hid h6; clear hm6 h6)) | ((with_reducible refine wp_region_por ?_ ?_ ?_ ?_); kernel_rfl; kernel_rfl; (with_reducible repeat (first | exact calm_ret | refine calm_then ?_ | refine calm_in ?_ | refine calm_chk ?_ | refine calm_noGoto ?_))) | ((with_reducible refine chk_end ?_ ?_); kernel_rfl))
      go_roundg (gk - 1)
      case rel =>
        have h5 := Hki.out
        obtain ⟨r1, r2, r3⟩ := set_ref HI.out 65536 x.1 x.2
        refine ⟨i + 1, (setQ 65536 s x.1 x.2).1, v6, Fd5, Fr6, Fp, by go_num, hil, by omega, r1, ?_, HM6.out⟩
        rw [r2]
        exact HH6.out
      case measure => have := Hki.out; omega
    · obtain rfl : i = l.length := by omega
      obtain ⟨r1, r2, r3⟩ := take_ref now HI.out
      have hT6 : (takeQ now s.2 s).1.length ≤ 65536 := by
        rw [r2]
        exact Nat.le_trans (List.IsPrefix.length_le (List.takeWhile_prefix _)) HTI.out.two.hr.small
      have htq := HTI.out.takeq (by decide) now
      have htr := fun w' (h : ThreeL w' q r 65536 (takeQ now s.2 s).2 (srt s) W.heap.size vr Fd Fr p (d0, 0) Fp) => h.taker now
      rw [← r2, ← r3] at htr
      obtain ⟨T, hTT⟩ : ∃ T, T = (takeQ now s.2 s).1 := ⟨_, rfl⟩
      obtain ⟨s2, hs2⟩ : ∃ s2, s2 = (takeQ now s.2 s).2 := ⟨_, rfl⟩
      rw [← hTT, ← hs2] at htq htr
      rw [← hTT] at hT6
      have hlr := HTI.out.two.hr.cells.lt
      have hnr := HTI.out.two.nr
      have hold : ∀ g, Fd g ∨ Fr g ∨ Fp g ∨ g = r → g < wr.heap.size := fun g hg => by
        rcases hg with hg | hg | hg | hg
        · exact (HTI.out.two.fd g hg).2.1
        · exact HTI.out.two.hr.lt g hg
        · exact (HTI.out.fp g hg).2.1
        · rw [hg]; exact hlr
      have hWn := HMI.out.size
      clear r1 r2 r3 hTT hs2
      have Hhtq := Lib.hid htq
      clear htq
      have Hhtr := Lib.hid htr
      clear htr
      have Hhold := Lib.hid hold
      clear hold
      go_wp2_with (first | (go_at_call 11; go_loud (refine ret_use (Hhtq.out) ?_; rintro u w5 ⟨ho5, hm5, h5⟩; have HO5 := Lib.hid ho5; have HM5 := Lib.hid (no_ge HMI.out hm5); have HH5 := Lib.hid h5; obtain ⟨A5, c5, rfl, _, _⟩ := ho5.form; clear ho5 hm5 h5)) | (go_at_call 18; go_loud (refine ret_use (Hhtr.out _ HH5.out) ?_; rintro u w6 ⟨hr6, hm6, v6, h6⟩; have HO6 := Lib.hid (HO5.out.mods hm6 (fun g hg e => absurd hlr (Nat.not_lt_of_le (e ▸ HO5.out.2 g hg)))); have HR6 := Lib.hid hr6; have HM6 := Lib.hid (no_ge HM5.out (hm6.mono fun g _ hg => hg ▸ hnr)); have HH6 := Lib.hid h6; obtain ⟨A6, c6, rfl, _, _⟩ := hr6.form; clear hr6 hm6 h6)) | (go_at_call 19; go_loud (refine ret_use (same_yes _ (fun g => g < w6.heap.size) Fr _ _ T (Rd.of_own HO6.out.1 fun g hg => HO6.out.lt g hg) HR6.out (fun _ e => e) HH6.out.two.hr.lt) ?_; rintro u w7 ⟨rfl, hm7⟩; have HO7 := Lib.hid (HO6.out.mods hm7 fun _ _ e => e); have HH7 := Lib.hid (HH6.out.no hm7); have HM7 := Lib.hid (HM6.out.trans hm7 fun _ _ e => e); clear hm7)) | (go_at_call 10; go_loud (refine ret_use (qlen_K _ p 1 (d0, 0) Fp HH7.out.hp (by decide)) ?_; rintro u w8 ⟨rfl, rfl⟩)) | ((with_reducible refine wp_region_por ?_ ?_ ?_ ?_); kernel_rfl; kernel_rfl; (with_reducible repeat (first | exact calm_ret | refine calm_then ?_ | refine calm_in ?_ | refine calm_chk ?_ | refine calm_noGoto ?_))) | ((with_reducible refine chk_end ?_ ?_); kernel_rfl))
      obtain ⟨n1, hn1⟩ : ∃ n1, n1 = wr.heap.size := ⟨_, rfl⟩
      rw [← hn1] at hWn hlr
      have HI7 := Lib.hid (show OwT W q r p n1 T.length s2 (srt s2) v6 Fd Fr Fp (.slice A5 T.length c5) w7 0 (entsL T) from ⟨HH7.out, by rw [hn1]; exact HO7.out, HM7.out, by rw [hn1]; exact Hhold.out⟩)
      clear hn1
      go_loopg [14] T.length (fun k v14 wr => ∃ (i : Nat) (xs : List Value), v14 = .int .i64 i ∧ i ≤ T.length ∧ k + i = T.length ∧ OwT W q r p n1 T.length s2 (srt s2) v6 Fd Fr Fp (.slice A5 T.length c5) wr i xs)
      case atStart => exact ⟨0, _, rfl, Nat.zero_le _, rfl, HI7.out⟩
      case round =>
        clear Hki
        obtain ⟨i, xs, rfl, hi, hki, hin⟩ := hrel
        have Hki := Lib.hid hki
        have Hin := Lib.hid hin
        clear hki hin
        rcases Nat.lt_or_ge i T.length with hil | hil
        · obtain ⟨g, c', e, hg, hc', hx⟩ := Hin.out.own.cells (by omega)
          injection e with e e1 e2
          subst e e2
          have hxl := Hin.out.own.1.1
          have x0 := (hx (i * 2) (by omega)).1
          have f0 := (hx (i * 2) (by omega)).2
          have x1 := (hx (i * 2 + 1) (by omega)).1
          have f1 := (hx (i * 2 + 1) (by omega)).2
          obtain ⟨u0, hu0⟩ : ∃ u, xs[i * 2]? = some u := ⟨_, List.getElem?_eq_getElem (by omega)⟩
          obtain ⟨u1, hu1⟩ : ∃ u, xs[i * 2 + 1]? = some u := ⟨_, List.getElem?_eq_getElem (by omega)⟩
          rw [hu0] at x0
          rw [hu1] at x1
          have hgn : n1 ≤ g := hg
          clear hx hxl e1 hc' hu0 hu1
          go_wp2_with (first | ((with_reducible refine wp_region_por ?_ ?_ ?_ ?_); kernel_rfl; kernel_rfl; (with_reducible repeat (first | exact calm_ret | refine calm_then ?_ | refine calm_in ?_ | refine calm_chk ?_ | refine calm_noGoto ?_))) | ((with_reducible refine chk_end ?_ ?_); kernel_rfl))
          go_roundg (gk - 1)
          case rel =>
            have h5 := Hki.out
            refine ⟨i + 1, (xs.set (i * 2) (ks [116, 117, 114, 110, 101, 100])).set (i * 2 + 1) (.int .i64 now), by go_num, hil, by omega, ?_⟩
            have hms : ∀ a b, Mods (fun k => k = g) wr ((wr.setCell ⟨g, i * 2, none⟩ a).setCell ⟨g, i * 2 + 1, none⟩ b) := fun a b => ((Mods.refl (fun k => k = g) wr).setCell ⟨g, i * 2, none⟩ a fun _ => rfl).setCell ⟨g, i * 2 + 1, none⟩ b fun _ => rfl
            exact ⟨Hin.out.th.mods (hms _ _) fun k hk => by rw [hk]; exact Hin.out.apart g rfl, (Hin.out.own.set (g := g) rfl (i * 2) _).set (g := g) rfl (i * 2 + 1) _, Hin.out.hm.trans (hms _ _) fun k hk e => by omega, Hin.out.old⟩
          case measure => have := Hki.out; omega
        · obtain rfl : i = T.length := by omega
          obtain ⟨B, e, rfl⟩ := Hin.out.th.two.form
          have HO := Lib.hid (fun o => Own.alloc' Hin.out.own o)
          have hL := srt_len s2
          have hs := Hin.out.th.two.hr.small
          have hLe : ((s2.2 : Int) == ((srt s2).length : Int)) = true := by rw [hL]; simp
          have HhL := Lib.hid hL
          clear hL
          go_wp2_with (first | (at_builtin; (fail_if_success have := HO8); go_loud ((refine wpList_append _ rfl (.tmp 91) (.tmp 93) 22 rfl 29 (.agg #[.string ⟨#[]⟩, .int .i64 0]) 2 24 Try.underlying22 infoDue rfl (by decide) (F := fun g => n1 ≤ g) (n := T.length) (xs := xs) (by rfl) (HO.out _) (G := fun g => g = wr.heap.size) (y := .slice (some ⟨wr.heap.size, 0, none⟩) 1 1) (m := 1) (news := [ks [109, 111, 114, 101], .int .i64 0]) (by rfl) (Rd.box _ #[ks [109, 111, 114, 101], .int .i64 0] _ rfl rfl (by decide)) (two_one' _ _) (by omega) (by decide) ?_); intro v8 w8 hown8 hm8 _; have HO8 := Lib.hid hown8; have HH8 := Lib.hid ((Hin.out.th.no ((Mods.refl No wr).alloc (.cells #[ks [109, 111, 114, 101], .int .i64 0] 29))).mods hm8 Hin.out.apart); have HM8 := Lib.hid ((Hin.out.hm.alloc (.cells #[ks [109, 111, 114, 101], .int .i64 0] 29)).trans hm8 fun k hk e => by have : n1 ≤ k := Hin.out.own.2 k e; omega); have c1 := HH8.out.two.cells.at_ 1 rfl; obtain ⟨A8, c8, rfl, _, _⟩ := hown8.form; clear hown8 hm8)) | ((with_reducible refine wp_region_two 20 (fun g => g = r) [7, 23] 5 21 ?_ ?_ ?_ ?_ ?_); kernel_rfl; kernel_rfl; kernel_rfl; (with_reducible repeat (first | exact calm_ret | refine calm_then ?_ | refine calm_in ?_ | refine calm_chk ?_ | refine calm_noGoto ?_)); simp only [List.drop_succ_cons, List.drop_zero, List.take_succ_cons, List.take_zero]) | (with_reducible refine segEnd ?_) | (refine And.intro (Keep.one HM10.out HH8.out.two.cells.drew (fun e => e)) ?_) | (refine And.intro (Keep.one HM14.out HH12.out.cells (fun e => e)) ?_) | ((with_reducible refine chkM_end (fun g => g = r) ?_ [.pointer (some ⟨r, 1, none⟩), .pointer (some ⟨r, 1, none⟩)] ?_ ?_ ?_); kernel_rfl; kernel_rfl; (intro v hv x hx; simp only [List.mem_cons, List.not_mem_nil, or_false] at hv; rcases hv with rfl | rfl <;> (injection hx with hx; injection hx with hx; subst hx; simp))) | (go_at_call 20; go_loud (refine ret_use ((HH8.out.no ((Mods.refl No _).drew)).two.all (by decide) _ (by have := HhL.out; omega)) ?_; rintro u w10 ⟨ho10, hm10⟩; have HO10 := Lib.hid ho10; have HM10 := Lib.hid hm10; have HH10 := Lib.hid ((HH8.out.no ((Mods.refl No _).drew)).no hm10); have c2 := HH10.out.two.cells.at_ 1 rfl; clear ho10 hm10)) | (go_at_call 19; go_loud (refine ret_use (same_yes _ (fun g => g < w10.heap.size) Fr _ _ _ (Rd.of_own HO10.out.1 fun g hg => HO10.out.lt g hg) HH10.out.two.hr.rd (fun _ e => e) HH10.out.two.hr.lt) ?_; rintro u w11 ⟨rfl, hm11⟩; have HH11 := Lib.hid (HH10.out.no hm11); have HM11 := Lib.hid ((HM8.out.drew.trans HM10.out fun _ _ e => e).trans hm11 fun _ _ e => e); clear hm11)) | (go_at_call 9; go_loud (refine ret_use (set_K _ p 1 (d0, 0) Fp [120] 1 HH11.out.hp (by decide) (by decide) (by decide)) ?_; rintro u w12 ⟨rfl, hq12, hm12⟩; rw [own_x0]; have QP12 := Lib.hid hq12; have HM12 := Lib.hid (HM11.out.trans hm12 fun k hk e => absurd hk (Nat.not_lt_of_le (HH11.out.fp k e).1)); have HH12 := Lib.hid (HH11.out.two.mods hm12 (fun g hg e => (HH11.out.fp g e).2.2.1 hg) (fun g hg e => (HH11.out.fp g e).2.2.2.2 hg) (fun e => (HH11.out.fp r e).2.2.2.1 rfl)); clear hq12 hm12)) | (go_at_call 10; (fail_if_success have := L1); go_loud (refine ret_use (qlen_K _ p 1 (setQ 1 (d0, 0) [120] 1).1 _ QP12.out (by decide)) ?_; rintro u w13 ⟨rfl, rfl⟩; rw [own_x1]; have L1 := True.intro)) | (go_at_call 10; go_loud (refine ret_use (qlen_K _ q 65536 s2 Fd HH12.out.hq (by decide)) ?_; rintro u w14 ⟨rfl, hw14⟩; have HM14 := Lib.hid (show Mods No w12 w14 by rw [hw14]; exact Mods.refl _ _); have c4 := (HH12.out.no HM14.out).cells.at_ 1 rfl; clear hw14)) | ((with_reducible refine wp_region_por ?_ ?_ ?_ ?_); kernel_rfl; kernel_rfl; (with_reducible repeat (first | exact calm_ret | refine calm_then ?_ | refine calm_in ?_ | refine calm_chk ?_ | refine calm_noGoto ?_))) | ((with_reducible refine chk_end ?_ ?_); kernel_rfl))
          go_ret
          exact ⟨by simp [HhL.out], HM12.out.trans HM14.out fun _ _ e => e⟩
end Go.Proofs.Ytmfpgghpnkmkpaa
