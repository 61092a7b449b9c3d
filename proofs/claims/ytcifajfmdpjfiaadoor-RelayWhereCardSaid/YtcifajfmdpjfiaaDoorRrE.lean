/- The reference's relay: Put. -/
import Derived.Test.YtcifajfmdpjfiaaDoorMRr
namespace Go.Proofs.YtcifajfmdpjfiaaDoor
open Go.RowKit Go.Tum Go.Lib Go.Sort
set_option maxRecDepth 100000
/-- The cells of a block of destinations. -/
theorem gd_at {w : World} {F : Nat → Prop} {gd cd n : Nat} {xs : List Value} (h : Own w F 87 6 (.slice (some ⟨gd, 0, none⟩) n cd) n xs) {k r : Nat} (hk : k < n) (hr : r < 6) : w.cell? ⟨gd, k * 6 + r, none⟩ = xs[k * 6 + r]? ∧ w.frozen? ⟨gd, k * 6 + r, none⟩ = false := by
  obtain ⟨g, c, e, _, _, hc⟩ := h.cells (by omega)
  injection e with e
  injection e with e
  injection e with e
  subst e
  exact hc _ (by omega)
theorem rpu_fin {W wr w8 : World} {x C R H i k n : Nat} {nw : Bool} {N : List Tx} {S : List Stn} {dn : List Tx} {c0 col : Nat → Nat} {gd cd : Nat} {v0 sn sp : Value} {r : Rcd} {Q : List Tx} {s : Tx} {st : Stn} {v v8 : Value} {xs xs1 lv : List Value}
    (hm : Mods (fun b => c0 b ≠ 0) W wr) (hN : Strict ltT N) (h : RrP wr x C R H nw N (dealAll H nw N r (Q.take i) S) dn col gd cd v0 sn sp xs lv) (hc : ∀ b, b < W.heap.size → col b = c0 b)
    (hS : Q[i]? = some s ∧ N[k]? = some s ∧ (dealAll H nw N r (Q.take i) S)[k]? = some st ∧ lv[k]? = some v) (hm8 : Mods (fun b => col b = 4 + k ∨ b = gd) wr w8) (ho8 : OwnAt w8 (fun b => (b < wr.heap.size ∧ col b = 4 + k) ∨ wr.heap.size ≤ b) 45 4 v8 n (rcs (deal H nw r st).L)) (hn : n = (deal H nw r st).L.length)
    (hown : Own w8 (fun b => b = gd) 87 6 (.slice (some ⟨gd, 0, none⟩) N.length cd) N.length xs1)
    (hoth : ∀ i r, i ≠ k → r < 6 → xs1[i * 6 + r]? = xs[i * 6 + r]?) (h0 : xs1[k * 6]? = xs[k * 6]?) (h1 : xs1[k * 6 + 1]? = xs[k * 6 + 1]?) (h2 : xs1[k * 6 + 2]? = xs[k * 6 + 2]?) (h3 : xs1[k * 6 + 3]? = some (.int .i64 ((deal H nw r st).sent : Int))) (h4 : xs1[k * 6 + 4]? = some (.int .i64 ((deal H nw r st).dropped : Int))) :
    RpuI W (w8.setCell ⟨gd, k * 6 + 5, none⟩ v8) x C R H nw N S dn c0 gd cd v0 sn sp r Q (i + 1) := by
  subst hn
  obtain ⟨hs, hk, hst, hv⟩ := hS
  have hkN := (List.getElem?_eq_some_iff.1 hk).1
  have hxl : xs1.length = N.length * 6 := hown.1.1
  have hg3 : col gd = 3 := h.own.2 gd rfl
  have hgl := h.gd_lt
  refine RpuI.next hm hN h hc hs hk hst hv (hm8.setCell _ _ fun _ => .inr rfl) (ho8.far (fun g hg => ?_) v8) (hown.set rfl (k * 6 + 5) v8) (fun i r hi hr => (set_oth v8 hi hr (by decide)).trans (hoth i r hi hr)) ((set_ne0 v8 (by decide)).trans h0) ((set_ne v8 (by decide)).trans h1) ((set_ne v8 (by decide)).trans h2) ((set_ne v8 (by decide)).trans h3) ((set_ne v8 (by decide)).trans h4) (set_eq v8 (by omega))
  rcases hg with ⟨h5, h6⟩ | h5
  · intro e
    have e2 : g = gd := e
    rw [e2, hg3] at h6
    omega
  · intro e
    have e2 : g = gd := e
    omega
theorem rpu_app {wr wp w8 : World} {col : Nat → Nat} {k n m gd cd : Nat} {v v8 : Value} {L : List Rcd} {r : Rcd} {xs1 : List Value} (hF : ∀ b, v.ownBlock = some b → b < wr.heap.size ∧ col b = 4 + k) (hpre : Mods (fun b => b = gd) wr wp) (hog : Own wp (fun b => b = gd) 87 6 (.slice (some ⟨gd, 0, none⟩) m cd) m xs1) (hg3 : col gd = 3)
    (ho8 : OwnAt w8 (fun b => v.ownBlock = some b ∨ b = wp.heap.size) 45 4 v8 (n + 1) (rcs L ++ rc r)) (hm8 : Mods (fun b => v.ownBlock = some b) wp w8) :
    Mods (fun b => col b = 4 + k ∨ b = gd) wr w8 ∧ OwnAt w8 (fun b => (b < wr.heap.size ∧ col b = 4 + k) ∨ wr.heap.size ≤ b) 45 4 v8 (n + 1) (rcs (L ++ [r])) ∧ Own w8 (fun b => b = gd) 87 6 (.slice (some ⟨gd, 0, none⟩) m cd) m xs1 := by
  refine ⟨(hpre.mono fun b _ e => .inr e).trans hm8 fun b _ e => .inl (hF b e).2, ?_, Tum.Own.mods hog hm8 fun b hb e => ?_⟩
  · rw [rcs_snoc]
    refine ho8.more fun b _ hb => ?_
    rcases hb with hb | hb
    · exact .inl (hF b hb)
    · exact .inr (by rw [hb]; exact hpre.size)
  · have h1 := (hF b e).2
    rw [hog.2 b hb, hg3] at h1
    omega
set_option maxHeartbeats 6400000 in
theorem rrput_K (w : World) (x C R H : Nat) (nw : Bool) (N : List Tx) (S : List Stn) (dn : List Tx) (F : Nat → Prop) (r : Rcd) (h : RrK w x C R H nw N S dn F) (hx : r.1.length ≤ maxLen) (hB : StB 2305843009213693952 H S) :
    Calls Tryd.prog 17 #[(.pointer (some ⟨x, 0, none⟩)), rv r] w (Ret fun v w' => v = .int .i64 ((wants dn R (allV (placesOf C N) (fnv64 r.1))).length : Int) ∧ RrK w' x C R H nw N (dealAll H nw N r (wants dn R (allV (placesOf C N) (fnv64 r.1))) S) dn (Ext F w.heap.size) ∧ Mods F w w') := by
  obtain ⟨hI, h0, col0, gd, cd, v0, sn, sp, xs0, lv0, hp, hF⟩ := h
  obtain ⟨Q, hQ⟩ : ∃ Q, Q = wants dn R (allV (placesOf C N) (fnv64 r.1)) := ⟨_, rfl⟩
  have hPp : (allV (placesOf C N) (fnv64 r.1)).Perm N := allV_perm h0.c1 (h0.strict.nodup sto_T) _
  have hQR : Q.length ≤ R := by rw [hQ]; exact wants_le _ _ _
  have hQN : ∀ s ∈ Q, s ∈ N := fun s hs => hPp.mem_iff.1 (wants_mem (hQ ▸ hs)).1
  have hM0 : Mods No w (w.alloc (.cells #[.string ⟨r.1.toArray⟩, .int .i64 r.2.1, .int .u64 r.2.2.1, .int .i64 r.2.2.2] 45)) := (Mods.refl No w).alloc _
  have hwh := rwhere_K (hp.mods hM0 fun _ _ e => e.elim) hI h0 r.1 hx
  rw [← hQ] at hwh ⊢
  have hbx := Cells.new w 45 #[.string ⟨r.1.toArray⟩, .int .i64 r.2.1, .int .u64 r.2.2.1, .int .i64 r.2.2.2]
  have b0 := hbx.at_ 0 rfl
  have bl := hbx.lt
  have HBX := Lib.hid hbx
  have HQN := Lib.hid hQN
  have hR8 := hI.r2
  have hcd : N.length ≤ cd := by obtain ⟨_, _, e, h1, _⟩ := hp.own.form; injection e with _ _ e; omega
  clear hQ hPp hbx hQN
  have HhI := Lib.hid hI
  clear hI
  have Hh0 := Lib.hid h0
  clear h0
  have Hhp := Lib.hid hp
  clear hp
  have HhF := Lib.hid hF
  clear hF
  have HhM0 := Lib.hid hM0
  clear hM0
  have Hhwh := Lib.hid hwh
  clear hwh
  have HhB := Lib.hid hB
  clear hB
  unfold rv
  unfold ks at Hhwh
  unfold ks
  go_enter Tryd.func17, Tryd.ntmps17
  go_wp2_with (first | (go_at_call 23; (refine ret_use (Hhwh.out) ?_; rintro v w2 ⟨ho2, hm2⟩; have HO2 := Lib.hid ho2; have HM2 := Lib.hid (HhM0.out.trans hm2 fun _ _ e => e); have HP2 := Lib.hid (Hhp.out.mods (HhM0.out.trans hm2 fun _ _ e => e) fun _ _ e => e.elim); have HBX2 := Lib.hid (HBX.out.mods hm2 fun e => e); obtain ⟨A2, c2, rfl, _, _⟩ := ho2.form; clear ho2 hm2)) | ((with_reducible refine wp_region_por ?_ ?_ ?_ ?_); kernel_rfl; kernel_rfl; (with_reducible repeat (first | exact calm_ret | refine calm_then ?_ | refine calm_in ?_ | refine calm_chk ?_ | refine calm_noGoto ?_))) | ((with_reducible refine chk_end ?_ ?_); kernel_rfl))
  obtain ⟨c0, hc0⟩ : ∃ c0, c0 = recol2 w.heap.size w2.heap.size col0 0 := ⟨_, rfl⟩
  have hnew : ∀ b, w.heap.size ≤ b → b < w2.heap.size → c0 b = 0 := fun b h1 h2 => by rw [hc0]; unfold recol2; rw [if_neg (by omega), if_pos h2]
  have HC0 := Lib.hid hnew
  have HC1 := Lib.hid hc0
  have hRI := Lib.hid (show RpuI w2 w2 x C R H nw N S dn c0 gd cd v0 sn sp r Q 0 from ⟨⟨_, _, _, HP2.out, fun b _ => by rw [hc0]⟩, Mods.refl _ _⟩)
  clear hnew hc0 b0
  go_loopg [6] Q.length (fun k v6 wr => ∃ i : Nat, v6 = .int .i64 i ∧ i ≤ Q.length ∧ k + i = Q.length ∧ RpuI w2 wr x C R H nw N S dn c0 gd cd v0 sn sp r Q i)
  case atStart => exact ⟨0, rfl, Nat.zero_le _, rfl, hRI.out⟩
  case round =>
    obtain ⟨i, rfl, hi, hki, hin⟩ := hrel
    have Hki := Lib.hid hki
    have HM := Lib.hid hin.hm
    obtain ⟨⟨col, xs, lv, hp8, hcc⟩, _⟩ := hin
    have HP := Lib.hid hp8
    have HCC := Lib.hid hcc
    have hbx8 := HBX2.out.mods HM.out (fun e => by have h1 := HC0.out w.heap.size (Nat.le_refl _) HBX2.out.lt; exact e h1)
    have q0 := hbx8.at_ 0 rfl
    have q1 := hbx8.at_ 1 rfl
    have q2 := hbx8.at_ 2 rfl
    have q3 := hbx8.at_ 3 rfl
    have ql := hbx8.lt
    have r8 := hp8.rel.at_ 8 rfl
    have r3 := hp8.rel.at_ 3 rfl
    have r4 := hp8.rel.at_ 4 rfl
    have rl := hp8.rel.lt
    have gl := hp8.gd_lt
    clear hki hp8 hcc hbx8
    rcases Nat.lt_or_ge i Q.length with h1 | h1
    · obtain ⟨s, hs⟩ := lt_get h1
      have hsN : s ∈ N := HQN.out s (List.mem_of_getElem? hs)
      obtain ⟨k, hk⟩ := List.getElem?_of_mem hsN
      have hkN := (List.getElem?_eq_some_iff.1 hk).1
      obtain ⟨st, hst⟩ := lt_get (show k < (dealAll H nw N r (Q.take i) S).length by rw [dealAll_len, HhI.out.len]; exact hkN)
      obtain ⟨v, hv⟩ := lt_get (show k < lv.length by rw [HP.out.len]; exact hkN)
      obtain ⟨y0, y1, y2, y3, y4, y5, yf⟩ := HP.out.at_ hk hst hv
      have f4 := yf 4 (by decide)
      have f5 := yf 5 (by decide)
      have hB2 := dealAll_ok nw N r HhI.out.h1 (Q.take i) _ _ HhB.out st (List.mem_of_getElem? hst)
      have hd8 : st.dropped ≤ 2305843009213693952 + 8 := Nat.le_trans hB2.1 (by rw [List.length_take]; omega)
      have hL8 : st.L.length ≤ H := hB2.2
      have hH8 := HhI.out.h2
      have hH1 := HhI.out.h1
      have hol := HP.out.each k st v hst hv
      obtain ⟨Av, cv, rfl, hvc, hvm⟩ := hol.form
      have hQr := (Tum.Own.mods HO2.out HM.out fun b hb e => by
        have h2 := HO2.out.2 b hb
        rw [World.size_alloc] at h2
        exact e (HC0.out b (by omega) (HO2.out.lt b hb)))
      obtain ⟨b1, o1, rfl, _, x0⟩ := hQr.rd.tx rfl hs
      have hfd := fun w' (hm : Mods No wr w') => rfind_K (HP.out.mods hm fun _ _ e => e.elim) (by rw [dealAll_len, HhI.out.len]) Hh0.out.small s
      rw [idxV_pos Hh0.out.strict hk] at hfd
      have HS := Lib.hid (And.intro hs (And.intro hk (And.intro hst hv)))
      have HOL := Lib.hid hol
      unfold ks at x0
      clear hs hk hst hv hsN hB2 hol hQr yf y0 y1 y2
      have Hhfd := Lib.hid hfd
      clear hfd
      unfold ks at Hhfd
      have hrow := HP.out.row k s st _ HS.out.2.1 HS.out.2.2.1 HS.out.2.2.2
      obtain ⟨_, _, _, z3, z4, z5⟩ := hrow
      have HZ := Lib.hid (And.intro z3 z4)
      have HZ5 := Lib.hid z5
      have hg3 : col gd = 3 := HP.out.own.2 gd rfl
      have hxg : ¬ x = gd := fun e => by have h5 := HP.out.crx; rw [e, hg3] at h5; omega
      have hgx : ¬ gd = x := fun e => hxg e.symm
      have HG3 := Lib.hid hg3
      have HOG := Lib.hid (show Own wr (fun b => b = gd) 87 6 (.slice (some ⟨gd, 0, none⟩) N.length cd) N.length xs from ⟨HP.out.own.1, fun b hb => by injection hb with hb; exact hb.symm⟩)
      obtain ⟨cur, hcur⟩ := HP.out.own.typed gd rfl
      have Hcur := Lib.hid hcur
      have hxl : xs.length = N.length * 6 := HP.out.own.1.1
      have HXL := Lib.hid hxl
      have Hkn := Lib.hid hkN
      clear z3 z4 z5 hg3 hcur hxl
      by_cases hlt : st.L.length < H
      · have He := Lib.hid (show deal H nw r st = ⟨st.L ++ [r], st.sent, st.dropped⟩ from if_pos hlt)
        go_wp2_with (first | ((with_reducible refine wp_region_one 5 (fun g => g = x) [3] 9 ?_ ?_ ?_ ?_ ?_); kernel_rfl; kernel_rfl; kernel_rfl; (with_reducible repeat (first | exact calm_ret | refine calm_then ?_ | refine calm_in ?_ | refine calm_chk ?_ | refine calm_noGoto ?_)); simp only [List.drop_succ_cons, List.drop_zero, List.take_succ_cons, List.take_zero]) | (with_reducible refine segEnd ?_) | (refine And.intro (Keep.one (Mods.refl No _) HP.out.rel.drew (fun e => e)) ?_) | ((with_reducible refine chkM_end (fun g => g = x) ?_ [.pointer (some ⟨x, 8, none⟩)] ?_ ?_ ?_); kernel_rfl; kernel_rfl; (intro v hv x hx; simp only [List.mem_cons, List.not_mem_nil, or_false] at hv; subst hv; (injection hx with hx; injection hx with hx; subst hx; simp))) | (go_at_call 35; (refine ret_use (Hhfd.out _ (by repeat (with_reducible first | exact Mods.refl _ _ | apply Mods.drew))) ?_; rintro u w5 ⟨rfl, rfl⟩)) | ((with_reducible refine wp_region_one 10 (fun g => g = gd) [4] 6 ?_ ?_ ?_ ?_ ?_); kernel_rfl; kernel_rfl; kernel_rfl; (with_reducible repeat (first | exact calm_ret | refine calm_then ?_ | refine calm_in ?_ | refine calm_chk ?_ | refine calm_noGoto ?_)); simp only [List.drop_succ_cons, List.drop_zero, List.take_succ_cons, List.take_zero]) | (with_reducible refine segEnd ?_) | (refine And.intro (Keep.one ((Mods.refl No _).alloc _) Hcur.out.drew.drew.drew (fun e => e)) ?_) | ((with_reducible refine chkM_end (fun g => g = gd) ?_ [.pointer (some ⟨gd, k * 6 + 5, none⟩)] ?_ ?_ ?_); kernel_rfl; kernel_rfl; (intro v hv x hx; simp only [List.mem_cons, List.not_mem_nil, or_false] at hv; subst hv; (injection hx with hx; injection hx with hx; subst hx; simp))) | (at_builtin; ((refine wpList_append_at _ rfl (.tmp 66) (.tmp 68) 23 rfl 45 (.agg #[.string ⟨#[]⟩, .int .i64 0, .int .u64 0, .int .i64 0]) 4 40 Tryd.underlying23 infoRc rfl (by decide) (F := fun b => col b = 4 + k) (n := st.L.length) (xs := rcs st.L) (by rfl) (HOL.out.mods (S := No) (by repeat (with_reducible first | exact Mods.refl _ _ | apply Mods.alloc | apply Mods.drew)) fun _ _ _ e => e) (G := fun g => g = wr.heap.size) (y := .slice (some ⟨wr.heap.size, 0, none⟩) 1 1) (m := 1) (news := rc r) (by decide) (by rfl) (Rd.box _ #[.string ⟨r.1.toArray⟩, .int .i64 r.2.1, .int .u64 r.2.2.1, .int .i64 r.2.2.2] _ rfl rfl (by decide)) (rc_one r) (by omega) (by decide) ?_); intro v8 w8 ho8 hm8; have HA8 := Lib.hid (rpu_app (fun b hb => HOL.out.lt b hb) (by repeat (with_reducible first | exact Mods.refl _ _ | apply Mods.alloc | apply Mods.drew)) (Tum.Own.mods (S := No) HOG.out (by repeat (with_reducible first | exact Mods.refl _ _ | apply Mods.alloc | apply Mods.drew)) fun _ _ e => e) HG3.out ho8 hm8); have j5 := (gd_at HA8.out.2.2 Hkn.out (r := 5) (by decide)).1.trans HZ5.out; have jf := (gd_at HA8.out.2.2 Hkn.out (r := 5) (by decide)).2; have jl := HA8.out.2.2.lt gd rfl; obtain ⟨A8, c8, rfl, _, _⟩ := ho8.form; clear ho8 hm8)) | ((with_reducible refine wp_region_por ?_ ?_ ?_ ?_); kernel_rfl; kernel_rfl; (with_reducible repeat (first | exact calm_ret | refine calm_then ?_ | refine calm_in ?_ | refine calm_chk ?_ | refine calm_noGoto ?_))) | ((with_reducible refine chk_end ?_ ?_); kernel_rfl))
        go_roundg (gk - 1)
        case rel => exact ⟨i + 1, by go_num, h1, by have := Hki.out; omega, rpu_fin HM.out Hh0.out.strict HP.out HCC.out HS.out HA8.out.1 (by rw [He.out]; exact HA8.out.2.1) (by rw [He.out]; simp) HA8.out.2.2 (fun _ _ _ _ => rfl) rfl rfl rfl (by rw [He.out]; exact HZ.out.1) (by rw [He.out]; exact HZ.out.2)⟩
        case measure => have := Hki.out; omega
      · cases nw with
        | true =>
          have He := Lib.hid (show deal H true r st = ⟨st.L, st.sent, st.dropped + 1⟩ by unfold deal; rw [if_neg hlt, if_pos rfl])
          go_wp2_with (first | ((with_reducible refine wp_region_one 5 (fun g => g = x) [3] 9 ?_ ?_ ?_ ?_ ?_); kernel_rfl; kernel_rfl; kernel_rfl; (with_reducible repeat (first | exact calm_ret | refine calm_then ?_ | refine calm_in ?_ | refine calm_chk ?_ | refine calm_noGoto ?_)); simp only [List.drop_succ_cons, List.drop_zero, List.take_succ_cons, List.take_zero]) | (with_reducible refine segEnd ?_) | (refine And.intro (Keep.one (Mods.refl No _) HP.out.rel.drew (fun e => e)) ?_) | ((with_reducible refine chkM_end (fun g => g = x) ?_ [.pointer (some ⟨x, 8, none⟩)] ?_ ?_ ?_); kernel_rfl; kernel_rfl; (intro v hv x hx; simp only [List.mem_cons, List.not_mem_nil, or_false] at hv; subst hv; (injection hx with hx; injection hx with hx; subst hx; simp))) | (go_at_call 35; (refine ret_use (Hhfd.out _ (by repeat (with_reducible first | exact Mods.refl _ _ | apply Mods.drew))) ?_; rintro u w5 ⟨rfl, rfl⟩)) | ((with_reducible refine wp_region_por ?_ ?_ ?_ ?_); kernel_rfl; kernel_rfl; (with_reducible repeat (first | exact calm_ret | refine calm_then ?_ | refine calm_in ?_ | refine calm_chk ?_ | refine calm_noGoto ?_))) | ((with_reducible refine chk_end ?_ ?_); kernel_rfl))
          go_roundg (gk - 1)
          case rel =>
            have how := Tum.Own.mods (S := No) (HOG.out.set (g := gd) rfl (k * 6 + 4) (.int .i64 ((st.dropped : Int) + 1))) (Mods.refl No _).drew.drew fun _ _ e => e
            have hva := ((HOL.out.far (p := ⟨gd, k * 6 + 4, none⟩) (fun g hg e => by have e2 : g = gd := e; have h5 := HG3.out; rw [e2, h5] at hg; omega) (.int .i64 ((st.dropped : Int) + 1))).mods (S := No) (Mods.refl No _).drew.drew fun _ _ _ e => e)
            have hvt := fun b (hb : (Value.slice Av st.L.length cv).ownBlock = some b) => HOL.out.lt b hb
            have hvb := hva.tight.more (G := fun b => (b < wr.heap.size ∧ col b = 4 + k) ∨ wr.heap.size ≤ b) fun b _ hb => .inl (hvt b hb)
            have hxl := HXL.out
            have hkn := Hkn.out
            exact ⟨i + 1, by go_num, h1, by have := Hki.out; omega, RpuI.next HM.out Hh0.out.strict HP.out HCC.out HS.out.1 HS.out.2.1 HS.out.2.2.1 HS.out.2.2.2 (((Mods.refl _ wr).setCell _ _ fun _ => .inr rfl).drew.drew) (v' := .slice Av st.L.length cv) (by rw [He.out]; exact hvb) how (fun i r hi hr => set_oth _ hi hr (by decide)) (set_ne0 _ (by decide)) (set_ne _ (by decide)) (set_ne _ (by decide)) ((set_ne _ (by decide)).trans (by rw [He.out]; exact HZ.out.1)) (by rw [He.out]; exact set_eq _ (by omega)) ((set_ne _ (by decide)).trans HZ5.out)⟩
          case measure => have := Hki.out; omega
        | false =>
          have He := Lib.hid (show deal H false r st = ⟨st.L.drop 1 ++ [r], st.sent, st.dropped + 1⟩ by unfold deal; rw [if_neg hlt, if_neg (by decide)])
          have hl1 : 1 ≤ st.L.length := by omega
          obtain ⟨g2, o2, c9, e2, _, _⟩ := HOL.out.rd.cells hl1
          injection e2 with e2 _ e3
          subst e2 e3
          have hdrop := HOL.out.drop (k := 1) hl1
          rw [rcs_drop st.L 1 hl1] at hdrop
          by_cases hcv : cv = 1
          · subst hcv
            rw [if_pos rfl] at hdrop
            rw [show st.L.length - 1 = 0 by omega] at hdrop
            have hvc : OwnAt wr (fun b => col b = 4 + k) 45 4 (.slice (some ⟨g2, o2, none⟩) 0 0) 0 (rcs (st.L.drop 1)) := by simpa [Addr.add_lit] using hdrop
            have HVC := Lib.hid hvc
            have hw2 := (hvc.far (p := ⟨gd, k * 6 + 4, none⟩) (fun g hg e => by have e2 : g = gd := e; have h5 := HG3.out; rw [e2, h5] at hg; omega) (.int .i64 ((st.dropped : Int) + 1))).far (p := ⟨gd, k * 6 + 5, none⟩) (fun g hg e => by have e2 : g = gd := e; have h5 := HG3.out; rw [e2, h5] at hg; omega) (.slice (some ⟨g2, o2, none⟩) 0 0)
            have HVW := Lib.hid hw2
            have HOC := Lib.hid ((HOG.out.set (g := gd) rfl (k * 6 + 4) (.int .i64 ((st.dropped : Int) + 1))).set (g := gd) rfl (k * 6 + 5) (.slice (some ⟨g2, o2, none⟩) 0 0))
            have HCU := Lib.hid ((Hcur.out.set_ (k * 6 + 4) (.int .i64 ((st.dropped : Int) + 1))).set_ (k * 6 + 5) (.slice (some ⟨g2, o2, none⟩) 0 0))
            clear hvc hw2 hdrop
            go_wp2_with (first | ((with_reducible refine wp_region_one 5 (fun g => g = x) [3] 9 ?_ ?_ ?_ ?_ ?_); kernel_rfl; kernel_rfl; kernel_rfl; (with_reducible repeat (first | exact calm_ret | refine calm_then ?_ | refine calm_in ?_ | refine calm_chk ?_ | refine calm_noGoto ?_)); simp only [List.drop_succ_cons, List.drop_zero, List.take_succ_cons, List.take_zero]) | (with_reducible refine segEnd ?_) | (refine And.intro (Keep.one (Mods.refl No _) HP.out.rel.drew (fun e => e)) ?_) | ((with_reducible refine chkM_end (fun g => g = x) ?_ [.pointer (some ⟨x, 8, none⟩)] ?_ ?_ ?_); kernel_rfl; kernel_rfl; (intro v hv x hx; simp only [List.mem_cons, List.not_mem_nil, or_false] at hv; subst hv; (injection hx with hx; injection hx with hx; subst hx; simp))) | (go_at_call 35; (refine ret_use (Hhfd.out _ (by repeat (with_reducible first | exact Mods.refl _ _ | apply Mods.drew))) ?_; rintro u w5 ⟨rfl, rfl⟩)) | ((with_reducible refine wp_region_one 10 (fun g => g = gd) [4] 6 ?_ ?_ ?_ ?_ ?_); kernel_rfl; kernel_rfl; kernel_rfl; (with_reducible repeat (first | exact calm_ret | refine calm_then ?_ | refine calm_in ?_ | refine calm_chk ?_ | refine calm_noGoto ?_)); simp only [List.drop_succ_cons, List.drop_zero, List.take_succ_cons, List.take_zero]) | (with_reducible refine segEnd ?_) | (refine And.intro (Keep.one ((Mods.refl No _).alloc _) HCU.out.drew.drew.drew (fun e => e)) ?_) | ((with_reducible refine chkM_end (fun g => g = gd) ?_ [.pointer (some ⟨gd, k * 6 + 5, none⟩)] ?_ ?_ ?_); kernel_rfl; kernel_rfl; (intro v hv x hx; simp only [List.mem_cons, List.not_mem_nil, or_false] at hv; subst hv; (injection hx with hx; injection hx with hx; subst hx; simp))) | (at_builtin; ((refine wpList_append_at _ rfl (.tmp 66) (.tmp 68) 23 rfl 45 (.agg #[.string ⟨#[]⟩, .int .i64 0, .int .u64 0, .int .i64 0]) 4 40 Tryd.underlying23 infoRc rfl (by decide) (F := fun b => col b = 4 + k) (n := 0) (xs := rcs (st.L.drop 1)) (by rfl) (HVW.out.mods (S := No) (by repeat (with_reducible first | exact Mods.refl _ _ | apply Mods.alloc | apply Mods.drew)) fun _ _ _ e => e) (G := fun g => g = wr.heap.size) (y := .slice (some ⟨wr.heap.size, 0, none⟩) 1 1) (m := 1) (news := rc r) (by decide) (by rfl) (Rd.box _ #[.string ⟨r.1.toArray⟩, .int .i64 r.2.1, .int .u64 r.2.2.1, .int .i64 r.2.2.2] _ (by simp [World.setCell]) rfl (by decide)) (rc_one r) (by omega) (by decide) ?_); intro v8 w8 ho8 hm8; have HA8 := Lib.hid (rpu_app (fun b hb => HVC.out.lt b hb) (by repeat (with_reducible first | exact Mods.refl _ _ | apply Mods.alloc | apply Mods.drew | (refine Mods.setCell ?_ _ _ fun _ => rfl))) (Tum.Own.mods (S := No) HOC.out (by repeat (with_reducible first | exact Mods.refl _ _ | apply Mods.alloc | apply Mods.drew)) fun _ _ e => e) HG3.out ho8 hm8); have j5 := (gd_at HA8.out.2.2 Hkn.out (r := 5) (by decide)).1.trans (set_eq _ (by rw [List.length_set, HXL.out]; have := Hkn.out; omega)); have jf := (gd_at HA8.out.2.2 Hkn.out (r := 5) (by decide)).2; have jl := HA8.out.2.2.lt gd rfl; obtain ⟨A8, c8, rfl, _, _⟩ := ho8.form; clear ho8 hm8)) | ((with_reducible refine wp_region_por ?_ ?_ ?_ ?_); kernel_rfl; kernel_rfl; (with_reducible repeat (first | exact calm_ret | refine calm_then ?_ | refine calm_in ?_ | refine calm_chk ?_ | refine calm_noGoto ?_))) | ((with_reducible refine chk_end ?_ ?_); kernel_rfl))
            go_roundg (gk - 1)
            case rel =>
              have hxl := HXL.out
              have hkn := Hkn.out
              have h9 := HA8.out.2.1
              skip
              exact ⟨i + 1, by go_num, h1, by have := Hki.out; omega, rpu_fin HM.out Hh0.out.strict HP.out HCC.out HS.out HA8.out.1 (by rw [He.out]; exact h9) (by rw [He.out]; simp; try omega) HA8.out.2.2 (fun i r hi hr => (set_oth _ hi hr (by decide)).trans (set_oth _ hi hr (by decide))) ((set_ne0 _ (by decide)).trans (set_ne0 _ (by decide))) ((set_ne _ (by decide)).trans (set_ne _ (by decide))) ((set_ne _ (by decide)).trans (set_ne _ (by decide))) ((set_ne _ (by decide)).trans ((set_ne _ (by decide)).trans (by rw [He.out]; exact HZ.out.1))) ((set_ne _ (by decide)).trans (by rw [He.out]; exact set_eq _ (by omega)))⟩
            case measure => have := Hki.out; omega
          · rw [if_neg hcv] at hdrop
            skip
            have hvc : OwnAt wr (fun b => col b = 4 + k) 45 4 (.slice (some ⟨g2, o2 + 4, none⟩) (st.L.length - 1) (cv - 1)) (st.L.length - 1) (rcs (st.L.drop 1)) := by simpa [Addr.add_lit] using hdrop
            have HVC := Lib.hid hvc
            have hw2 := (hvc.far (p := ⟨gd, k * 6 + 4, none⟩) (fun g hg e => by have e2 : g = gd := e; have h5 := HG3.out; rw [e2, h5] at hg; omega) (.int .i64 ((st.dropped : Int) + 1))).far (p := ⟨gd, k * 6 + 5, none⟩) (fun g hg e => by have e2 : g = gd := e; have h5 := HG3.out; rw [e2, h5] at hg; omega) (.slice (some ⟨g2, o2 + 4, none⟩) (st.L.length - 1) (cv - 1))
            have HVW := Lib.hid hw2
            have HOC := Lib.hid ((HOG.out.set (g := gd) rfl (k * 6 + 4) (.int .i64 ((st.dropped : Int) + 1))).set (g := gd) rfl (k * 6 + 5) (.slice (some ⟨g2, o2 + 4, none⟩) (st.L.length - 1) (cv - 1)))
            have HCU := Lib.hid ((Hcur.out.set_ (k * 6 + 4) (.int .i64 ((st.dropped : Int) + 1))).set_ (k * 6 + 5) (.slice (some ⟨g2, o2 + 4, none⟩) (st.L.length - 1) (cv - 1)))
            clear hvc hw2 hdrop
            go_wp2_with (first | ((with_reducible refine wp_region_one 5 (fun g => g = x) [3] 9 ?_ ?_ ?_ ?_ ?_); kernel_rfl; kernel_rfl; kernel_rfl; (with_reducible repeat (first | exact calm_ret | refine calm_then ?_ | refine calm_in ?_ | refine calm_chk ?_ | refine calm_noGoto ?_)); simp only [List.drop_succ_cons, List.drop_zero, List.take_succ_cons, List.take_zero]) | (with_reducible refine segEnd ?_) | (refine And.intro (Keep.one (Mods.refl No _) HP.out.rel.drew (fun e => e)) ?_) | ((with_reducible refine chkM_end (fun g => g = x) ?_ [.pointer (some ⟨x, 8, none⟩)] ?_ ?_ ?_); kernel_rfl; kernel_rfl; (intro v hv x hx; simp only [List.mem_cons, List.not_mem_nil, or_false] at hv; subst hv; (injection hx with hx; injection hx with hx; subst hx; simp))) | (go_at_call 35; (refine ret_use (Hhfd.out _ (by repeat (with_reducible first | exact Mods.refl _ _ | apply Mods.drew))) ?_; rintro u w5 ⟨rfl, rfl⟩)) | ((with_reducible refine wp_region_one 10 (fun g => g = gd) [4] 6 ?_ ?_ ?_ ?_ ?_); kernel_rfl; kernel_rfl; kernel_rfl; (with_reducible repeat (first | exact calm_ret | refine calm_then ?_ | refine calm_in ?_ | refine calm_chk ?_ | refine calm_noGoto ?_)); simp only [List.drop_succ_cons, List.drop_zero, List.take_succ_cons, List.take_zero]) | (with_reducible refine segEnd ?_) | (refine And.intro (Keep.one ((Mods.refl No _).alloc _) HCU.out.drew.drew.drew (fun e => e)) ?_) | ((with_reducible refine chkM_end (fun g => g = gd) ?_ [.pointer (some ⟨gd, k * 6 + 5, none⟩)] ?_ ?_ ?_); kernel_rfl; kernel_rfl; (intro v hv x hx; simp only [List.mem_cons, List.not_mem_nil, or_false] at hv; subst hv; (injection hx with hx; injection hx with hx; subst hx; simp))) | (at_builtin; ((refine wpList_append_at _ rfl (.tmp 66) (.tmp 68) 23 rfl 45 (.agg #[.string ⟨#[]⟩, .int .i64 0, .int .u64 0, .int .i64 0]) 4 40 Tryd.underlying23 infoRc rfl (by decide) (F := fun b => col b = 4 + k) (n := (st.L.length - 1)) (xs := rcs (st.L.drop 1)) (by rfl) (HVW.out.mods (S := No) (by repeat (with_reducible first | exact Mods.refl _ _ | apply Mods.alloc | apply Mods.drew)) fun _ _ _ e => e) (G := fun g => g = wr.heap.size) (y := .slice (some ⟨wr.heap.size, 0, none⟩) 1 1) (m := 1) (news := rc r) (by decide) (by rfl) (Rd.box _ #[.string ⟨r.1.toArray⟩, .int .i64 r.2.1, .int .u64 r.2.2.1, .int .i64 r.2.2.2] _ (by simp [World.setCell]) rfl (by decide)) (rc_one r) (by omega) (by decide) ?_); intro v8 w8 ho8 hm8; have HA8 := Lib.hid (rpu_app (fun b hb => HVC.out.lt b hb) (by repeat (with_reducible first | exact Mods.refl _ _ | apply Mods.alloc | apply Mods.drew | (refine Mods.setCell ?_ _ _ fun _ => rfl))) (Tum.Own.mods (S := No) HOC.out (by repeat (with_reducible first | exact Mods.refl _ _ | apply Mods.alloc | apply Mods.drew)) fun _ _ e => e) HG3.out ho8 hm8); have j5 := (gd_at HA8.out.2.2 Hkn.out (r := 5) (by decide)).1.trans (set_eq _ (by rw [List.length_set, HXL.out]; have := Hkn.out; omega)); have jf := (gd_at HA8.out.2.2 Hkn.out (r := 5) (by decide)).2; have jl := HA8.out.2.2.lt gd rfl; obtain ⟨A8, c8, rfl, _, _⟩ := ho8.form; clear ho8 hm8)) | ((with_reducible refine wp_region_por ?_ ?_ ?_ ?_); kernel_rfl; kernel_rfl; (with_reducible repeat (first | exact calm_ret | refine calm_then ?_ | refine calm_in ?_ | refine calm_chk ?_ | refine calm_noGoto ?_))) | ((with_reducible refine chk_end ?_ ?_); kernel_rfl))
            go_roundg (gk - 1)
            case rel =>
              have hxl := HXL.out
              have hkn := Hkn.out
              have h9 := HA8.out.2.1
              rw [Nat.sub_add_cancel hl1] at h9
              exact ⟨i + 1, by go_num, h1, by have := Hki.out; omega, rpu_fin HM.out Hh0.out.strict HP.out HCC.out HS.out HA8.out.1 (by rw [He.out]; exact h9) (by rw [He.out]; simp; try omega) HA8.out.2.2 (fun i r hi hr => (set_oth _ hi hr (by decide)).trans (set_oth _ hi hr (by decide))) ((set_ne0 _ (by decide)).trans (set_ne0 _ (by decide))) ((set_ne _ (by decide)).trans (set_ne _ (by decide))) ((set_ne _ (by decide)).trans (set_ne _ (by decide))) ((set_ne _ (by decide)).trans ((set_ne _ (by decide)).trans (by rw [He.out]; exact HZ.out.1))) ((set_ne _ (by decide)).trans (by rw [He.out]; exact set_eq _ (by omega)))⟩
            case measure => have := Hki.out; omega
    · obtain rfl : i = Q.length := by omega
      go_wp2_with (first | ((with_reducible refine wp_region_por ?_ ?_ ?_ ?_); kernel_rfl; kernel_rfl; (with_reducible repeat (first | exact calm_ret | refine calm_then ?_ | refine calm_in ?_ | refine calm_chk ?_ | refine calm_noGoto ?_))) | ((with_reducible refine chk_end ?_ ?_); kernel_rfl))
      go_ret
      have hp9 := HP.out
      rw [List.take_length] at hp9
      refine ⟨rfl, ⟨?_, Hh0.out, col, gd, cd, v0, sn, sp, xs, lv, hp9, fun b hb e => ?_⟩, (HM2.out.mono (T := F) fun _ _ e => e.elim).trans HM.out fun b hb e => ?_⟩
      · have hI := HhI.out
        have hd9 := dealAll_ok nw N r hI.h1 Q 2305843009213693952 S HhB.out
        exact ⟨hI.r1, hI.r2, hI.h1, hI.h2, by rw [dealAll_len]; exact hI.len, fun t ht => (hd9 t ht).2, hI.nd, hI.sub⟩
      · rcases Nat.lt_or_ge b w.heap.size with h5 | h5
        · have h6 := HCC.out b (Nat.lt_of_lt_of_le h5 HM2.out.size)
          rw [HC1.out, recol2_old h5] at h6
          exact .inl (HhF.out b h5 (by rw [← h6]; exact e))
        · exact .inr h5
      · rw [HC1.out, recol2_old hb] at e
        exact HhF.out b hb e
end Go.Proofs.YtcifajfmdpjfiaaDoor
