/- The reference's relay: Take, Turn. -/
import Derived.Test.YtcifajfmdpjfiaaDoorRrE
namespace Go.Proofs.YtcifajfmdpjfiaaDoor
open Go.RowKit Go.Tum Go.Lib Go.Sort
set_option maxRecDepth 100000
/-- What the reference's Take tells. -/
def RTakeIs (w w' : World) (x C R H : Nat) (nw : Bool) (N : List Tx) (S : List Stn) (dn : List Tx) (F : Nat → Prop) (s : Tx) (n : Int) (v : Value) : Prop :=
  (takeE N dn s n ≠ 0 ∧ v = .tuple #[.slice none 0 0, .int .i64 (takeE N dn s n)] ∧ RrK w' x C R H nw N S dn F ∧ Mods No w w') ∨
  (takeE N dn s n = 0 ∧ ∃ (k m : Nat) (st : Stn) (A : Option Addr) (c : Nat), N[k]? = some s ∧ S[k]? = some st ∧ (m : Int) = min n st.L.length ∧ v = .tuple #[.slice A m c, .int .i64 0] ∧
    Rd w' F 4 (.slice A m c) m (rcs (st.L.take m)) ∧ RrK w' x C R H nw N (S.set k (takeS m st).2) dn F ∧ Mods F w w')
theorem idxV_neg {N : List Tx} {s : Tx} (h : s ∉ N) : idxV N s = -1 := idxV_out h
set_option maxHeartbeats 6400000 in
theorem rrtake_K (w : World) (x C R H : Nat) (nw : Bool) (N : List Tx) (S : List Stn) (dn : List Tx) (F : Nat → Prop) (s : Tx) (n : Int) (h : RrK w x C R H nw N S dn F) (hB : ∀ t ∈ S, t.sent ≤ 2305843009213693952) :
    Calls Tryd.prog 18 #[(.pointer (some ⟨x, 0, none⟩)), ks s, .int .i64 n] w (Ret fun v w' => RTakeIs w w' x C R H nw N S dn F s n v) := by
  have hR := h
  obtain ⟨hI, h0, col, gd, cd, v0, sn, sp, xs, lv, hp, hF⟩ := h
  have hfd := rfind_K hp hI.len h0.small s
  by_cases hs : s ∈ N
  · obtain ⟨k, hk⟩ := List.getElem?_of_mem hs
    have hkN := (List.getElem?_eq_some_iff.1 hk).1
    obtain ⟨st, hst⟩ := lt_get (show k < S.length by rw [hI.len]; exact hkN)
    obtain ⟨v, hv⟩ := lt_get (show k < lv.length by rw [hp.len]; exact hkN)
    rw [idxV_pos h0.strict hk] at hfd
    obtain ⟨_, y1, _, y3, _, y5, yf⟩ := hp.at_ hk hst hv
    have r8 := hp.rel.at_ 8 rfl
    have rl := hp.rel.lt
    have gl := hp.gd_lt
    have hcd : N.length ≤ cd := by obtain ⟨_, _, e, h1, _⟩ := hp.own.form; injection e with _ _ e; omega
    have hN64 := h0.small
    have hg3 : col gd = 3 := hp.own.2 gd rfl
    have hxg : ¬ x = gd := fun e => by have h5 := hp.crx; rw [e, hg3] at h5; omega
    have hgx : ¬ gd = x := fun e => hxg e.symm
    by_cases hd : s ∈ dn
    · rw [decide_eq_true hd] at y1
      have He := Lib.hid (show takeE N dn s n = 242 by unfold takeE; rw [if_neg (by simpa using hs), if_pos hd])
      clear hd hs hk hst hv yf
      have Hhp := Lib.hid hp
      clear hp
      have HhI := Lib.hid hI
      clear hI
      have Hh0 := Lib.hid h0
      clear h0
      have HhF := Lib.hid hF
      clear hF
      have HhR := Lib.hid hR
      clear hR
      have HhB := Lib.hid hB
      clear hB
      have Hhfd := Lib.hid hfd
      clear hfd
      unfold ks at Hhfd
      unfold ks
      go_enter Tryd.func18, Tryd.ntmps18
      go_wp2_with (first | (go_at_call 35; (refine ret_use (Hhfd.out) ?_; rintro u w5 ⟨rfl, rfl⟩)) | ((with_reducible refine wp_region_por ?_ ?_ ?_ ?_); kernel_rfl; kernel_rfl; (with_reducible repeat (first | exact calm_ret | refine calm_then ?_ | refine calm_in ?_ | refine calm_chk ?_ | refine calm_noGoto ?_))) | ((with_reducible refine chk_end ?_ ?_); kernel_rfl))
      go_ret2
      exact .inl ⟨by rw [He.out]; decide, by rw [He.out]; rfl, HhR.out, Mods.refl _ _⟩
    · rw [decide_eq_false hd] at y1
      by_cases hn : n < 1
      · have hn' : decide (n < 1) = true := decide_eq_true hn
        have He := Lib.hid (show takeE N dn s n = 1 by unfold takeE; rw [if_neg (by simpa using hs), if_neg hd, if_pos hn])
        clear hd hs hk hst hv yf
        have Hhp := Lib.hid hp
        clear hp
        have HhI := Lib.hid hI
        clear hI
        have Hh0 := Lib.hid h0
        clear h0
        have HhF := Lib.hid hF
        clear hF
        have HhR := Lib.hid hR
        clear hR
        have HhB := Lib.hid hB
        clear hB
        have Hhfd := Lib.hid hfd
        clear hfd
        unfold ks at Hhfd
        unfold ks
        go_enter Tryd.func18, Tryd.ntmps18
        go_wp2_with (first | (go_at_call 35; (refine ret_use (Hhfd.out) ?_; rintro u w5 ⟨rfl, rfl⟩)) | ((with_reducible refine wp_region_por ?_ ?_ ?_ ?_); kernel_rfl; kernel_rfl; (with_reducible repeat (first | exact calm_ret | refine calm_then ?_ | refine calm_in ?_ | refine calm_chk ?_ | refine calm_noGoto ?_))) | ((with_reducible refine chk_end ?_ ?_); kernel_rfl))
        go_ret2
        exact .inl ⟨by rw [He.out]; decide, by rw [He.out]; rfl, HhR.out, Mods.refl _ _⟩
      · have He := Lib.hid (show takeE N dn s n = 0 by unfold takeE; rw [if_neg (by simpa using hs), if_neg hd, if_neg hn])
        obtain ⟨m0, rfl⟩ : ∃ m0 : Nat, n = (m0 : Int) := ⟨n.toNat, by omega⟩
        have hL8 := hI.held st (List.mem_of_getElem? hst)
        have hH8 := hI.h2
        have hse := hB st (List.mem_of_getElem? hst)
        have f3 := yf 3 (by decide)
        have f5 := yf 5 (by decide)
        obtain ⟨_, _, _, _, z4, _⟩ := hp.row k s st v hk hst hv
        have hol := hp.each k st v hst hv
        obtain ⟨Av, cv, rfl, hvc, hvm⟩ := hol.form
        unfold maxLen at hvm
        have HOL := Lib.hid hol
        have HS := Lib.hid (And.intro hk (And.intro hst hv))
        have HZ := Lib.hid z4
        have HG3 := Lib.hid hg3
        have HXL := Lib.hid (show xs.length = N.length * 6 from hp.own.1.1)
        have Hkn := Lib.hid hkN
        have HOG := Lib.hid (show Own w (fun b => b = gd) 87 6 (.slice (some ⟨gd, 0, none⟩) N.length cd) N.length xs from ⟨hp.own.1, fun b hb => by injection hb with hb; exact hb.symm⟩)
        have Hp := Lib.hid hp
        clear hd hs hk hst hv yf z4 hol hp hg3
        have HhI := Lib.hid hI
        clear hI
        have Hh0 := Lib.hid h0
        clear h0
        have HhF := Lib.hid hF
        clear hF
        have HhR := Lib.hid hR
        clear hR
        have HhB := Lib.hid hB
        clear hB
        by_cases hml : m0 ≤ st.L.length
        · have HMN := Lib.hid (show (m0 : Int) = min (m0 : Int) (st.L.length : Int) by omega)
          have hdrop := HOL.out.drop (k := m0) hml
          have hrt := (HOL.out.more (G := fun b => b < w.heap.size ∧ col b = 4 + k) fun b hb e => ⟨hb, e⟩).rd.take (l := m0) hml
          rw [rcs_drop st.L m0 hml] at hdrop
          rw [rcs_take] at hrt
          by_cases hcv : cv = m0
          · subst hcv
            rw [if_pos rfl, Nat.sub_self, show st.L.length - cv = 0 by omega] at hdrop
            have hvc : OwnAt w (fun b => col b = 4 + k) 45 4 (.slice Av 0 0) 0 (rcs (st.L.drop cv)) := by simpa [Addr.add_lit] using hdrop
            have hne : ∀ g, col g = 4 + k → g ≠ gd := fun g hg e => by rw [e, HG3.out] at hg; omega
            have hw2 := (hvc.far (p := ⟨gd, k * 6 + 5, none⟩) (fun g hg => hne g hg) (.slice Av 0 0)).far (p := ⟨gd, k * 6 + 3, none⟩) (fun g hg => hne g hg) (.int .i64 ((st.sent : Int) + (cv : Nat)))
            have hrw := (hrt.same (Same.setCell w ⟨gd, k * 6 + 5, none⟩ (.slice Av 0 0) fun e => hne gd e.2 rfl)).same (Same.setCell _ ⟨gd, k * 6 + 3, none⟩ (.int .i64 ((st.sent : Int) + (cv : Nat))) fun e => hne gd e.2 rfl)
            have HVW := Lib.hid hw2
            have HRW := Lib.hid hrw
            have HOC := Lib.hid ((HOG.out.set (g := gd) rfl (k * 6 + 5) (.slice Av 0 0)).set (g := gd) rfl (k * 6 + 3) (.int .i64 ((st.sent : Int) + (cv : Nat))))
            clear hvc hw2 hrw hdrop hrt hne
            have Hhfd := Lib.hid hfd
            clear hfd
            unfold ks at Hhfd
            unfold ks
            go_enter Tryd.func18, Tryd.ntmps18
            go_wp2_with (first | (go_at_call 35; (refine ret_use (Hhfd.out) ?_; rintro u w5 ⟨rfl, rfl⟩)) | ((with_reducible refine wp_region_por ?_ ?_ ?_ ?_); kernel_rfl; kernel_rfl; (with_reducible repeat (first | exact calm_ret | refine calm_then ?_ | refine calm_in ?_ | refine calm_chk ?_ | refine calm_noGoto ?_))) | ((with_reducible refine chk_end ?_ ?_); kernel_rfl))
            go_ret2
            have hxl := HXL.out
            have hkn := Hkn.out
            have hts := takeS_ok (s := st) (m := cv) (by omega)
            have hmm : Mods (fun b => col b = 4 + k ∨ b = gd) w ((w.setCell ⟨gd, k * 6 + 5, none⟩ (.slice Av 0 0)).setCell ⟨gd, k * 6 + 3, none⟩ (.int .i64 ((st.sent : Int) + (cv : Nat)))) := ((Mods.refl _ w).setCell _ _ fun _ => .inr rfl).setCell _ _ fun _ => .inr rfl
            have hst2 := Hp.out.step (st' := (takeS cv st).2) HS.out.2.1 HS.out.2.2 hmm (v' := (.slice Av 0 0)) (by rw [hts]; have h9 := HVW.out.tight.more (G := fun b => (b < w.heap.size ∧ col b = 4 + k) ∨ w.heap.size ≤ b) fun b hb e => .inl ⟨by simpa [World.setCell] using hb, (HVW.out.lt b e).2⟩; rw [show (st.L.drop cv).length = 0 by rw [List.length_drop]; omega]; exact h9) HOC.out (fun i r hi hr => (set_oth _ hi hr (by decide)).trans (set_oth _ hi hr (by decide))) ((set_ne0 _ (by decide)).trans (set_ne0 _ (by decide))) ((set_ne _ (by decide)).trans (set_ne _ (by decide))) ((set_ne _ (by decide)).trans (set_ne _ (by decide))) (by rw [hts]; exact set_eq _ (by rw [List.length_set]; omega)) (by rw [hts]; exact (set_ne _ (by decide)).trans ((set_ne _ (by decide)).trans HZ.out)) ((set_ne _ (by decide)).trans (set_eq _ (by omega)))
            refine .inr ⟨He.out, k, cv, st, Av, cv, HS.out.1, HS.out.2.1, HMN.out, rfl, HRW.out.more fun b e => ?_, ⟨HhI.out.take HS.out.2.1, Hh0.out, _, gd, cd, v0, sn, sp, _, _, hst2, fun b hb e => ?_⟩, hmm.mono fun b hb e => ?_⟩
            · exact HhF.out b e.1 (by rw [e.2]; omega)
            · rcases recol2_ne e with ⟨h5, h6⟩ | ⟨h5, _⟩
              · exact HhF.out b h5 h6
              · have h7 : b < w.heap.size := by simpa [World.setCell] using hb
                omega
            · rcases e with e | e
              · exact HhF.out b hb (by rw [e]; omega)
              · exact HhF.out b hb (by rw [e, HG3.out]; decide)
          · rw [if_neg hcv] at hdrop
            rcases HOL.out.2 with ⟨e5, e6⟩ | ⟨g2, o2, cap2, cur2, e5, _⟩
            · injection e5 with _ _ e5
              omega
            · injection e5 with e5 _ e7
              subst e5 e7
              have hvc : OwnAt w (fun b => col b = 4 + k) 45 4 (.slice (some ⟨g2, o2 + m0 * 4, none⟩) (st.L.length - m0) (cv - m0)) (st.L.length - m0) (rcs (st.L.drop m0)) := by simpa [Addr.add_lit] using hdrop
              have hne : ∀ g, col g = 4 + k → g ≠ gd := fun g hg e => by rw [e, HG3.out] at hg; omega
              have hw2 := (hvc.far (p := ⟨gd, k * 6 + 5, none⟩) (fun g hg => hne g hg) (.slice (some ⟨g2, o2 + m0 * 4, none⟩) (st.L.length - m0) (cv - m0))).far (p := ⟨gd, k * 6 + 3, none⟩) (fun g hg => hne g hg) (.int .i64 ((st.sent : Int) + (m0 : Nat)))
              have hrw := (hrt.same (Same.setCell w ⟨gd, k * 6 + 5, none⟩ (.slice (some ⟨g2, o2 + m0 * 4, none⟩) (st.L.length - m0) (cv - m0)) fun e => hne gd e.2 rfl)).same (Same.setCell _ ⟨gd, k * 6 + 3, none⟩ (.int .i64 ((st.sent : Int) + (m0 : Nat))) fun e => hne gd e.2 rfl)
              have HVW := Lib.hid hw2
              have HRW := Lib.hid hrw
              have HOC := Lib.hid ((HOG.out.set (g := gd) rfl (k * 6 + 5) (.slice (some ⟨g2, o2 + m0 * 4, none⟩) (st.L.length - m0) (cv - m0))).set (g := gd) rfl (k * 6 + 3) (.int .i64 ((st.sent : Int) + (m0 : Nat))))
              clear hvc hw2 hrw hdrop hrt hne
              have Hhfd := Lib.hid hfd
              clear hfd
              unfold ks at Hhfd
              unfold ks
              go_enter Tryd.func18, Tryd.ntmps18
              go_wp2_with (first | (go_at_call 35; (refine ret_use (Hhfd.out) ?_; rintro u w5 ⟨rfl, rfl⟩)) | ((with_reducible refine wp_region_por ?_ ?_ ?_ ?_); kernel_rfl; kernel_rfl; (with_reducible repeat (first | exact calm_ret | refine calm_then ?_ | refine calm_in ?_ | refine calm_chk ?_ | refine calm_noGoto ?_))) | ((with_reducible refine chk_end ?_ ?_); kernel_rfl))
              go_ret2
              have hxl := HXL.out
              have hkn := Hkn.out
              have hts := takeS_ok (s := st) (m := m0) (by omega)
              have hmm : Mods (fun b => col b = 4 + k ∨ b = gd) w ((w.setCell ⟨gd, k * 6 + 5, none⟩ (.slice (some ⟨g2, o2 + m0 * 4, none⟩) (st.L.length - m0) (cv - m0))).setCell ⟨gd, k * 6 + 3, none⟩ (.int .i64 ((st.sent : Int) + (m0 : Nat)))) := ((Mods.refl _ w).setCell _ _ fun _ => .inr rfl).setCell _ _ fun _ => .inr rfl
              have hst2 := Hp.out.step (st' := (takeS m0 st).2) HS.out.2.1 HS.out.2.2 hmm (v' := (.slice (some ⟨g2, o2 + m0 * 4, none⟩) (st.L.length - m0) (cv - m0))) (by rw [hts]; have h9 := HVW.out.tight.more (G := fun b => (b < w.heap.size ∧ col b = 4 + k) ∨ w.heap.size ≤ b) fun b hb e => .inl ⟨by simpa [World.setCell] using hb, (HVW.out.lt b e).2⟩; rw [show (st.L.drop m0).length = st.L.length - m0 from List.length_drop]; exact h9) HOC.out (fun i r hi hr => (set_oth _ hi hr (by decide)).trans (set_oth _ hi hr (by decide))) ((set_ne0 _ (by decide)).trans (set_ne0 _ (by decide))) ((set_ne _ (by decide)).trans (set_ne _ (by decide))) ((set_ne _ (by decide)).trans (set_ne _ (by decide))) (by rw [hts]; exact set_eq _ (by rw [List.length_set]; omega)) (by rw [hts]; exact (set_ne _ (by decide)).trans ((set_ne _ (by decide)).trans HZ.out)) ((set_ne _ (by decide)).trans (set_eq _ (by omega)))
              refine .inr ⟨He.out, k, m0, st, (some ⟨g2, o2, none⟩), cv, HS.out.1, HS.out.2.1, HMN.out, rfl, HRW.out.more fun b e => ?_, ⟨HhI.out.take HS.out.2.1, Hh0.out, _, gd, cd, v0, sn, sp, _, _, hst2, fun b hb e => ?_⟩, hmm.mono fun b hb e => ?_⟩
              · exact HhF.out b e.1 (by rw [e.2]; omega)
              · rcases recol2_ne e with ⟨h5, h6⟩ | ⟨h5, _⟩
                · exact HhF.out b h5 h6
                · have h7 : b < w.heap.size := by simpa [World.setCell] using hb
                  omega
              · rcases e with e | e
                · exact HhF.out b hb (by rw [e]; omega)
                · exact HhF.out b hb (by rw [e, HG3.out]; decide)
        · have HMN := Lib.hid (show (st.L.length : Int) = min (m0 : Int) (st.L.length : Int) by omega)
          have hdrop := HOL.out.drop (k := st.L.length) (Nat.le_refl _)
          have hrt := (HOL.out.more (G := fun b => b < w.heap.size ∧ col b = 4 + k) fun b hb e => ⟨hb, e⟩).rd.take (l := st.L.length) (Nat.le_refl _)
          rw [rcs_drop st.L st.L.length (Nat.le_refl _), Nat.sub_self] at hdrop
          rw [rcs_take] at hrt
          by_cases hcv : cv = st.L.length
          · subst hcv
            rw [if_pos rfl, Nat.sub_self] at hdrop
            have hvc : OwnAt w (fun b => col b = 4 + k) 45 4 (.slice Av 0 0) 0 (rcs (st.L.drop st.L.length)) := by simpa [Addr.add_lit] using hdrop
            have hne : ∀ g, col g = 4 + k → g ≠ gd := fun g hg e => by rw [e, HG3.out] at hg; omega
            have hw2 := (hvc.far (p := ⟨gd, k * 6 + 5, none⟩) (fun g hg => hne g hg) (.slice Av 0 0)).far (p := ⟨gd, k * 6 + 3, none⟩) (fun g hg => hne g hg) (.int .i64 ((st.sent : Int) + (st.L.length : Nat)))
            have hrw := (hrt.same (Same.setCell w ⟨gd, k * 6 + 5, none⟩ (.slice Av 0 0) fun e => hne gd e.2 rfl)).same (Same.setCell _ ⟨gd, k * 6 + 3, none⟩ (.int .i64 ((st.sent : Int) + (st.L.length : Nat))) fun e => hne gd e.2 rfl)
            have HVW := Lib.hid hw2
            have HRW := Lib.hid hrw
            have HOC := Lib.hid ((HOG.out.set (g := gd) rfl (k * 6 + 5) (.slice Av 0 0)).set (g := gd) rfl (k * 6 + 3) (.int .i64 ((st.sent : Int) + (st.L.length : Nat))))
            clear hvc hw2 hrw hdrop hrt hne
            have Hhfd := Lib.hid hfd
            clear hfd
            unfold ks at Hhfd
            unfold ks
            go_enter Tryd.func18, Tryd.ntmps18
            go_wp2_with (first | (go_at_call 35; (refine ret_use (Hhfd.out) ?_; rintro u w5 ⟨rfl, rfl⟩)) | ((with_reducible refine wp_region_por ?_ ?_ ?_ ?_); kernel_rfl; kernel_rfl; (with_reducible repeat (first | exact calm_ret | refine calm_then ?_ | refine calm_in ?_ | refine calm_chk ?_ | refine calm_noGoto ?_))) | ((with_reducible refine chk_end ?_ ?_); kernel_rfl))
            go_ret2
            have hxl := HXL.out
            have hkn := Hkn.out
            have hts := takeS_ok (s := st) (m := st.L.length) (by omega)
            have hmm : Mods (fun b => col b = 4 + k ∨ b = gd) w ((w.setCell ⟨gd, k * 6 + 5, none⟩ (.slice Av 0 0)).setCell ⟨gd, k * 6 + 3, none⟩ (.int .i64 ((st.sent : Int) + (st.L.length : Nat)))) := ((Mods.refl _ w).setCell _ _ fun _ => .inr rfl).setCell _ _ fun _ => .inr rfl
            have hst2 := Hp.out.step (st' := (takeS st.L.length st).2) HS.out.2.1 HS.out.2.2 hmm (v' := (.slice Av 0 0)) (by rw [hts]; have h9 := HVW.out.tight.more (G := fun b => (b < w.heap.size ∧ col b = 4 + k) ∨ w.heap.size ≤ b) fun b hb e => .inl ⟨by simpa [World.setCell] using hb, (HVW.out.lt b e).2⟩; rw [show (st.L.drop st.L.length).length = 0 by rw [List.length_drop]; omega]; exact h9) HOC.out (fun i r hi hr => (set_oth _ hi hr (by decide)).trans (set_oth _ hi hr (by decide))) ((set_ne0 _ (by decide)).trans (set_ne0 _ (by decide))) ((set_ne _ (by decide)).trans (set_ne _ (by decide))) ((set_ne _ (by decide)).trans (set_ne _ (by decide))) (by rw [hts]; exact set_eq _ (by rw [List.length_set]; omega)) (by rw [hts]; exact (set_ne _ (by decide)).trans ((set_ne _ (by decide)).trans HZ.out)) ((set_ne _ (by decide)).trans (set_eq _ (by omega)))
            refine .inr ⟨He.out, k, st.L.length, st, Av, st.L.length, HS.out.1, HS.out.2.1, HMN.out, rfl, HRW.out.more fun b e => ?_, ⟨HhI.out.take HS.out.2.1, Hh0.out, _, gd, cd, v0, sn, sp, _, _, hst2, fun b hb e => ?_⟩, hmm.mono fun b hb e => ?_⟩
            · exact HhF.out b e.1 (by rw [e.2]; omega)
            · rcases recol2_ne e with ⟨h5, h6⟩ | ⟨h5, _⟩
              · exact HhF.out b h5 h6
              · have h7 : b < w.heap.size := by simpa [World.setCell] using hb
                omega
            · rcases e with e | e
              · exact HhF.out b hb (by rw [e]; omega)
              · exact HhF.out b hb (by rw [e, HG3.out]; decide)
          · rw [if_neg hcv] at hdrop
            rcases HOL.out.2 with ⟨e5, e6⟩ | ⟨g2, o2, cap2, cur2, e5, _⟩
            · injection e5 with _ _ e5
              omega
            · injection e5 with e5 _ e7
              subst e5 e7
              have hvc : OwnAt w (fun b => col b = 4 + k) 45 4 (.slice (some ⟨g2, o2 + st.L.length * 4, none⟩) 0 (cv - st.L.length)) 0 (rcs (st.L.drop st.L.length)) := by simpa [Addr.add_lit] using hdrop
              have hne : ∀ g, col g = 4 + k → g ≠ gd := fun g hg e => by rw [e, HG3.out] at hg; omega
              have hw2 := (hvc.far (p := ⟨gd, k * 6 + 5, none⟩) (fun g hg => hne g hg) (.slice (some ⟨g2, o2 + st.L.length * 4, none⟩) 0 (cv - st.L.length))).far (p := ⟨gd, k * 6 + 3, none⟩) (fun g hg => hne g hg) (.int .i64 ((st.sent : Int) + (st.L.length : Nat)))
              have hrw := (hrt.same (Same.setCell w ⟨gd, k * 6 + 5, none⟩ (.slice (some ⟨g2, o2 + st.L.length * 4, none⟩) 0 (cv - st.L.length)) fun e => hne gd e.2 rfl)).same (Same.setCell _ ⟨gd, k * 6 + 3, none⟩ (.int .i64 ((st.sent : Int) + (st.L.length : Nat))) fun e => hne gd e.2 rfl)
              have HVW := Lib.hid hw2
              have HRW := Lib.hid hrw
              have HOC := Lib.hid ((HOG.out.set (g := gd) rfl (k * 6 + 5) (.slice (some ⟨g2, o2 + st.L.length * 4, none⟩) 0 (cv - st.L.length))).set (g := gd) rfl (k * 6 + 3) (.int .i64 ((st.sent : Int) + (st.L.length : Nat))))
              clear hvc hw2 hrw hdrop hrt hne
              have Hhfd := Lib.hid hfd
              clear hfd
              unfold ks at Hhfd
              unfold ks
              go_enter Tryd.func18, Tryd.ntmps18
              go_wp2_with (first | (go_at_call 35; (refine ret_use (Hhfd.out) ?_; rintro u w5 ⟨rfl, rfl⟩)) | ((with_reducible refine wp_region_por ?_ ?_ ?_ ?_); kernel_rfl; kernel_rfl; (with_reducible repeat (first | exact calm_ret | refine calm_then ?_ | refine calm_in ?_ | refine calm_chk ?_ | refine calm_noGoto ?_))) | ((with_reducible refine chk_end ?_ ?_); kernel_rfl))
              go_ret2
              have hxl := HXL.out
              have hkn := Hkn.out
              have hts := takeS_ok (s := st) (m := st.L.length) (by omega)
              have hmm : Mods (fun b => col b = 4 + k ∨ b = gd) w ((w.setCell ⟨gd, k * 6 + 5, none⟩ (.slice (some ⟨g2, o2 + st.L.length * 4, none⟩) 0 (cv - st.L.length))).setCell ⟨gd, k * 6 + 3, none⟩ (.int .i64 ((st.sent : Int) + (st.L.length : Nat)))) := ((Mods.refl _ w).setCell _ _ fun _ => .inr rfl).setCell _ _ fun _ => .inr rfl
              have hst2 := Hp.out.step (st' := (takeS st.L.length st).2) HS.out.2.1 HS.out.2.2 hmm (v' := (.slice (some ⟨g2, o2 + st.L.length * 4, none⟩) 0 (cv - st.L.length))) (by rw [hts]; have h9 := HVW.out.tight.more (G := fun b => (b < w.heap.size ∧ col b = 4 + k) ∨ w.heap.size ≤ b) fun b hb e => .inl ⟨by simpa [World.setCell] using hb, (HVW.out.lt b e).2⟩; rw [show (st.L.drop st.L.length).length = 0 by rw [List.length_drop]; omega]; exact h9) HOC.out (fun i r hi hr => (set_oth _ hi hr (by decide)).trans (set_oth _ hi hr (by decide))) ((set_ne0 _ (by decide)).trans (set_ne0 _ (by decide))) ((set_ne _ (by decide)).trans (set_ne _ (by decide))) ((set_ne _ (by decide)).trans (set_ne _ (by decide))) (by rw [hts]; exact set_eq _ (by rw [List.length_set]; omega)) (by rw [hts]; exact (set_ne _ (by decide)).trans ((set_ne _ (by decide)).trans HZ.out)) ((set_ne _ (by decide)).trans (set_eq _ (by omega)))
              refine .inr ⟨He.out, k, st.L.length, st, (some ⟨g2, o2, none⟩), cv, HS.out.1, HS.out.2.1, HMN.out, rfl, HRW.out.more fun b e => ?_, ⟨HhI.out.take HS.out.2.1, Hh0.out, _, gd, cd, v0, sn, sp, _, _, hst2, fun b hb e => ?_⟩, hmm.mono fun b hb e => ?_⟩
              · exact HhF.out b e.1 (by rw [e.2]; omega)
              · rcases recol2_ne e with ⟨h5, h6⟩ | ⟨h5, _⟩
                · exact HhF.out b h5 h6
                · have h7 : b < w.heap.size := by simpa [World.setCell] using hb
                  omega
              · rcases e with e | e
                · exact HhF.out b hb (by rw [e]; omega)
                · exact HhF.out b hb (by rw [e, HG3.out]; decide)
  · rw [idxV_neg hs] at hfd
    have He := Lib.hid (show takeE N dn s n = 240 by unfold takeE; rw [if_pos hs])
    clear hs
    have Hhp := Lib.hid hp
    clear hp
    have HhI := Lib.hid hI
    clear hI
    have Hh0 := Lib.hid h0
    clear h0
    have HhF := Lib.hid hF
    clear hF
    have HhR := Lib.hid hR
    clear hR
    have HhB := Lib.hid hB
    clear hB
    have Hhfd := Lib.hid hfd
    clear hfd
    unfold ks at Hhfd
    unfold ks
    go_enter Tryd.func18, Tryd.ntmps18
    go_wp2_with (first | (go_at_call 35; (refine ret_use (Hhfd.out) ?_; rintro u w5 ⟨rfl, rfl⟩)) | ((with_reducible refine wp_region_por ?_ ?_ ?_ ?_); kernel_rfl; kernel_rfl; (with_reducible repeat (first | exact calm_ret | refine calm_then ?_ | refine calm_in ?_ | refine calm_chk ?_ | refine calm_noGoto ?_))) | ((with_reducible refine chk_end ?_ ?_); kernel_rfl))
    go_ret2
    exact .inl ⟨by rw [He.out]; decide, by rw [He.out]; rfl, HhR.out, Mods.refl _ _⟩
end Go.Proofs.YtcifajfmdpjfiaaDoor
