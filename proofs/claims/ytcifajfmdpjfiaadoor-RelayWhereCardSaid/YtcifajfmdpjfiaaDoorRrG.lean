/- The reference's relay: Turn, Counts. -/
import Derived.Test.YtcifajfmdpjfiaaDoorRrE
namespace Go.Proofs.YtcifajfmdpjfiaaDoor
open Go.RowKit Go.Tum Go.Lib Go.Sort
set_option maxRecDepth 100000
theorem RlI.down {N : List Tx} {S : List Stn} {dn : List Tx} {R H : Nat} (h : RlI N S dn R H) (s : Tx) : RlI N S (downL N dn s) R H := by
  by_cases hs : s ∈ N
  · by_cases hd : s ∈ dn
    · have he : downE N dn s = 242 := by unfold downE; rw [if_neg (by simpa using hs), if_pos hd]
      unfold downL; rw [he, if_neg (by decide)]; exact h
    · have he : downE N dn s = 0 := by unfold downE; rw [if_neg (by simpa using hs), if_neg hd]
      unfold downL; rw [he, if_pos rfl]
      refine ⟨h.r1, h.r2, h.h1, h.h2, h.len, h.held, List.nodup_cons.2 ⟨hd, h.nd⟩, fun x hx => ?_⟩
      rcases List.mem_cons.1 hx with rfl | hx
      · exact hs
      · exact h.sub x hx
  · have he : downE N dn s = 240 := by unfold downE; rw [if_pos hs]
    unfold downL; rw [he, if_neg (by decide)]; exact h
theorem RlI.upN {N : List Tx} {S : List Stn} {dn : List Tx} {R H : Nat} (h : RlI N S dn R H) (s : Tx) : RlI N S (upL N dn s) R H := by
  unfold upL
  split
  · exact ⟨h.r1, h.r2, h.h1, h.h2, h.len, h.held, h.nd.erase s, fun x hx => h.sub x (List.mem_of_mem_erase hx)⟩
  · exact h
theorem RrP.turn {w : World} {x C R H k : Nat} {nw up : Bool} {N : List Tx} {S : List Stn} {dn dn' : List Tx} {col : Nat → Nat} {gd cd : Nat} {v0 sn sp : Value} {xs lv : List Value} {s : Tx} (h : RrP w x C R H nw N S dn col gd cd v0 sn sp xs lv) (hN : Strict ltT N) (hk : N[k]? = some s)
    (h1 : ∀ t, t ≠ s → (t ∈ dn' ↔ t ∈ dn)) (h2 : (!decide (s ∈ dn')) = up) : RrP (w.setCell ⟨gd, k * 6 + 1, none⟩ (.bool up)) x C R H nw N S dn' col gd cd v0 sn sp (xs.set (k * 6 + 1) (.bool up)) lv := by
  have hg3 : col gd = 3 := h.own.2 gd rfl
  have hxl : xs.length = N.length * 6 := h.own.1.1
  have hkN := (List.getElem?_eq_some_iff.1 hk).1
  refine ⟨h.rel.far (fun e => by have h5 := h.crx; have e2 : x = gd := e; rw [e2, hg3] at h5; omega) _, h.crx, h.pl.far (fun e => by have h5 := h.pl.2 _ e; have e2 : col gd = 2 := h5; omega) _, h.own.set rfl (k * 6 + 1) _, fun i t st v e1 e2 e3 => ?_, fun i st v e2 e3 => (h.each i st v e2 e3).far (fun g hg e => by have e2 : g = gd := e; rw [e2, hg3] at hg; omega) _, h.len⟩
  obtain ⟨a0, a1, a2, a3, a4, a5⟩ := h.row i t st v e1 e2 e3
  by_cases hik : i = k
  · subst hik
    rw [hk] at e1
    injection e1 with e1
    subst e1
    exact ⟨(set_ne0 _ (by decide)).trans a0, by rw [h2]; exact set_eq _ (by omega), (set_ne _ (by decide)).trans a2, (set_ne _ (by decide)).trans a3, (set_ne _ (by decide)).trans a4, (set_ne _ (by decide)).trans a5⟩
  · have hts : t ≠ s := fun e => by
      have h3 := pos_at hN e1
      have h4 := pos_at hN hk
      rw [e, h4] at h3
      exact hik h3.symm
    have hd : decide (t ∈ dn') = decide (t ∈ dn) := by simp [h1 t hts]
    exact ⟨(set_oth (r := 0) _ hik (by decide) (by decide)).trans a0, by rw [hd]; exact (set_oth _ hik (by decide) (by decide)).trans a1, (set_oth _ hik (by decide) (by decide)).trans a2, (set_oth _ hik (by decide) (by decide)).trans a3, (set_oth _ hik (by decide) (by decide)).trans a4, (set_oth _ hik (by decide) (by decide)).trans a5⟩
theorem mods_gd {w : World} {col : Nat → Nat} {gd o : Nat} {F : Nat → Prop} {u : Value} (hF : ∀ b, b < w.heap.size → col b ≠ 0 → F b) (h3 : col gd = 3) (hl : gd < w.heap.size) : Mods F w (w.setCell ⟨gd, o, none⟩ u) := (Mods.refl F w).setCell _ _ fun _ => hF gd hl (by rw [h3]; decide)
theorem frz {w : World} {a : Addr} {u : Value} {F : Nat → Prop} {col : Nat → Nat} (hF : ∀ b, b < w.heap.size → col b ≠ 0 → F b) : ∀ b, b < (w.setCell a u).heap.size → col b ≠ 0 → F b := fun b hb e => hF b (by simpa [World.setCell] using hb) e
set_option maxHeartbeats 3200000 in
theorem rdown_ref (w : World) (x C R H : Nat) (nw : Bool) (N : List Tx) (S : List Stn) (dn : List Tx) (F : Nat → Prop) (s : Tx) (h : RrK w x C R H nw N S dn F) :
    Calls Tryd.prog 22 #[(.pointer (some ⟨x, 0, none⟩)), ks s, .bool false] w (Ret fun v w' => v = .int .i64 (downE N dn s) ∧ RrK w' x C R H nw N S (downL N dn s) F ∧ Mods F w w') := by
  have hR := h
  obtain ⟨hI, h0, col, gd, cd, v0, sn, sp, xs, lv, hp, hF⟩ := h
  have hfd := rfind_K hp hI.len h0.small s
  by_cases hs : s ∈ N
  · obtain ⟨k, hk⟩ := List.getElem?_of_mem hs
    have hkN := (List.getElem?_eq_some_iff.1 hk).1
    obtain ⟨st, hst⟩ := lt_get (show k < S.length by rw [hI.len]; exact hkN)
    obtain ⟨v, hv⟩ := lt_get (show k < lv.length by rw [hp.len]; exact hkN)
    rw [idxV_pos h0.strict hk] at hfd
    obtain ⟨_, y1, _, _, _, _, yf⟩ := hp.at_ hk hst hv
    have f1 := yf 1 (by decide)
    have r8 := hp.rel.at_ 8 rfl
    have rl := hp.rel.lt
    have gl := hp.gd_lt
    have hcd : N.length ≤ cd := by obtain ⟨_, _, e, h1, _⟩ := hp.own.form; injection e with _ _ e; omega
    have hN64 := h0.small
    by_cases hd : s ∈ dn
    · rw [decide_eq_true hd] at y1
      have Hd := Lib.hid hd
      have Hs := Lib.hid hs
      have Hk := Lib.hid hk
      clear hd hs hk hst hv yf
      have Hhp := Lib.hid hp
      clear hp
      have HhI := Lib.hid hI
      clear hI
      have Hh0 := Lib.hid h0
      clear h0
      have HhF := Lib.hid hF
      clear hF
      have HhR := Lib.hid hR
      clear hR
      have Hhfd := Lib.hid hfd
      clear hfd
      unfold ks at Hhfd
      unfold ks
      go_enter Tryd.func22, Tryd.ntmps22
      go_wp2_with (first | (go_at_call 35; (refine ret_use (Hhfd.out) ?_; rintro u w5 ⟨rfl, rfl⟩)) | ((with_reducible refine wp_region_por ?_ ?_ ?_ ?_); kernel_rfl; kernel_rfl; (with_reducible repeat (first | exact calm_ret | refine calm_then ?_ | refine calm_in ?_ | refine calm_chk ?_ | refine calm_noGoto ?_))) | ((with_reducible refine chk_end ?_ ?_); kernel_rfl))
      go_ret
      have he : downE N dn s = 242 := by unfold downE; rw [if_neg (by simpa using Hs.out), if_pos Hd.out]
      exact ⟨by rw [he]; rfl, by unfold downL; rw [he, if_neg (by decide)]; exact HhR.out, Mods.refl _ _⟩
    · rw [decide_eq_false hd] at y1
      have Hd := Lib.hid hd
      have Hs := Lib.hid hs
      have Hk := Lib.hid hk
      clear hd hs hk hst hv yf
      have Hhp := Lib.hid hp
      clear hp
      have HhI := Lib.hid hI
      clear hI
      have Hh0 := Lib.hid h0
      clear h0
      have HhF := Lib.hid hF
      clear hF
      have HhR := Lib.hid hR
      clear hR
      have Hhfd := Lib.hid hfd
      clear hfd
      unfold ks at Hhfd
      unfold ks
      go_enter Tryd.func22, Tryd.ntmps22
      go_wp2_with (first | (go_at_call 35; (refine ret_use (Hhfd.out) ?_; rintro u w5 ⟨rfl, rfl⟩)) | ((with_reducible refine wp_region_por ?_ ?_ ?_ ?_); kernel_rfl; kernel_rfl; (with_reducible repeat (first | exact calm_ret | refine calm_then ?_ | refine calm_in ?_ | refine calm_chk ?_ | refine calm_noGoto ?_))) | ((with_reducible refine chk_end ?_ ?_); kernel_rfl))
      go_ret
      have he : downE N dn s = 0 := by unfold downE; rw [if_neg (by simpa using Hs.out), if_neg Hd.out]
      exact ⟨by rw [he]; rfl, ⟨HhI.out.down s, Hh0.out, col, gd, cd, v0, sn, sp, _, lv, by unfold downL; rw [he, if_pos rfl]; exact Hhp.out.turn (dn' := s :: dn) Hh0.out.strict Hk.out (fun t ht => by simp [ht]) (by simp), frz HhF.out⟩, mods_gd HhF.out (Hhp.out.own.2 gd rfl) gl⟩
  · rw [idxV_out hs] at hfd
    have He := Lib.hid (show downE N dn s = 240 by unfold downE; rw [if_pos hs])
    clear hs
    have Hhp := Lib.hid hp
    clear hp
    have HhI := Lib.hid hI
    clear hI
    have Hh0 := Lib.hid h0
    clear h0
    have HhF := Lib.hid hF
    clear hF
    have HhR := Lib.hid hR
    clear hR
    have Hhfd := Lib.hid hfd
    clear hfd
    unfold ks at Hhfd
    unfold ks
    go_enter Tryd.func22, Tryd.ntmps22
    go_wp2_with (first | (go_at_call 35; (refine ret_use (Hhfd.out) ?_; rintro u w5 ⟨rfl, rfl⟩)) | ((with_reducible refine wp_region_por ?_ ?_ ?_ ?_); kernel_rfl; kernel_rfl; (with_reducible repeat (first | exact calm_ret | refine calm_then ?_ | refine calm_in ?_ | refine calm_chk ?_ | refine calm_noGoto ?_))) | ((with_reducible refine chk_end ?_ ?_); kernel_rfl))
    go_ret
    exact ⟨by rw [He.out]; rfl, by unfold downL; rw [He.out, if_neg (by decide)]; exact HhR.out, Mods.refl _ _⟩
set_option maxHeartbeats 3200000 in
theorem rup_ref (w : World) (x C R H : Nat) (nw : Bool) (N : List Tx) (S : List Stn) (dn : List Tx) (F : Nat → Prop) (s : Tx) (h : RrK w x C R H nw N S dn F) :
    Calls Tryd.prog 22 #[(.pointer (some ⟨x, 0, none⟩)), ks s, .bool true] w (Ret fun v w' => v = .int .i64 (upE N dn s) ∧ RrK w' x C R H nw N S (upL N dn s) F ∧ Mods F w w') := by
  have hR := h
  obtain ⟨hI, h0, col, gd, cd, v0, sn, sp, xs, lv, hp, hF⟩ := h
  have hfd := rfind_K hp hI.len h0.small s
  by_cases hs : s ∈ N
  · obtain ⟨k, hk⟩ := List.getElem?_of_mem hs
    have hkN := (List.getElem?_eq_some_iff.1 hk).1
    obtain ⟨st, hst⟩ := lt_get (show k < S.length by rw [hI.len]; exact hkN)
    obtain ⟨v, hv⟩ := lt_get (show k < lv.length by rw [hp.len]; exact hkN)
    rw [idxV_pos h0.strict hk] at hfd
    obtain ⟨_, y1, _, _, _, _, yf⟩ := hp.at_ hk hst hv
    have f1 := yf 1 (by decide)
    have r8 := hp.rel.at_ 8 rfl
    have rl := hp.rel.lt
    have gl := hp.gd_lt
    have hcd : N.length ≤ cd := by obtain ⟨_, _, e, h1, _⟩ := hp.own.form; injection e with _ _ e; omega
    have hN64 := h0.small
    by_cases hd : s ∈ dn
    · rw [decide_eq_true hd] at y1
      have Hd := Lib.hid hd
      have Hs := Lib.hid hs
      have Hk := Lib.hid hk
      clear hd hs hk hst hv yf
      have Hhp := Lib.hid hp
      clear hp
      have HhI := Lib.hid hI
      clear hI
      have Hh0 := Lib.hid h0
      clear h0
      have HhF := Lib.hid hF
      clear hF
      have HhR := Lib.hid hR
      clear hR
      have Hhfd := Lib.hid hfd
      clear hfd
      unfold ks at Hhfd
      unfold ks
      go_enter Tryd.func22, Tryd.ntmps22
      go_wp2_with (first | (go_at_call 35; (refine ret_use (Hhfd.out) ?_; rintro u w5 ⟨rfl, rfl⟩)) | ((with_reducible refine wp_region_por ?_ ?_ ?_ ?_); kernel_rfl; kernel_rfl; (with_reducible repeat (first | exact calm_ret | refine calm_then ?_ | refine calm_in ?_ | refine calm_chk ?_ | refine calm_noGoto ?_))) | ((with_reducible refine chk_end ?_ ?_); kernel_rfl))
      go_ret
      have he : upE N dn s = 0 := by unfold upE; rw [if_neg (by simpa using Hs.out), if_neg (by simpa using Hd.out)]
      exact ⟨by rw [he]; rfl, ⟨HhI.out.upN s, Hh0.out, col, gd, cd, v0, sn, sp, _, lv, by unfold upL; rw [he, if_pos rfl]; exact Hhp.out.turn (dn' := dn.erase s) Hh0.out.strict Hk.out (fun t ht => by rw [List.Nodup.mem_erase_iff HhI.out.nd]; simp [ht]) (by rw [decide_eq_false (fun e => ((List.Nodup.mem_erase_iff HhI.out.nd).1 e).1 rfl)]; rfl), frz HhF.out⟩, mods_gd HhF.out (Hhp.out.own.2 gd rfl) gl⟩
    · rw [decide_eq_false hd] at y1
      have Hd := Lib.hid hd
      have Hs := Lib.hid hs
      have Hk := Lib.hid hk
      clear hd hs hk hst hv yf
      have Hhp := Lib.hid hp
      clear hp
      have HhI := Lib.hid hI
      clear hI
      have Hh0 := Lib.hid h0
      clear h0
      have HhF := Lib.hid hF
      clear hF
      have HhR := Lib.hid hR
      clear hR
      have Hhfd := Lib.hid hfd
      clear hfd
      unfold ks at Hhfd
      unfold ks
      go_enter Tryd.func22, Tryd.ntmps22
      go_wp2_with (first | (go_at_call 35; (refine ret_use (Hhfd.out) ?_; rintro u w5 ⟨rfl, rfl⟩)) | ((with_reducible refine wp_region_por ?_ ?_ ?_ ?_); kernel_rfl; kernel_rfl; (with_reducible repeat (first | exact calm_ret | refine calm_then ?_ | refine calm_in ?_ | refine calm_chk ?_ | refine calm_noGoto ?_))) | ((with_reducible refine chk_end ?_ ?_); kernel_rfl))
      go_ret
      have he : upE N dn s = 241 := by unfold upE; rw [if_neg (by simpa using Hs.out), if_pos Hd.out]
      exact ⟨by rw [he]; rfl, by unfold upL; rw [he, if_neg (by decide)]; exact HhR.out, Mods.refl _ _⟩
  · rw [idxV_out hs] at hfd
    have He := Lib.hid (show upE N dn s = 240 by unfold upE; rw [if_pos hs])
    clear hs
    have Hhp := Lib.hid hp
    clear hp
    have HhI := Lib.hid hI
    clear hI
    have Hh0 := Lib.hid h0
    clear h0
    have HhF := Lib.hid hF
    clear hF
    have HhR := Lib.hid hR
    clear hR
    have Hhfd := Lib.hid hfd
    clear hfd
    unfold ks at Hhfd
    unfold ks
    go_enter Tryd.func22, Tryd.ntmps22
    go_wp2_with (first | (go_at_call 35; (refine ret_use (Hhfd.out) ?_; rintro u w5 ⟨rfl, rfl⟩)) | ((with_reducible refine wp_region_por ?_ ?_ ?_ ?_); kernel_rfl; kernel_rfl; (with_reducible repeat (first | exact calm_ret | refine calm_then ?_ | refine calm_in ?_ | refine calm_chk ?_ | refine calm_noGoto ?_))) | ((with_reducible refine chk_end ?_ ?_); kernel_rfl))
    go_ret
    exact ⟨by rw [He.out]; rfl, by unfold upL; rw [He.out, if_neg (by decide)]; exact HhR.out, Mods.refl _ _⟩
set_option maxHeartbeats 3200000 in
theorem rcounts_ref (w : World) (x C R H : Nat) (nw : Bool) (N : List Tx) (S : List Stn) (dn : List Tx) (F : Nat → Prop) (h : RrK w x C R H nw N S dn F) :
    Calls Tryd.prog 20 #[(.pointer (some ⟨x, 0, none⟩))] w (Ret fun v w' => Own w' (fun g => w.heap.size ≤ g) 53 5 v N.length (ccs (countsV N S dn)) ∧ Mods No w w') := by
  obtain ⟨hI, h0, col, gd, cd, v0, sn, sp, xs, lv, hp, hF⟩ := h
  have hN64 := h0.small
  obtain ⟨l, hl⟩ : ∃ l, l = countsV N S dn := ⟨_, rfl⟩
  have hll : l.length = N.length := by rw [hl]; exact countsV_len hI.len
  rw [← hl]
  have HL := Lib.hid hl
  have r8 := hp.rel.at_ 8 rfl
  have rl := hp.rel.lt
  have hcd : N.length ≤ cd := by obtain ⟨_, _, e, h1, _⟩ := hp.own.form; injection e with _ _ e; omega
  clear hl
  have Hhp := Lib.hid hp
  clear hp
  have HhI := Lib.hid hI
  clear hI
  have HhF := Lib.hid hF
  clear hF
  have Hhll := Lib.hid hll
  clear hll
  go_enter Tryd.func20, Tryd.ntmps20
  go_wp2_with (first | ((with_reducible refine wp_region_por ?_ ?_ ?_ ?_); kernel_rfl; kernel_rfl; (with_reducible repeat (first | exact calm_ret | refine calm_then ?_ | refine calm_in ?_ | refine calm_chk ?_ | refine calm_noGoto ?_))) | ((with_reducible refine chk_end ?_ ?_); kernel_rfl))
  clear r8 rl
  go_loopg [3, 4] N.length (fun k v3 v4 wr => ∃ i : Nat, v4 = .int .i64 i ∧ i ≤ N.length ∧ k + i = N.length ∧ CtI w wr l i v3)
  case atStart => exact ⟨0, rfl, Nat.zero_le _, rfl, Own.nil _ _ _ _, Mods.refl _ _⟩
  case round =>
    obtain ⟨i, rfl, hi, hki, hin⟩ := hrel
    have Hki := Lib.hid hki
    have Hin := Lib.hid hin
    have HPR := Lib.hid (Hhp.out.mods hin.hm fun _ _ e => e.elim)
    have r8 := HPR.out.rel.at_ 8 rfl
    have rl := HPR.out.rel.lt
    have gl := HPR.out.gd_lt
    obtain ⟨A3, c3, rfl, _, _⟩ := hin.own.form
    clear hki hin
    rcases Nat.lt_or_ge i N.length with h1 | h1
    · obtain ⟨s, hs⟩ := lt_get h1
      obtain ⟨st, hst⟩ := lt_get (show i < S.length by rw [HhI.out.len]; exact h1)
      obtain ⟨v, hv⟩ := lt_get (show i < lv.length by rw [HPR.out.len]; exact h1)
      obtain ⟨y0, y1, y2, y3, y4, y5, _⟩ := HPR.out.at_ hs hst hv
      obtain ⟨Av, cv, rfl, _, _⟩ := (HPR.out.each i st v hst hv).form
      have hnx : l.take (i + 1) = l.take i ++ [cntOf dn s st] := by rw [HL.out]; exact countsV_next hs hst
      obtain ⟨b, hb⟩ : ∃ b : Bool, (!decide (s ∈ dn)) = b := ⟨_, rfl⟩
      unfold cntOf at hnx
      rw [hb] at hnx y1
      have HNX := Lib.hid hnx
      have HO := Lib.hid Hin.out.own
      have HX1 := Lib.hid (cc_one (s, b, st.L.length, st.sent, st.dropped))
      unfold ks at y0
      clear hs hst hv hnx hb
      go_wp2_with (first | (at_builtin; ((refine wpList_append _ rfl (.tmp 33) (.tmp 35) 50 rfl 53 (.agg #[.string ⟨#[]⟩, .bool false, .int .i64 0, .int .i64 0, .int .i64 0]) 5 48 Tryd.underlying50 infoCt rfl (by decide) (F := fun g => w.heap.size ≤ g) (n := i) (xs := ccs (l.take i)) (by rfl) (HO.out.mods (((Mods.refl No wr).alloc (.cells #[.string ⟨s.toArray⟩, .bool b, .int .i64 (st.L.length : Int), .int .i64 (st.sent : Int), .int .i64 (st.dropped : Int)] 53)).alloc (.cells #[.string ⟨s.toArray⟩, .bool b, .int .i64 (st.L.length : Int), .int .i64 (st.sent : Int), .int .i64 (st.dropped : Int)] 53)) fun _ _ e => e) (G := fun g => g = wr.heap.size + 1) (y := .slice (some ⟨wr.heap.size + 1, 0, none⟩) 1 1) (m := 1) (news := cc (s, b, st.L.length, st.sent, st.dropped)) (by rfl) (Rd.box (wr.alloc (.cells #[.string ⟨s.toArray⟩, .bool b, .int .i64 (st.L.length : Int), .int .i64 (st.sent : Int), .int .i64 (st.dropped : Int)] 53)) #[.string ⟨s.toArray⟩, .bool b, .int .i64 (st.L.length : Int), .int .i64 (st.sent : Int), .int .i64 (st.dropped : Int)] _ (by rw [World.size_alloc]) rfl (by decide)) HX1.out (by omega) (by decide) ?_); intro v8 w8 hown8 hm8 _; have HE8 := Lib.hid (Hin.out.more HNX.out (((Mods.refl No wr).alloc (.cells #[.string ⟨s.toArray⟩, .bool b, .int .i64 (st.L.length : Int), .int .i64 (st.sent : Int), .int .i64 (st.dropped : Int)] 53)).alloc (.cells #[.string ⟨s.toArray⟩, .bool b, .int .i64 (st.L.length : Int), .int .i64 (st.sent : Int), .int .i64 (st.dropped : Int)] 53)) hown8 hm8); obtain ⟨A8, c8, rfl, _, _⟩ := hown8.form; clear hown8 hm8)) | ((with_reducible refine wp_region_por ?_ ?_ ?_ ?_); kernel_rfl; kernel_rfl; (with_reducible repeat (first | exact calm_ret | refine calm_then ?_ | refine calm_in ?_ | refine calm_chk ?_ | refine calm_noGoto ?_))) | ((with_reducible refine chk_end ?_ ?_); kernel_rfl))
      go_roundg (gk - 1)
      case rel => exact ⟨i + 1, by go_num, h1, by have := Hki.out; omega, HE8.out⟩
      case measure => have := Hki.out; omega
    · obtain rfl : i = N.length := by omega
      have hto : l.take N.length = l := List.take_of_length_le (by rw [Hhll.out]; exact Nat.le_refl _)
      have hO := Hin.out.own
      rw [hto] at hO
      have HO := Lib.hid hO
      clear hO hto
      go_wp2_with (first | ((with_reducible refine wp_region_por ?_ ?_ ?_ ?_); kernel_rfl; kernel_rfl; (with_reducible repeat (first | exact calm_ret | refine calm_then ?_ | refine calm_in ?_ | refine calm_chk ?_ | refine calm_noGoto ?_))) | ((with_reducible refine chk_end ?_ ?_); kernel_rfl))
      go_ret
      exact ⟨HO.out, Hin.out.hm⟩
end Go.Proofs.YtcifajfmdpjfiaaDoor
