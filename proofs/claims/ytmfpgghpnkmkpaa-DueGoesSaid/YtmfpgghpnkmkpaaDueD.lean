/- The pile's Swap. -/
import Derived.Test.YtmfpgghpnkmkpaaDueC
namespace Go.Proofs.Ytmfpgghpnkmkpaa
open Go.RowKit Go.Tum
set_option maxRecDepth 100000
theorem zeroI (w : World) : (zeroValue 3).run Try.prog w = .ok (.int .i64 0) w := by kernel_rfl
/-- d at place i, e at place j -/
theorem ents_sw {d : Nat → Ent} {n i j : Nat} (hi : i < n) (hj : j < n) :
    ((((ents d n).set (i * 2) (ks (d j).1)).set (i * 2 + 1) (.int .i64 (d j).2)).set (j * 2) (ks (d i).1)).set (j * 2 + 1) (.int .i64 (d i).2) = ents (sw d i j) n := by
  refine ents_ext (by simp [ents_length]) fun k hk => ?_
  have h1 := ents_at d hk
  have hl := ents_length d n
  have hsw : sw d i j k = if k = i then d j else if k = j then d i else d k := rfl
  simp only [List.getElem?_set, List.length_set]
  rw [hsw, hl]
  by_cases e1 : k = j
  · by_cases e2 : k = i
    · subst e1
      subst e2
      rw [if_neg (show ¬ k * 2 + 1 = k * 2 by omega)]
      simp
      omega
    · rw [if_neg e2, if_pos e1]
      subst e1
      rw [if_neg (show ¬ k * 2 + 1 = k * 2 by omega)]
      simp
      omega
  · by_cases e2 : k = i
    · rw [if_pos e2]
      subst e2
      constructor
      · rw [if_neg (by omega), if_neg (by omega), if_neg (by omega), if_pos rfl, if_pos (by omega)]
      · rw [if_neg (by omega), if_neg (by omega), if_pos rfl, if_pos (by omega)]
    · rw [if_neg e2, if_neg e1]
      constructor
      · rw [if_neg (by omega), if_neg (by omega), if_neg (by omega), if_neg (by omega)]; exact h1.1
      · rw [if_neg (by omega), if_neg (by omega), if_neg (by omega), if_neg (by omega)]; exact h1.2
theorem wf_small (i : Nat) (h : i ≤ 65536) : (Lit.int .i64 (i : Int)).wf = true := by
  have e : (Lit.int .i64 (i : Int)).wf = (decide ((-9223372036854775808 : Int) ≤ (i : Int)) && decide ((i : Int) ≤ 9223372036854775807)) := rfl
  rw [e]
  simp only [Bool.and_eq_true, decide_eq_true_eq]
  omega
/-- The world behind the two stores. -/
def swW (w : World) (g i j : Nat) (d : Nat → Ent) : World := (((w.setCell ⟨g, i * 2, none⟩ (ks (d j).1)).setCell ⟨g, i * 2 + 1, none⟩ (.int .i64 (d j).2)).setCell ⟨g, j * 2, none⟩ (ks (d i).1)).setCell ⟨g, j * 2 + 1, none⟩ (.int .i64 (d i).2)
structure Mid (w w' : World) (q : Nat) (lim : Int) (v : Value) (gm : Nat) (d : Nat → Ent) (n m : Nat) (f : MF) (F : Nat → Prop) : Prop where
  cells : Cells w' q 61 #[.int .i64 lim, v, .map (some gm)]
  own : Own w' F 29 2 v n (ents d n)
  map : SMap Try.prog 9 3 w' gm m f
  mods : Mods F w w'
theorem Mid.drew {w w' : World} {q gm n m : Nat} {lim : Int} {v : Value} {d : Nat → Ent} {f : MF} {F : Nat → Prop} (h : Mid w w' q lim v gm d n m f F) : Mid w w'.drew q lim v gm d n m f F := ⟨h.cells, h.own, h.map, h.mods.drew⟩
theorem swap_mid {w : World} {q gm n g c i j : Nat} {lim : Int} {d : Nat → Ent} {F : Nat → Prop} (h : QK w q lim (.slice (some ⟨g, 0, none⟩) n c) gm d n F) (hi : i < n) (hj : j < n) (hg : F g) :
    Mid w (swW w g i j d) q lim (.slice (some ⟨g, 0, none⟩) n c) gm (sw d i j) n n (look d n) F := by
  have nq : q ≠ g := fun e => h.nq.1 (by rw [e]; rfl)
  have nm : gm ≠ g := fun e => h.nm (by rw [e]; rfl)
  refine ⟨(((h.cells.far nq _).far nq _).far nq _).far nq _, ?_, (((h.map.far nm _).far nm _).far nm _).far nm _, ((((Mods.refl F w).setCell _ _ fun _ => hg).setCell _ _ fun _ => hg).setCell _ _ fun _ => hg).setCell _ _ fun _ => hg⟩
  have ho := (((h.own.set (g := g) rfl (i * 2) (ks (d j).1)).set (g := g) rfl (i * 2 + 1) (.int .i64 (d j).2)).set (g := g) rfl (j * 2) (ks (d i).1)).set (g := g) rfl (j * 2 + 1) (.int .i64 (d i).2)
  rw [ents_sw hi hj] at ho
  exact ho
theorem mid_put {w w' w1 : World} {q gm n m : Nat} {lim : Int} {v : Value} {d : Nat → Ent} {f f' : MF} {F : Nat → Prop} (h : Mid w w' q lim v gm d n m f F) (hF : F gm) {n' m' : Nat} (hn : n' = m') (hm : SMap Try.prog 9 3 w1 gm n' f') (hM : Mods (fun k => k = gm) w' w1) :
    Mid w w1 q lim v gm d n m' f' F := by
  subst hn
  have nq : q ≠ gm := fun e => h.map.ne_cells h.cells e.symm
  refine ⟨h.cells.mods hM nq, ?_, hm, h.mods.trans hM fun k _ e => e ▸ hF⟩
  have h2 := h.own.tight.same (w' := w1) fun k hk => hM.block k (h.own.lt k hk) (by
    rintro rfl
    obtain ⟨cur, hc⟩ := h.own.typed k hk
    exact h.map.ne_cells hc rfl)
  exact ⟨h2.1, h.own.2⟩
theorem mid_facts {w w' : World} {q gm n m g c : Nat} {lim : Int} {d : Nat → Ent} {f : MF} {F : Nat → Prop} (h : Mid w w' q lim (.slice (some ⟨g, 0, none⟩) n c) gm d n m f F) {j : Nat} (hj : j < n) :
    w'.cell? ⟨q, 1, none⟩ = some (.slice (some ⟨g, 0, none⟩) n c) ∧ w'.cell? ⟨q, 2, none⟩ = some (.map (some gm)) ∧ w'.cell? ⟨g, j * 2, none⟩ = some (ks (d j).1) := by
  refine ⟨h.cells.at_ 1 rfl, h.cells.at_ 2 rfl, ?_⟩
  obtain ⟨g', c', e, _, _, hx⟩ := h.own.cells (by omega)
  injection e with e
  injection e with e
  injection e with e
  subst e
  rw [(hx (j * 2) (by omega)).1, (ents_at d hj).1]
theorem mid_end {w w' : World} {q gm n : Nat} {lim : Int} {v : Value} {d e : Nat → Ent} {f : MF} {F : Nat → Prop} (h0 : QK w q lim v gm d n F) (h : Mid w w' q lim v gm e n n f F) (hf : ∀ key, look e n key = f key) (hk : ∀ i j, i < n → j < n → (e i).1 = (e j).1 → i = j) (hw : ∀ i, i < n → (e i).1.length ≤ maxLen) :
    QueueK w' q lim e n F ∧ Mods F w w' := ⟨⟨v, gm, h.cells, h.own, h.map.congr hf, hk, hw, h0.small, h0.fq, h0.fm⟩, h.mods⟩
theorem look_some {d : Nat → Ent} {n i : Nat} (hk : ∀ i j, i < n → j < n → (d i).1 = (d j).1 → i = j) (hi : i < n) : (look d n (d i).1).isSome = true := by
  unfold look
  rw [spot_of hk hi rfl]
  rfl
theorem two_in {n : Nat} {c : Prop} [Decidable c] {a : Int} {o : Option Int} (h : o.isSome = true) : (if (if c then some a else o).isSome = true then n else n + 1) = n := by
  by_cases hc : c
  · rw [if_pos hc]; rfl
  · rw [if_neg hc, if_pos h]
theorem sw_wf {d : Nat → Ent} {n i j : Nat} (hw : ∀ i, i < n → (d i).1.length ≤ maxLen) (hi : i < n) (hj : j < n) : ∀ k, k < n → (sw d i j k).1.length ≤ maxLen := fun k hk => by
  unfold sw
  split
  · exact hw _ hj
  · split
    · exact hw _ hi
    · exact hw _ hk
theorem sw_at (d : Nat → Ent) (i j : Nat) : sw d i j i = d j ∧ sw d i j j = d i := by
  unfold sw
  refine ⟨if_pos rfl, ?_⟩
  split
  · rename_i e; rw [e]
  · exact if_pos rfl
set_option maxHeartbeats 1600000 in
theorem swap_K (w : World) (q : Nat) (lim : Int) (d : Nat → Ent) (n i j : Nat) (F : Nat → Prop) (h : QueueK w q lim d n F) (hi : i < n) (hj : j < n) :
    Calls Try.prog 84 #[.pointer (some ⟨q, 1, none⟩), .int .i64 i, .int .i64 j] w (Ret fun _ w' => QueueK w' q lim (sw d i j) n F ∧ Mods F w w') := by
  obtain ⟨v, gm, h⟩ := h
  obtain ⟨g, c, rfl, hg, hc, hx⟩ := h.own.cells (by omega)
  have x0 := (hx (i * 2) (by omega)).1
  have x1 := (hx (i * 2 + 1) (by omega)).1
  have y0 := (hx (j * 2) (by omega)).1
  have y1 := (hx (j * 2 + 1) (by omega)).1
  rw [(ents_at d hi).1] at x0
  rw [(ents_at d hi).2] at x1
  rw [(ents_at d hj).1] at y0
  rw [(ents_at d hj).2] at y1
  have f0 := (hx (i * 2) (by omega)).2
  have f1 := (hx (i * 2 + 1) (by omega)).2
  have g0 := (hx (j * 2) (by omega)).2
  have g1 := (hx (j * 2 + 1) (by omega)).2
  have c1 := h.cells.at_ 1 rfl
  have c2 := h.cells.at_ 2 rfl
  have nq : g ≠ q := fun e => h.nq.1 (by rw [e]; rfl)
  have nm : g ≠ gm := fun e => h.nm (by rw [e]; rfl)
  have nq2 := nq.symm
  have hs := h.small
  clear hx
  clear hc
  by_cases hij : i = j
  · subst hij
    clear nm
    have HX := Lib.hid (swap_mid h hi hi hg).drew.drew
    have HK := Lib.hid (look_some h.keys hi)
    have HK2 := Lib.hid (look_some h.keys hi)
    have HJ := Lib.hid (h.wf i hi)
    have HI := Lib.hid (h.wf i hi)
    have Hh := Lib.hid h
    clear h
    unfold ks at *
    go_enter Try.func84, Try.ntmps84
    go_wp2_with (first | (at_mapUpdate; (fail_if_success have := hA1); ((refine wpList_smap_put _ rfl _ _ _ rfl Try.underlying9 Try.underlying57 Try.underlying3 rfl (d i).1 rfl (i : Int) rfl HX.out.map HJ.out (by unfold maxLen; omega) (wf_small i (by omega)) ?_); intro w1 hm1 hM1; have HY := Lib.hid (mid_put HX.out Hh.out.fm (by rw [if_pos HK.out]) hm1 hM1); obtain ⟨k1, k2, k3⟩ := mid_facts HY.out hi; rw [(sw_at d i i).2] at k3; (unfold ks at k3); clear hm1 hM1; have hA1 := True.intro)) | (at_mapUpdate; ((refine wpList_smap_put _ rfl _ _ _ rfl Try.underlying9 Try.underlying57 Try.underlying3 rfl (d i).1 rfl (i : Int) rfl HY.out.drew.map HI.out (by unfold maxLen; omega) (wf_small i (by omega)) ?_); intro w2 hm2 hM2; have HZ := Lib.hid (mid_put HY.out.drew Hh.out.fm (two_in HK2.out) hm2 hM2); clear hm2 hM2)) | ((with_reducible refine wp_region_por ?_ ?_ ?_ ?_); kernel_rfl; kernel_rfl; (with_reducible repeat (first | exact calm_ret | refine calm_then ?_ | refine calm_in ?_ | refine calm_chk ?_ | refine calm_noGoto ?_))) | ((with_reducible refine chk_end ?_ ?_); kernel_rfl))
    go_end0
    refine mid_end Hh.out HZ.out (fun key => ?_) (sw_key Hh.out.keys hi hi) (sw_wf Hh.out.wf hi hi)
    rw [look_sw Hh.out.keys hi hi]
  · have i1 : ¬ i * 2 = j * 2 := by omega
    have i2 : ¬ i * 2 + 1 = j * 2 := by omega
    have i3 : ¬ i * 2 = j * 2 + 1 := by omega
    have i4 : ¬ j * 2 = i * 2 := by omega
    have i5 : ¬ j * 2 + 1 = i * 2 := by omega
    have i6 : ¬ j * 2 = i * 2 + 1 := by omega
    have HX := Lib.hid (swap_mid h hi hj hg).drew.drew
    have HK := Lib.hid (look_some h.keys hj)
    have HK2 := Lib.hid (look_some h.keys hi)
    have HJ := Lib.hid (h.wf j hj)
    have HI := Lib.hid (h.wf i hi)
    have Hh := Lib.hid h
    clear h
    unfold ks at *
    go_enter Try.func84, Try.ntmps84
    go_wp2_with (first | (at_mapUpdate; (fail_if_success have := hA1); ((refine wpList_smap_put _ rfl _ _ _ rfl Try.underlying9 Try.underlying57 Try.underlying3 rfl (d j).1 rfl (i : Int) rfl HX.out.map HJ.out (by unfold maxLen; omega) (wf_small i (by omega)) ?_); intro w1 hm1 hM1; have HY := Lib.hid (mid_put HX.out Hh.out.fm (by rw [if_pos HK.out]) hm1 hM1); obtain ⟨k1, k2, k3⟩ := mid_facts HY.out hj; rw [(sw_at d i j).2] at k3; (unfold ks at k3); clear hm1 hM1; have hA1 := True.intro)) | (at_mapUpdate; ((refine wpList_smap_put _ rfl _ _ _ rfl Try.underlying9 Try.underlying57 Try.underlying3 rfl (d i).1 rfl (j : Int) rfl HY.out.drew.map HI.out (by unfold maxLen; omega) (wf_small j (by omega)) ?_); intro w2 hm2 hM2; have HZ := Lib.hid (mid_put HY.out.drew Hh.out.fm (two_in HK2.out) hm2 hM2); clear hm2 hM2)) | ((with_reducible refine wp_region_por ?_ ?_ ?_ ?_); kernel_rfl; kernel_rfl; (with_reducible repeat (first | exact calm_ret | refine calm_then ?_ | refine calm_in ?_ | refine calm_chk ?_ | refine calm_noGoto ?_))) | ((with_reducible refine chk_end ?_ ?_); kernel_rfl))
    go_end0
    refine mid_end Hh.out HZ.out (fun key => ?_) (sw_key Hh.out.keys hi hj) (sw_wf Hh.out.wf hi hj)
    rw [look_sw Hh.out.keys hi hj]
end Go.Proofs.Ytmfpgghpnkmkpaa
