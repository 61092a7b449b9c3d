/- Package relay: Down and Up. -/
import Derived.Test.YtcifajfmdpjfiaaDoorRlI
namespace Go.Tum
open Go.RowKit Go.Maps Go.WideMaps Go.MapKept Go.ChangeMaps
section
variable {P : Program} {k e t : TypeId} {w w' : World} {b n : Nat} {f : MF}
theorem SMap.clear (h : SMap P k e w b n f) (ht : P.underlying t = some (.map k e)) : ∃ w', (∀ ty, (Builtin.clear_ #[t] ty #[.map (some b)]).run P w = .ok (.tuple #[]) w') ∧ SMap P k e w' b 0 (fun _ => none) ∧ Mods (fun g => g = b) w w' := by
  obtain ⟨D, ⟨es, clock, hb, _⟩, _⟩ := h
  have hlt : b < w.heap.size := (Array.getElem?_eq_some_iff.1 hb).1
  refine ⟨setBlock w b (.map #[] clock), fun ty => ?_, ⟨.map [], ⟨#[], clock, heap_setBlock_same hb _, ⟨by simp, stamped_empty clock, by simp⟩, Nat.le_refl _, rfl⟩, rfl, fun _ _ => rfl⟩, ⟨rfl, rfl, rfl, by simp [setBlock], fun i _ hi => heap_setBlock_other hb _ hi⟩⟩
  simp [Builtin.clear_, run_underlying ht, Go.MapKept.run_getObj_map hb, Go.MapKept.run_setObj_map _ hb, setBlock]
end
end Go.Tum
namespace Go.Proofs.YtcifajfmdpjfiaaDoor
open Go.RowKit Go.Tum Go.Lib Go.Sort
set_option maxRecDepth 100000
theorem recol2_two {n mid : Nat} {col : Nat → Nat} {g : Nat} (h : g < n) : recol2 n mid col 0 g = col g := if_pos h
/-- Another set is down. -/
theorem RlP.turn {w w' : World} {rb g mb C R H : Nat} {nw : Bool} {N : List Tx} {S : List Stn} {dn dn' : List Tx} {col : Nat → Nat} {ps : List Nat} {nv sv : Value} (h : RlP w rb g mb C R H nw N S dn col ps nv sv)
    (hm : Mods (fun b => b = mb) w w') (ht : 1 < w.heap.size) (ha : SMap Tryd.prog 9 3 w' mb dn'.length (awayF dn')) : RlP w' rb g mb C R H nw N S dn' (recol2 w.heap.size w'.heap.size col 0) ps nv sv := by
  have hlt := h.cells.lt
  have hc := h.cmb
  have hk : ∀ j, j ≠ 2 → ∀ b, b < w.heap.size → b = mb → col b ≠ j := fun j hj b _ e => by rw [e, hc]; exact fun e => hj e.symm
  refine ⟨h.cells.mods hm fun e => by have := h.crb; rw [e, hc] at this; omega, by rw [recol2_old hlt]; exact h.crb, ?_, own_recol h.names hm (hk 1 (by decide)), own_recol h.sta hm (hk 1 (by decide)), h.len, fun k q s hq hk2 => ?_, by rw [recol2_old h.away.lt]; exact h.cmb, ha⟩
  · have r1 := h.ring.bnd (G := fun b => b < w.heap.size ∧ col b = 1) (fun b hb e => ⟨hb, e⟩) fun e => h.ring.f1 e.2
    exact (r1.mods hm fun b _ e1 e2 => by have := e1.2; rw [e2, hc] at this; omega).bnd (fun b _ e => by rw [recol2_old e.1]; exact e.2) fun e => by
      rw [recol2_old ht] at e
      exact h.ring.f1 e
  · obtain ⟨c1, c2⟩ := h.each k q s hq hk2
    refine ⟨by rw [recol2_old c2.lt]; exact c1, ?_⟩
    obtain ⟨hv, hcs, ho⟩ := c2
    exact ⟨hv, hcs.mods hm fun e => by rw [e, hc] at c1; omega, own_recol ho hm (hk _ (by omega))⟩
theorem awayF_cons {dn : List Tx} {s : Tx} : ∀ k, awayF (s :: dn) k = (if k = s then some 1 else awayF dn k) := fun k => by
  unfold awayF
  by_cases h : k = s
  · simp [h]
  · simp [h]
theorem awayF_erase {dn : List Tx} {s : Tx} (hn : dn.Nodup) : ∀ k, awayF (dn.erase s) k = (if k = s then none else awayF dn k) := fun k => by
  unfold awayF
  by_cases h : k = s
  · subst h
    rw [if_pos rfl, if_neg]
    exact fun e => (List.Nodup.mem_erase_iff hn).1 e |>.1 rfl
  · rw [if_neg h]
    simp only [List.Nodup.mem_erase_iff hn, ne_eq, h, not_false_eq_true, true_and]
def downE (N dn : List Tx) (s : Tx) : Int := if s ∉ N then 240 else if s ∈ dn then 242 else 0
def upE (N dn : List Tx) (s : Tx) : Int := if s ∉ N then 240 else if s ∉ dn then 241 else 0
def downL (N dn : List Tx) (s : Tx) : List Tx := if downE N dn s = 0 then s :: dn else dn
def upL (N dn : List Tx) (s : Tx) : List Tx := if upE N dn s = 0 then dn.erase s else dn
theorem dn_small {N dn : List Tx} {S : List Stn} {R H : Nat} (h : RlI N S dn R H) (hN : N.length ≤ 64) : dn.length ≤ 64 := by
  have := List.Nodup.length_le_of_subset h.nd (fun s hs => h.sub s hs)
  omega
set_option maxHeartbeats 3200000 in
theorem down_K (w : World) (rb C R H : Nat) (nw : Bool) (N : List Tx) (S : List Stn) (dn : List Tx) (F : Nat → Prop) (s : Tx) (h : RelK w rb C R H nw N S dn F) :
    Calls Tryd.prog 21 #[(.pointer (some ⟨rb, 0, none⟩)), ks s] w (Ret fun v w' => v = .int .i64 (downE N dn s) ∧ RelK w' rb C R H nw N S (downL N dn s) (Ext F w.heap.size) ∧ Mods F w w') := by
  have hR := h
  obtain ⟨hI, ht, g, mb, col, ps, nv, sv, hp, hF⟩ := h
  have hmade := rmade_K hp
  have hsm := dn_small hI hp.ring.1.small
  by_cases hs : s ∈ N
  · have hmxs : s.length ≤ maxLen := by
      have := (of_decide_eq_true (show decide (1 ≤ s.length ∧ s.length ≤ 200) = true from hp.ring.1.fit s hs)).2
      unfold maxLen; omega
    obtain ⟨k, hk⟩ : ∃ k, N[k]? = some s := List.getElem?_of_mem hs
    have hkN : k < N.length := (List.getElem?_eq_some_iff.1 hk).1
    obtain ⟨p, hpk⟩ := lt_get (show k < ps.length by rw [hp.len]; exact hkN)
    have hsta := station_some hp hk hpk
    have r8 := hp.cells.at_ 8 rfl
    have rl := hp.cells.lt
    by_cases hd : s ∈ dn
    · have haw : (awayF dn s).getD 0 = 1 := by unfold awayF; rw [if_pos hd]; rfl
      have He := Lib.hid (show downE N dn s = 242 by unfold downE; rw [if_neg (by simpa using hs), if_pos hd])
      clear hd hs hk hpk
      have Hhp := Lib.hid hp
      clear hp
      have HhI := Lib.hid hI
      clear hI
      have HhF := Lib.hid hF
      clear hF
      have Hhmade := Lib.hid hmade
      clear hmade
      have Hhsta := Lib.hid hsta
      clear hsta
      have HhR := Lib.hid hR
      clear hR
      unfold ks at *
      go_enter Tryd.func21, Tryd.ntmps21
      go_wp2_with (first | (go_at_call 30; (refine ret_use (Hhmade.out) ?_; rintro v w2 ⟨rfl, rfl⟩)) | (go_at_call 33; (refine ret_use (Hhsta.out) ?_; rintro v w3 ⟨rfl, rfl⟩)) | (at_lookup; ((refine wpList_smap _ rfl _ _ rfl Tryd.underlying9 Tryd.underlying72 Tryd.underlying3 zeroInt rfl s rfl Hhp.out.away hmxs ?_))) | ((with_reducible refine wp_region_por ?_ ?_ ?_ ?_); kernel_rfl; kernel_rfl; (with_reducible repeat (first | exact calm_ret | refine calm_then ?_ | refine calm_in ?_ | refine calm_chk ?_ | refine calm_noGoto ?_))) | ((with_reducible refine chk_end ?_ ?_); kernel_rfl))
      go_ret
      exact ⟨by rw [He.out]; rfl, by unfold downL; rw [He.out, if_neg (by decide)]; exact ⟨HhI.out, ht, g, mb, col, ps, nv, sv, Hhp.out, fun b hb e => .inl (HhF.out b hb e)⟩, Mods.refl _ _⟩
    · have haw : (awayF dn s).getD 0 = 0 := by unfold awayF; rw [if_neg hd]; rfl
      have He := Lib.hid (show downE N dn s = 0 by unfold downE; rw [if_neg (by simpa using hs), if_neg hd])
      have Hd := Lib.hid hd
      have Hs := Lib.hid hs
      clear hd hs hk hpk
      have Hhp := Lib.hid hp
      clear hp
      have HhI := Lib.hid hI
      clear hI
      have HhF := Lib.hid hF
      clear hF
      have Hhmade := Lib.hid hmade
      clear hmade
      have Hhsta := Lib.hid hsta
      clear hsta
      have HhR := Lib.hid hR
      clear hR
      unfold ks at *
      go_enter Tryd.func21, Tryd.ntmps21
      go_wp2_with (first | (go_at_call 30; (refine ret_use (Hhmade.out) ?_; rintro v w2 ⟨rfl, rfl⟩)) | (go_at_call 33; (refine ret_use (Hhsta.out) ?_; rintro v w3 ⟨rfl, rfl⟩)) | (at_lookup; ((refine wpList_smap _ rfl _ _ rfl Tryd.underlying9 Tryd.underlying72 Tryd.underlying3 zeroInt rfl s rfl Hhp.out.away hmxs ?_))) | (at_mapUpdate; ((refine wpList_smap_put _ rfl _ _ _ rfl Tryd.underlying9 Tryd.underlying72 Tryd.underlying3 rfl s rfl (1 : Int) rfl Hhp.out.away hmxs (by unfold maxLen; omega) (by decide) ?_); intro w4 hm4 hM4; have HM4 := Lib.hid hm4; have HMM4 := Lib.hid hM4; clear hm4 hM4)) | ((with_reducible refine wp_region_por ?_ ?_ ?_ ?_); kernel_rfl; kernel_rfl; (with_reducible repeat (first | exact calm_ret | refine calm_then ?_ | refine calm_in ?_ | refine calm_chk ?_ | refine calm_noGoto ?_))) | ((with_reducible refine chk_end ?_ ?_); kernel_rfl))
      go_ret
      have hmm := HMM4.out
      have hi := HhI.out
      have hmb := Hhp.out.cmb
      refine ⟨by rw [He.out]; rfl, ?_, hmm.mono fun b hb e => HhF.out b hb (by rw [e, hmb]; decide)⟩
      unfold downL
      rw [He.out, if_pos rfl]
      have hnone : (awayF dn s).isSome = false := by unfold awayF; rw [if_neg Hd.out]; rfl
      have h4 := HM4.out
      rw [hnone] at h4
      refine ⟨⟨hi.r1, hi.r2, hi.h1, hi.h2, hi.len, hi.held, List.nodup_cons.2 ⟨Hd.out, hi.nd⟩, fun x hx => ?_⟩, Nat.lt_of_lt_of_le ht hmm.size, g, mb, _, ps, nv, sv, Hhp.out.turn hmm ht (h4.congr fun k => awayF_cons k), fun b hb e => ?_⟩
      · rcases List.mem_cons.1 hx with rfl | hx
        · exact Hs.out
        · exact hi.sub x hx
      · rcases recol2_ne e with ⟨h1, h2⟩ | ⟨h1, _⟩
        · exact .inl (HhF.out b h1 h2)
        · exact .inr h1
  · have hsta := station_none hp hs
    have He := Lib.hid (show downE N dn s = 240 by unfold downE; rw [if_pos hs])
    clear hs
    have Hhp := Lib.hid hp
    clear hp
    have HhI := Lib.hid hI
    clear hI
    have HhF := Lib.hid hF
    clear hF
    have Hhmade := Lib.hid hmade
    clear hmade
    have Hhsta := Lib.hid hsta
    clear hsta
    have HhR := Lib.hid hR
    clear hR
    unfold ks at *
    go_enter Tryd.func21, Tryd.ntmps21
    go_wp2_with (first | (go_at_call 30; (refine ret_use (Hhmade.out) ?_; rintro v w2 ⟨rfl, rfl⟩)) | (go_at_call 33; (refine ret_use (Hhsta.out) ?_; rintro v w3 ⟨rfl, rfl⟩)) | ((with_reducible refine wp_region_por ?_ ?_ ?_ ?_); kernel_rfl; kernel_rfl; (with_reducible repeat (first | exact calm_ret | refine calm_then ?_ | refine calm_in ?_ | refine calm_chk ?_ | refine calm_noGoto ?_))) | ((with_reducible refine chk_end ?_ ?_); kernel_rfl))
    go_ret
    exact ⟨by rw [He.out]; rfl, by unfold downL; rw [He.out, if_neg (by decide)]; exact ⟨HhI.out, ht, g, mb, col, ps, nv, sv, Hhp.out, fun b hb e => .inl (HhF.out b hb e)⟩, Mods.refl _ _⟩
set_option maxHeartbeats 3200000 in
theorem up_K (w : World) (rb C R H : Nat) (nw : Bool) (N : List Tx) (S : List Stn) (dn : List Tx) (F : Nat → Prop) (s : Tx) (h : RelK w rb C R H nw N S dn F) :
    Calls Tryd.prog 26 #[(.pointer (some ⟨rb, 0, none⟩)), ks s] w (Ret fun v w' => v = .int .i64 (upE N dn s) ∧ RelK w' rb C R H nw N S (upL N dn s) (Ext F w.heap.size) ∧ Mods F w w') := by
  have hR := h
  obtain ⟨hI, ht, g, mb, col, ps, nv, sv, hp, hF⟩ := h
  have hmade := rmade_K hp
  have hsm := dn_small hI hp.ring.1.small
  by_cases hs : s ∈ N
  · have hmxs : s.length ≤ maxLen := by
      have := (of_decide_eq_true (show decide (1 ≤ s.length ∧ s.length ≤ 200) = true from hp.ring.1.fit s hs)).2
      unfold maxLen; omega
    obtain ⟨k, hk⟩ : ∃ k, N[k]? = some s := List.getElem?_of_mem hs
    have hkN : k < N.length := (List.getElem?_eq_some_iff.1 hk).1
    obtain ⟨p, hpk⟩ := lt_get (show k < ps.length by rw [hp.len]; exact hkN)
    have hsta := station_some hp hk hpk
    have r8 := hp.cells.at_ 8 rfl
    have rl := hp.cells.lt
    by_cases hd : s ∈ dn
    · have haw : (awayF dn s).getD 0 = 1 := by unfold awayF; rw [if_pos hd]; rfl
      have He := Lib.hid (show upE N dn s = 0 by unfold upE; rw [if_neg (by simpa using hs), if_neg (by simpa using hd)])
      have Hd := Lib.hid hd
      have hdl : 0 < dn.length := List.length_pos_of_mem hd
      clear hd hs hk hpk
      by_cases h1 : dn.length = 1
      · have h1' : ((dn.length : Int) == 1) = true := by simp [h1]
        have H1 := Lib.hid h1
        clear h1
        have hln := fun ty => hp.away.len Tryd.underlying72 ty
        obtain ⟨w4, hcl, hm4, hM4⟩ := hp.away.clear Tryd.underlying72
        have HM4 := Lib.hid hm4
        have HMM4 := Lib.hid hM4
        clear hm4 hM4
        have Hhp := Lib.hid hp
        clear hp
        have HhI := Lib.hid hI
        clear hI
        have HhF := Lib.hid hF
        clear hF
        have Hhmade := Lib.hid hmade
        clear hmade
        have Hhsta := Lib.hid hsta
        clear hsta
        have HhR := Lib.hid hR
        clear hR
        unfold ks at *
        go_enter Tryd.func26, Tryd.ntmps26
        go_wp2_with (first | (go_at_call 30; (refine ret_use (Hhmade.out) ?_; rintro v w2 ⟨rfl, rfl⟩)) | (go_at_call 33; (refine ret_use (Hhsta.out) ?_; rintro v w3 ⟨rfl, rfl⟩)) | (at_lookup; ((refine wpList_smap _ rfl _ _ rfl Tryd.underlying9 Tryd.underlying72 Tryd.underlying3 zeroInt rfl s rfl Hhp.out.away hmxs ?_))) | ((with_reducible refine wp_region_por ?_ ?_ ?_ ?_); kernel_rfl; kernel_rfl; (with_reducible repeat (first | exact calm_ret | refine calm_then ?_ | refine calm_in ?_ | refine calm_chk ?_ | refine calm_noGoto ?_))) | ((with_reducible refine chk_end ?_ ?_); kernel_rfl))
        go_ret
        have hmm := HMM4.out
        have hi := HhI.out
        have hmb := Hhp.out.cmb
        refine ⟨by rw [He.out]; rfl, ?_, hmm.mono fun b hb e => HhF.out b hb (by rw [e, hmb]; decide)⟩
        unfold upL
        rw [He.out, if_pos rfl]
        have he : dn.erase s = [] := by
          have h5 := List.length_erase_of_mem Hd.out
          rw [H1.out] at h5
          exact List.eq_nil_of_length_eq_zero h5
        rw [he]
        refine ⟨⟨hi.r1, hi.r2, hi.h1, hi.h2, hi.len, hi.held, List.nodup_nil, fun x hx => (List.not_mem_nil hx).elim⟩, Nat.lt_of_lt_of_le ht hmm.size, g, mb, _, ps, nv, sv, Hhp.out.turn (dn' := []) hmm ht HM4.out, fun b hb e => ?_⟩
        rcases recol2_ne e with ⟨h1, h2⟩ | ⟨h1, _⟩
        · exact .inl (HhF.out b h1 h2)
        · exact .inr h1
      · have h1' : ((dn.length : Int) == 1) = false := by simp; omega
        have H1 := Lib.hid h1
        clear h1
        have hln := fun ty => hp.away.len Tryd.underlying72 ty
        have Hhp := Lib.hid hp
        clear hp
        have HhI := Lib.hid hI
        clear hI
        have HhF := Lib.hid hF
        clear hF
        have Hhmade := Lib.hid hmade
        clear hmade
        have Hhsta := Lib.hid hsta
        clear hsta
        have HhR := Lib.hid hR
        clear hR
        unfold ks at *
        go_enter Tryd.func26, Tryd.ntmps26
        go_wp2_with (first | (go_at_call 30; (refine ret_use (Hhmade.out) ?_; rintro v w2 ⟨rfl, rfl⟩)) | (go_at_call 33; (refine ret_use (Hhsta.out) ?_; rintro v w3 ⟨rfl, rfl⟩)) | (at_lookup; ((refine wpList_smap _ rfl _ _ rfl Tryd.underlying9 Tryd.underlying72 Tryd.underlying3 zeroInt rfl s rfl Hhp.out.away hmxs ?_))) | (at_delete; ((refine wpList_smap_del _ rfl _ _ rfl Tryd.underlying9 Tryd.underlying72 rfl s rfl Hhp.out.away hmxs ?_); intro w4 hm4 hM4; have HM4 := Lib.hid hm4; have HMM4 := Lib.hid hM4; clear hm4 hM4)) | ((with_reducible refine wp_region_por ?_ ?_ ?_ ?_); kernel_rfl; kernel_rfl; (with_reducible repeat (first | exact calm_ret | refine calm_then ?_ | refine calm_in ?_ | refine calm_chk ?_ | refine calm_noGoto ?_))) | ((with_reducible refine chk_end ?_ ?_); kernel_rfl))
        go_ret
        have hmm := HMM4.out
        have hi := HhI.out
        have hmb := Hhp.out.cmb
        refine ⟨by rw [He.out]; rfl, ?_, hmm.mono fun b hb e => HhF.out b hb (by rw [e, hmb]; decide)⟩
        unfold upL
        rw [He.out, if_pos rfl]
        have hsome : (awayF dn s).isSome = true := by unfold awayF; rw [if_pos Hd.out]; rfl
        have h4 := HM4.out
        rw [hsome] at h4
        have hle := List.length_erase_of_mem Hd.out
        have h5 : SMap Tryd.prog 9 3 w4 mb (dn.erase s).length (awayF (dn.erase s)) := by rw [hle]; exact h4.congr fun k => awayF_erase hi.nd k
        refine ⟨⟨hi.r1, hi.r2, hi.h1, hi.h2, hi.len, hi.held, hi.nd.erase s, fun x hx => hi.sub x (List.mem_of_mem_erase hx)⟩, Nat.lt_of_lt_of_le ht hmm.size, g, mb, _, ps, nv, sv, Hhp.out.turn hmm ht h5, fun b hb e => ?_⟩
        rcases recol2_ne e with ⟨h1, h2⟩ | ⟨h1, _⟩
        · exact .inl (HhF.out b h1 h2)
        · exact .inr h1
    · have haw : (awayF dn s).getD 0 = 0 := by unfold awayF; rw [if_neg hd]; rfl
      have He := Lib.hid (show upE N dn s = 241 by unfold upE; rw [if_neg (by simpa using hs), if_pos hd])
      clear hd hs hk hpk
      have Hhp := Lib.hid hp
      clear hp
      have HhI := Lib.hid hI
      clear hI
      have HhF := Lib.hid hF
      clear hF
      have Hhmade := Lib.hid hmade
      clear hmade
      have Hhsta := Lib.hid hsta
      clear hsta
      have HhR := Lib.hid hR
      clear hR
      unfold ks at *
      go_enter Tryd.func26, Tryd.ntmps26
      go_wp2_with (first | (go_at_call 30; (refine ret_use (Hhmade.out) ?_; rintro v w2 ⟨rfl, rfl⟩)) | (go_at_call 33; (refine ret_use (Hhsta.out) ?_; rintro v w3 ⟨rfl, rfl⟩)) | (at_lookup; ((refine wpList_smap _ rfl _ _ rfl Tryd.underlying9 Tryd.underlying72 Tryd.underlying3 zeroInt rfl s rfl Hhp.out.away hmxs ?_))) | ((with_reducible refine wp_region_por ?_ ?_ ?_ ?_); kernel_rfl; kernel_rfl; (with_reducible repeat (first | exact calm_ret | refine calm_then ?_ | refine calm_in ?_ | refine calm_chk ?_ | refine calm_noGoto ?_))) | ((with_reducible refine chk_end ?_ ?_); kernel_rfl))
      go_ret
      exact ⟨by rw [He.out]; rfl, by unfold upL; rw [He.out, if_neg (by decide)]; exact ⟨HhI.out, ht, g, mb, col, ps, nv, sv, Hhp.out, fun b hb e => .inl (HhF.out b hb e)⟩, Mods.refl _ _⟩
  · have hsta := station_none hp hs
    have He := Lib.hid (show upE N dn s = 240 by unfold upE; rw [if_pos hs])
    clear hs
    have Hhp := Lib.hid hp
    clear hp
    have HhI := Lib.hid hI
    clear hI
    have HhF := Lib.hid hF
    clear hF
    have Hhmade := Lib.hid hmade
    clear hmade
    have Hhsta := Lib.hid hsta
    clear hsta
    have HhR := Lib.hid hR
    clear hR
    unfold ks at *
    go_enter Tryd.func26, Tryd.ntmps26
    go_wp2_with (first | (go_at_call 30; (refine ret_use (Hhmade.out) ?_; rintro v w2 ⟨rfl, rfl⟩)) | (go_at_call 33; (refine ret_use (Hhsta.out) ?_; rintro v w3 ⟨rfl, rfl⟩)) | ((with_reducible refine wp_region_por ?_ ?_ ?_ ?_); kernel_rfl; kernel_rfl; (with_reducible repeat (first | exact calm_ret | refine calm_then ?_ | refine calm_in ?_ | refine calm_chk ?_ | refine calm_noGoto ?_))) | ((with_reducible refine chk_end ?_ ?_); kernel_rfl))
    go_ret
    exact ⟨by rw [He.out]; rfl, by unfold upL; rw [He.out, if_neg (by decide)]; exact ⟨HhI.out, ht, g, mb, col, ps, nv, sv, Hhp.out, fun b hb e => .inl (HhF.out b hb e)⟩, Mods.refl _ _⟩
end Go.Proofs.YtcifajfmdpjfiaaDoor
