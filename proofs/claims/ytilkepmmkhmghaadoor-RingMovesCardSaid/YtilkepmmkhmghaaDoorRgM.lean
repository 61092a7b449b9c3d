/- Ring.Remove, Nodes, Places. -/
import Derived.Test.YtilkepmmkhmghaaDoorRgL
import Derived.Test.YtilkepmmkhmghaaDoorOwn3
namespace Go.Proofs.YtilkepmmkhmghaaDoor
open Go.RowKit Go.Tum Go.Lib Go.Sort
set_option maxRecDepth 100000
theorem ringI_del {N : List Tx} {c : Nat} (h : RingI N c) (s : Tx) : RingI (N.filter fun x => !decide (x = s)) c :=
  ⟨h.strict.sublist List.filter_sublist, fun x hx => h.fit x ((List.mem_filter.1 hx).1), Nat.le_trans (List.length_filter_le _ _) h.small, h.c1, h.c2⟩
theorem del_end {wb w3 w4 w5 : World} {q c ps : Nat} {nv pv u v : Value} {N : List Tx} {s : Tx} {F : Nat → Prop} (hr : RgK wb q c nv pv N (placesOf c N) F)
    (h3 : Own w3 (fun k => nv.ownBlock = some k) 9 1 u (N.length - 1) ((N.take ps ++ N.drop (ps + 1)).map ks)) (hm3 : Mods (fun k => nv.ownBlock = some k) wb w3) (h4 : Mods No (w3.setCell ⟨q, 1, none⟩ u) w4)
    (h5 : Own w5 (fun k => pv.ownBlock = some k) 39 2 v ((placesOf c N).filter (notOf s)).length (plcs ((placesOf c N).filter (notOf s)))) (hm5 : Mods (fun k => pv.ownBlock = some k) w4 w5)
    (hf : N.take ps ++ N.drop (ps + 1) = N.filter (fun x => !decide (x = s))) (hlt : ps < N.length) :
    RgK (w5.setCell ⟨q, 2, none⟩ v) q c u v (N.filter fun x => !decide (x = s)) (placesOf c (N.filter fun x => !decide (x = s))) F ∧ Mods F wb (w5.setCell ⟨q, 2, none⟩ v) := by
  have hq3 := hr.cells.mods hm3 hr.nq.1
  have hu : u.ownBlock ≠ some q := h3.ne_cells hq3 (by decide)
  have hq5 := ((hq3.set_ 1 u).mods h4 fun e => e).mods hm5 hr.nq.2
  have hv : v.ownBlock ≠ some q := h5.ne_cells hq5 (by decide)
  have hlen : N.length - 1 = (N.filter fun x => !decide (x = s)).length := by rw [← hf, List.length_append, List.length_take, List.length_drop]; omega
  rw [show notOf s = (fun p => !decide (p.2 = s)) from rfl, placesOf_del] at h5
  rw [hlen, hf] at h3
  refine ⟨⟨hq5.set_ 2 v, (((((h3.far hu u).mods h4 fun _ _ e => e).mods hm5 fun g hg e => hr.np g (h3.2 g hg) e).far hu v).more fun g hg => hr.nown.2 g hg), (h5.far hv v).more hr.pown.2, hr.fq, hr.f1⟩, ?_⟩
  have a1 : Mods F wb (w3.setCell ⟨q, 1, none⟩ u) := (hm3.mono fun k _ e => hr.nown.2 k e).setCell _ _ fun _ => hr.fq
  exact ((a1.trans h4 fun _ _ e => e.elim).trans hm5 fun k _ e => hr.pown.2 k e).setCell _ _ fun _ => hr.fq
set_option maxHeartbeats 6400000 in
theorem remove_K (w : World) (q c : Nat) (N : List Tx) (s : Tx) (F : Nat → Prop) (h : RingK w q c N F) :
    Calls Tryd.prog 28 #[(.pointer (some ⟨q, 0, none⟩)), ks s] w (Ret fun v w' => v = .int .i64 (delV N s).2 ∧ RingK w' q c (delV N s).1 F ∧ Mods F w w') := by
  have HB := Lib.hid (h.no ((Mods.refl No w).alloc (.cells #[ks s] 9)))
  have hbx := Cells.new w 9 #[ks s]
  obtain ⟨hI, nv, pv, h⟩ := h
  have lb := Nat.lt_irrefl w.heap.size
  have HR := Lib.hid (h.no ((Mods.refl No w).alloc (.cells #[ks s] 9)))
  have hps8 := hI.psmall
  have hdf := fun w1 v h1 h2 => deleteF_K w1 (fun k => pv.ownBlock = some k) v (placesOf c N) s w.heap.size h1 h2 (by omega)
  have hql : q < w.heap.size := h.cells.lt
  have hnb : ∀ g, nv.ownBlock = some g → g ≠ w.heap.size := fun g hg e => by have := h.nown.lt g hg; omega
  obtain ⟨A, cp, rfl, hac, _⟩ := h.nown.form
  obtain ⟨L, hL⟩ : ∃ L, L = placesOf c N := ⟨_, rfl⟩
  obtain ⟨M, hM⟩ : ∃ M, M = L.filter (notOf s) := ⟨_, rfl⟩
  have hpf := h.pown.form
  rw [← hL] at HR hpf hdf
  rw [← hM] at hdf
  have HLM := Lib.hid (And.intro hL hM)
  obtain ⟨Ap, cpp, rfl, _, _⟩ := hpf
  clear hL hM
  have hbs := bsearch_K (w.alloc (.cells #[ks s] 9)).drew F _ N s HR.out.nown.rd (by have := hI.small; omega) hI.strict
  have hmade := made_some (w.alloc (.cells #[ks s] 9)) q (c : Int) (HR.out.cells.at_ 0 rfl) true (decide_eq_true (by have := hI.c1; omega))
  have c1 := HR.out.cells.at_ 1 rfl
  have c0 := HR.out.cells.at_ 0 rfl
  have b0 := hbx.at_ 0 rfl
  have HBX := Lib.hid hbx
  have HI := Lib.hid hI
  by_cases hm : s ∈ N
  · have He := Lib.hid (show delV N s = (N.filter fun x => !decide (x = s), 0) from if_pos hm)
    obtain ⟨hf, hlt⟩ := filter_at hI.strict hm
    rw [decide_eq_true hm] at hbs
    obtain ⟨ps, hps⟩ : ∃ ps, ps = posT N s := ⟨_, rfl⟩
    rw [← hps] at hbs hlt hf
    have HF := Lib.hid hf
    have hps2 : (ps : Int) ≤ 64 := by have := hI.small; omega
    clear hm hps hf hbx
    have Hhbs := Lib.hid hbs
    clear hbs
    have Hhmade := Lib.hid hmade
    clear hmade
    have Hh := Lib.hid h
    clear h
    have Hhnb := Lib.hid hnb
    clear hnb
    have HhI := Lib.hid hI
    clear hI
    have Hhdf := Lib.hid hdf
    clear hdf
    have Hhql := Lib.hid hql
    clear hql
    unfold ks at Hhbs Hhmade b0 c0 c1 ⊢
    go_enter Tryd.func28, Tryd.ntmps28
    go_wp2_with (first | (go_at_call 36; (refine ret_use (Hhmade.out) ?_; rintro v w2 ⟨rfl, rfl⟩)) | (go_at_call 42; (refine ret_use (Hhbs.out) ?_; rintro v w2 ⟨rfl, rfl⟩)) | (go_at_call 43; (refine ret_use (delete_K _ _ _ N ps (HR.out.nown.tight.mods (Mods.refl No _).drew fun _ _ e => e) hlt) ?_; rintro u w3 ⟨ho3, hm3⟩; have HO3 := Lib.hid ho3; have HM3 := Lib.hid hm3; have HC3 := Lib.hid (HR.out.cells.drew.mods hm3 HR.out.nq.1); have e1 := HC3.out.at_ 1 rfl; have e2 := HC3.out.at_ 2 rfl; have ef := HC3.out.frozen 1; have el := HC3.out.lt; obtain ⟨A3, cp3, rfl, _, _⟩ := ho3.form; clear ho3 hm3)) | (go_at_call 44; (refine ret_use (Hhdf.out (w3.setCell ⟨q, 1, none⟩ (.slice A3 (N.length - 1) cp3)) _ (((HR.out.pown.tight.mods (Mods.refl No _).drew fun _ _ e => e).mods HM3.out fun g hg e => HR.out.np g e hg).far HR.out.nq.2 _) ((HBX.out.drew.mods HM3.out fun e => Hhnb.out _ e rfl).far (fun e => Nat.ne_of_gt Hhql.out e) _)) ?_; rintro u5 w5 ⟨ho5, hm5⟩; have HO5 := Lib.hid ho5; have HM5 := Lib.hid hm5; have HC5 := Lib.hid ((HC3.out.set_ 1 (.slice A3 (N.length - 1) cp3)).mods hm5 HR.out.nq.2); have k2 := HC5.out.at_ 2 rfl; have kf := HC5.out.frozen 2; have kl := HC5.out.lt; obtain ⟨A5, cp5, rfl, _, _⟩ := ho5.form; clear ho5 hm5)) | ((with_reducible refine wp_region_por ?_ ?_ ?_ ?_); kernel_rfl; kernel_rfl; (with_reducible repeat (first | exact calm_ret | refine calm_then ?_ | refine calm_in ?_ | refine calm_chk ?_ | refine calm_noGoto ?_))) | ((with_reducible refine chk_end ?_ ?_); kernel_rfl))
    go_ret
    rw [He.out]
    obtain ⟨hL, hM⟩ := HLM.out
    subst hM hL
    have hE := del_end (HR.out.no (Mods.refl No _).drew) HO3.out HM3.out (Mods.refl No _) HO5.out HM5.out HF.out hlt
    exact ⟨rfl, ⟨ringI_del HI.out s, _, _, hE.1⟩, ((Mods.refl F w).alloc _).drew.trans hE.2 fun _ _ e => e⟩
  · have He := Lib.hid (show delV N s = (N, 133) from if_neg hm)
    rw [decide_eq_false hm] at hbs
    clear hm hbx
    have Hhbs := Lib.hid hbs
    clear hbs
    have Hhmade := Lib.hid hmade
    clear hmade
    have Hh := Lib.hid h
    clear h
    have Hhnb := Lib.hid hnb
    clear hnb
    have HhI := Lib.hid hI
    clear hI
    have Hhdf := Lib.hid hdf
    clear hdf
    have Hhql := Lib.hid hql
    clear hql
    unfold ks at Hhbs Hhmade b0 c0 c1 ⊢
    go_enter Tryd.func28, Tryd.ntmps28
    go_wp2_with (first | (go_at_call 36; (refine ret_use (Hhmade.out) ?_; rintro v w2 ⟨rfl, rfl⟩)) | (go_at_call 42; (refine ret_use (Hhbs.out) ?_; rintro v w2 ⟨rfl, rfl⟩)) | ((with_reducible refine wp_region_por ?_ ?_ ?_ ?_); kernel_rfl; kernel_rfl; (with_reducible repeat (first | exact calm_ret | refine calm_then ?_ | refine calm_in ?_ | refine calm_chk ?_ | refine calm_noGoto ?_))) | ((with_reducible refine chk_end ?_ ?_); kernel_rfl))
    go_ret
    rw [He.out]
    exact ⟨rfl, HB.out.no (Mods.refl No _).drew, ((Mods.refl F w).alloc _).drew⟩
theorem ks_ones (L : List Tx) : ∀ u ∈ L.map ks, u.oneCell' = true := fun u hu => by
  obtain ⟨s, _, rfl⟩ := List.mem_map.1 hu
  rfl
theorem plcs_ones (L : List Plc) : ∀ u ∈ plcs L, u.oneCell' = true := fun u hu => by
  obtain ⟨p, _, hu⟩ := List.mem_flatMap.1 hu
  exact pl_one p u hu
theorem size_Tx : (Tryd.prog.info? 9).map (·.size) = some 1 := by kernel_rfl
theorem size_Pl : (Tryd.prog.info? 39).map (·.size) = some 2 := by kernel_rfl
/-- What Nodes and Places hand out: new memory. -/
def Handed (w w' : World) (e : TypeId) (size : Nat) (v : Value) (n : Nat) (xs : List Value) : Prop := Own w' (fun k => k = w.heap.size) e size v n xs ∧ Mods No w w'
set_option maxHeartbeats 3200000 in
theorem nodes_K (w : World) (q c : Nat) (N : List Tx) (F : Nat → Prop) (h : RingK w q c N F) :
    Calls Tryd.prog 14 #[(.pointer (some ⟨q, 0, none⟩))] w (Ret fun v w' => Own w' (fun k => w.heap.size ≤ k) 9 1 v N.length (List.map ks N) ∧ Mods No w w') := by
  obtain ⟨hI, nv, pv, h⟩ := h
  have hsm : N.length ≤ 8192 := (by have := hI.small; omega)
  have hmade := made_some w q (c : Int) (h.cells.at_ 0 rfl) true (decide_eq_true (by have := hI.c1; omega))
  have hO := h.nown
  obtain ⟨L, hL⟩ : ∃ L, L = N := ⟨_, rfl⟩
  rw [← hL] at hO hsm ⊢
  have hmk := run_make_ w 22 9 (.string ⟨#[]⟩) 1 16 L.length Tryd.underlying22 infoTx (by omega) (by omega) (by omega)
  obtain ⟨mc, hmc⟩ : ∃ mc, mc = madeCells ((.string ⟨#[]⟩) : Value).cells (L.length * 1) := ⟨_, rfl⟩
  rw [← hmc] at hmk
  have hms : mc.size = L.length * 1 := by rw [hmc, size_madeCells]
  obtain ⟨A, cp, rfl, hac, _⟩ := hO.form
  have hcs : Cells (w.alloc (.cells mc 9)) w.heap.size 9 mc := Cells.new w _ _
  have ho1 := (ks_ones L)
  obtain ⟨xs, hxs⟩ : ∃ xs, xs = List.map ks L := ⟨_, rfl⟩
  rw [← hxs] at hO ho1 ⊢
  have hcp := run_copy_rd (P := Tryd.prog) (n := L.length) (cap := L.length) (xs := xs) (v := .slice A L.length cp) (F := fun g => (Value.slice A L.length cp).ownBlock = some g) 22 22 3 9 Tryd.underlying22 size_Tx hcs hms (hO.tight.mods ((Mods.refl No w).alloc (.cells mc 9)) fun _ _ e => e).rd ho1
  have HE := Lib.hid (copied hO.rd (e := 9) mc (by unfold maxLen; omega))
  have c1 := (h.cells.alloc (.cells mc 9)).at_ 1 rfl
  have c0 := h.cells.at_ 1 rfl
  clear hmc hxs ho1 hms
  clear hcs
  have Hh := Lib.hid h
  clear h
  have Hhmade := Lib.hid hmade
  clear hmade
  have HhI := Lib.hid hI
  clear hI
  have HhO := Lib.hid hO
  clear hO
  have HhL := Lib.hid hL
  clear hL
  go_enter Tryd.func14, Tryd.ntmps14
  go_wp2_with (first | (go_at_call 36; (refine ret_use (Hhmade.out) ?_; rintro v w2 ⟨rfl, rfl⟩)) | ((with_reducible refine wp_region_por ?_ ?_ ?_ ?_); kernel_rfl; kernel_rfl; (with_reducible repeat (first | exact calm_ret | refine calm_then ?_ | refine calm_in ?_ | refine calm_chk ?_ | refine calm_noGoto ?_))) | ((with_reducible refine chk_end ?_ ?_); kernel_rfl))
  go_ret
  exact ⟨HE.out.1.more fun _ e => Nat.le_of_eq e.symm, HE.out.2⟩
set_option maxHeartbeats 3200000 in
theorem places_K (w : World) (q c : Nat) (N : List Tx) (F : Nat → Prop) (h : RingK w q c N F) :
    Calls Tryd.prog 15 #[(.pointer (some ⟨q, 0, none⟩))] w (Ret fun v w' => Own w' (fun k => w.heap.size ≤ k) 39 2 v (placesOf c N).length (plcs (placesOf c N)) ∧ Mods No w w') := by
  obtain ⟨hI, nv, pv, h⟩ := h
  have hsm : (placesOf c N).length ≤ 8192 := hI.psmall
  have hmade := made_some w q (c : Int) (h.cells.at_ 0 rfl) true (decide_eq_true (by have := hI.c1; omega))
  have hO := h.pown
  obtain ⟨L, hL⟩ : ∃ L, L = (placesOf c N) := ⟨_, rfl⟩
  rw [← hL] at hO hsm ⊢
  have hmk := run_make_ w 27 39 (.agg #[.int .u64 0, .string ⟨#[]⟩]) 2 24 L.length Tryd.underlying27 infoPl (by omega) (by omega) (by omega)
  obtain ⟨mc, hmc⟩ : ∃ mc, mc = madeCells ((.agg #[.int .u64 0, .string ⟨#[]⟩]) : Value).cells (L.length * 2) := ⟨_, rfl⟩
  rw [← hmc] at hmk
  have hms : mc.size = L.length * 2 := by rw [hmc, size_madeCells]
  obtain ⟨A, cp, rfl, hac, _⟩ := hO.form
  have hcs : Cells (w.alloc (.cells mc 39)) w.heap.size 39 mc := Cells.new w _ _
  have ho1 := (plcs_ones L)
  obtain ⟨xs, hxs⟩ : ∃ xs, xs = plcs L := ⟨_, rfl⟩
  rw [← hxs] at hO ho1 ⊢
  have hcp := run_copy_rd (P := Tryd.prog) (n := L.length) (cap := L.length) (xs := xs) (v := .slice A L.length cp) (F := fun g => (Value.slice A L.length cp).ownBlock = some g) 27 27 3 39 Tryd.underlying27 size_Pl hcs hms (hO.tight.mods ((Mods.refl No w).alloc (.cells mc 39)) fun _ _ e => e).rd ho1
  have HE := Lib.hid (copied hO.rd (e := 39) mc (by unfold maxLen; omega))
  have c1 := (h.cells.alloc (.cells mc 39)).at_ 2 rfl
  have c0 := h.cells.at_ 2 rfl
  clear hmc hxs ho1 hms
  clear hcs
  have Hh := Lib.hid h
  clear h
  have Hhmade := Lib.hid hmade
  clear hmade
  have HhI := Lib.hid hI
  clear hI
  have HhO := Lib.hid hO
  clear hO
  have HhL := Lib.hid hL
  clear hL
  go_enter Tryd.func15, Tryd.ntmps15
  go_wp2_with (first | (go_at_call 36; (refine ret_use (Hhmade.out) ?_; rintro v w2 ⟨rfl, rfl⟩)) | ((with_reducible refine wp_region_por ?_ ?_ ?_ ?_); kernel_rfl; kernel_rfl; (with_reducible repeat (first | exact calm_ret | refine calm_then ?_ | refine calm_in ?_ | refine calm_chk ?_ | refine calm_noGoto ?_))) | ((with_reducible refine chk_end ?_ ?_); kernel_rfl))
  go_ret
  exact ⟨HE.out.1.more fun _ e => Nat.le_of_eq e.symm, HE.out.2⟩
end Go.Proofs.YtilkepmmkhmghaaDoor
