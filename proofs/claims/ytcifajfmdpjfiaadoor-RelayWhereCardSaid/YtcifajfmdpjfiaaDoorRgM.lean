/- Ring.Remove, Nodes, Places. -/
import Derived.Test.YtcifajfmdpjfiaaDoorRgL
import Derived.Test.YtcifajfmdpjfiaaDoorMBs
namespace Go.Proofs.YtcifajfmdpjfiaaDoor
open Go.RowKit Go.Tum Go.Lib Go.Sort
set_option maxRecDepth 100000
theorem ringI_del {N : List Tx} {c : Nat} (h : RingI N c) (s : Tx) : RingI (N.filter fun x => !decide (x = s)) c :=
  ⟨h.strict.sublist List.filter_sublist, fun x hx => h.fit x ((List.mem_filter.1 hx).1), Nat.le_trans (List.length_filter_le _ _) h.small, h.c1, h.c2⟩
theorem del_end {wb w3 w4 w5 : World} {q c ps : Nat} {nv pv u v : Value} {N : List Tx} {s : Tx} {F : Nat → Prop} (hr : RgK wb q c nv pv N (placesOf c N) F)
    (h3 : Own w3 (fun k => nv.ownBlock = some k) 9 1 u (N.length - 1) ((N.take ps ++ N.drop (ps + 1)).map ks)) (hm3 : Mods (fun k => nv.ownBlock = some k) wb w3) (h4 : Mods No (w3.setCell ⟨q, 1, none⟩ u) w4)
    (h5 : Own w5 (fun k => pv.ownBlock = some k) 103 2 v ((placesOf c N).filter (notOf s)).length (plcs ((placesOf c N).filter (notOf s)))) (hm5 : Mods (fun k => pv.ownBlock = some k) w4 w5)
    (hf : N.take ps ++ N.drop (ps + 1) = N.filter (fun x => !decide (x = s))) (hlt : ps < N.length) :
    RgK (w5.setCell ⟨q, 2, none⟩ v) q c u v (N.filter fun x => !decide (x = s)) (placesOf c (N.filter fun x => !decide (x = s))) F ∧ Mods F wb (w5.setCell ⟨q, 2, none⟩ v) := by
  have hq3 := hr.cells.mods hm3 hr.nq.1
  have hu : u.ownBlock ≠ some q := h3.ne_cells hq3 (by decide)
  have hq5 := ((hq3.set_ 1 u).mods h4 fun e => e).mods hm5 hr.nq.2
  have hv : v.ownBlock ≠ some q := h5.ne_cells hq5 (by decide)
  have hlen : N.length - 1 = (N.filter fun x => !decide (x = s)).length := by rw [← hf, List.length_append, List.length_take, List.length_drop]; omega
  rw [show notOf s = (fun p => !decide (p.2 = s)) from rfl, placesOf_del] at h5
  rw [hlen, hf] at h3
  refine ⟨⟨hq5.set_ 2 v, (((((h3.far hu u).mods h4 fun _ _ e => e).mods hm5 fun g hg e => hr.np g (h3.2 g hg) e).far hu v).more fun g hg => hr.nown.2 g hg), (h5.far hv v).more hr.pown.2, hr.fq, hr.f1⟩, ?_⟩
  have a1 : Mods F wb (w3.setCell ⟨q, 1, none⟩ u) := (hm3.mono fun k _ e => hr.nown.2 k e).setCell _ _ fun _ => hr.fq
  exact ((a1.trans h4 fun _ _ e => e.elim).trans hm5 fun k _ e => hr.pown.2 k e).setCell _ _ fun _ => hr.fq
theorem ks_ones (L : List Tx) : ∀ u ∈ L.map ks, u.oneCell' = true := fun u hu => by
  obtain ⟨s, _, rfl⟩ := List.mem_map.1 hu
  rfl
theorem plcs_ones (L : List Plc) : ∀ u ∈ plcs L, u.oneCell' = true := fun u hu => by
  obtain ⟨p, _, hu⟩ := List.mem_flatMap.1 hu
  exact pl_one p u hu
theorem size_Tx : (Tryd.prog.info? 9).map (·.size) = some 1 := by kernel_rfl
theorem size_Pl : (Tryd.prog.info? 103).map (·.size) = some 2 := by kernel_rfl
/-- What Nodes and Places hand out: new memory. -/
def Handed (w w' : World) (e : TypeId) (size : Nat) (v : Value) (n : Nat) (xs : List Value) : Prop := Own w' (fun k => k = w.heap.size) e size v n xs ∧ Mods No w w'
set_option maxHeartbeats 3200000 in
theorem nodes_K (w : World) (q c : Nat) (N : List Tx) (F : Nat → Prop) (h : RingK w q c N F) :
    Calls Tryd.prog 28 #[(.pointer (some ⟨q, 0, none⟩))] w (Ret fun v w' => Own w' (fun k => w.heap.size ≤ k) 9 1 v N.length (List.map ks N) ∧ Mods No w w') := by
  obtain ⟨hI, nv, pv, h⟩ := h
  have hsm : N.length ≤ 8192 := (by have := hI.small; omega)
  have hmade := made_some w q (c : Int) (h.cells.at_ 0 rfl) true (decide_eq_true (by have := hI.c1; omega))
  have hO := h.nown
  obtain ⟨L, hL⟩ : ∃ L, L = N := ⟨_, rfl⟩
  rw [← hL] at hO hsm ⊢
  have hmk := run_make_ w 22 9 (.string ⟨#[]⟩) 1 16 L.length Tryd.underlying22 infoTx (by omega) (by omega) (by omega)
  obtain ⟨mc, hmc⟩ : ∃ mc, mc = madeCells ((.string ⟨#[]⟩) : Value).cells (L.length * 1) := ⟨_, rfl⟩
  rw [← hmc] at hmk
  have hms : mc.size = L.length * 1 := by rw [hmc, size_madeCells]
  obtain ⟨A, cp, rfl, hac, _⟩ := hO.form
  have hcs : Cells (w.alloc (.cells mc 9)) w.heap.size 9 mc := Cells.new w _ _
  have ho1 := (ks_ones L)
  obtain ⟨xs, hxs⟩ : ∃ xs, xs = List.map ks L := ⟨_, rfl⟩
  rw [← hxs] at hO ho1 ⊢
  have hcp := run_copy_rd (P := Tryd.prog) (n := L.length) (cap := L.length) (xs := xs) (v := .slice A L.length cp) (F := fun g => (Value.slice A L.length cp).ownBlock = some g) 22 22 3 9 Tryd.underlying22 size_Tx hcs hms (hO.tight.mods ((Mods.refl No w).alloc (.cells mc 9)) fun _ _ e => e).rd ho1
  have HE := Lib.hid (copied hO.rd (e := 9) mc (by unfold maxLen; omega))
  have c1 := (h.cells.alloc (.cells mc 9)).at_ 1 rfl
  have c0 := h.cells.at_ 1 rfl
  clear hmc hxs ho1 hms
  clear hcs
  have Hh := Lib.hid h
  clear h
  have Hhmade := Lib.hid hmade
  clear hmade
  have HhI := Lib.hid hI
  clear hI
  have HhO := Lib.hid hO
  clear hO
  have HhL := Lib.hid hL
  clear hL
  go_enter Tryd.func28, Tryd.ntmps28
  go_wp2_with (first | (go_at_call 41; (refine ret_use (Hhmade.out) ?_; rintro v w2 ⟨rfl, rfl⟩)) | ((with_reducible refine wp_region_por ?_ ?_ ?_ ?_); kernel_rfl; kernel_rfl; (with_reducible repeat (first | exact calm_ret | refine calm_then ?_ | refine calm_in ?_ | refine calm_chk ?_ | refine calm_noGoto ?_))) | ((with_reducible refine chk_end ?_ ?_); kernel_rfl))
  go_ret
  exact ⟨HE.out.1.more fun _ e => Nat.le_of_eq e.symm, HE.out.2⟩
end Go.Proofs.YtcifajfmdpjfiaaDoor
