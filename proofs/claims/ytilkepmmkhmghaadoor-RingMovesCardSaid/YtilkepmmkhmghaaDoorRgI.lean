/- Package ring: DeleteFunc at places. -/
import Derived.Test.YtilkepmmkhmghaaDoorRgH
namespace Go.Proofs.YtilkepmmkhmghaaDoor
open Go.RowKit Go.Tum Go.Lib Go.Sort
set_option maxRecDepth 100000
theorem infoPl : (Tryd.prog.info? 39).map (fun i => (i.zero, i.size, i.bytes)) = some (some (.agg #[.int .u64 0, .string ⟨#[]⟩]), 2, 24) := by kernel_rfl
theorem plcs_get (L : List Plc) (i r : Nat) (hr : r < 2) : (plcs L)[i * 2 + r]? = (L[i]?).bind fun x => (pl x)[r]? := flatMap_get pl_len L i r hr
theorem plcs_set (M : List Plc) (i : Nat) (x : Plc) : ((plcs M).set (i * 2) (.int .u64 (x.1 : Int))).set (i * 2 + 1) (ks x.2) = plcs (M.set i x) := by
  apply List.ext_getElem?
  intro t
  have hq : t / 2 * 2 + t % 2 = t := by omega
  have hr : t % 2 < 2 := by omega
  have h1 := plcs_get M (t / 2) (t % 2) hr
  have h2 := plcs_get (M.set i x) (t / 2) (t % 2) hr
  rw [hq] at h1 h2
  rw [h2]
  have hlen := plcs_length M
  by_cases hi : t / 2 = i
  · by_cases hM : i < M.length
    · rw [hi, List.getElem?_set_self hM]
      rcases Nat.mod_two_eq_zero_or_one t with e | e
      · have e2 : t = i * 2 := by omega
        rw [e, List.getElem?_set_ne (by omega), e2, List.getElem?_set_self (by omega)]; rfl
      · have e2 : t = i * 2 + 1 := by omega
        rw [e, e2, List.getElem?_set_self (by simp; omega)]; rfl
    · rw [List.getElem?_eq_none (by simp; omega), List.getElem?_eq_none (by simp; omega)]; rfl
  · rw [List.getElem?_set_ne (by omega), List.getElem?_set_ne (by omega), List.getElem?_set_ne (by omega), h1]
theorem plcs_take (L : List Plc) (i : Nat) : (plcs L).take (i * 2) = plcs (L.take i) := by
  apply List.ext_getElem?
  intro t
  have hq : t / 2 * 2 + t % 2 = t := by omega
  have hr : t % 2 < 2 := by omega
  have h1 := plcs_get L (t / 2) (t % 2) hr
  have h2 := plcs_get (L.take i) (t / 2) (t % 2) hr
  rw [hq] at h1 h2
  rw [h2]
  by_cases ht : t < i * 2
  · rw [List.getElem?_take_of_lt ht, h1, List.getElem?_take_of_lt (by omega)]
  · rw [List.getElem?_eq_none (by simp; omega), List.getElem?_eq_none (by simp; omega)]; rfl
theorem zeroPl (w : World) : (zeroValue 39).run Tryd.prog w = .ok (.agg #[.int .u64 0, .string ⟨#[]⟩]) w := by kernel_rfl
structure DfI (w wr : World) (F : Nat → Prop) (g cap : Nat) (L M : List Plc) (p : Plc → Bool) (bx : Nat) (s : Tx) (i j : Nat) : Prop where
  len : M.length = L.length
  own : Own wr F 39 2 (.slice (some ⟨g, 0, none⟩) L.length cap) L.length (plcs M)
  tk : M.take i = (L.take j).filter p
  dr : M.drop j = L.drop j
  ij : i < j
  hm : Mods F w wr
  box : Cells wr bx 9 #[ks s]
abbrev notOf (s : Tx) : Plc → Bool := fun p => !decide (p.2 = s)
theorem filter_take_next {p : Plc → Bool} {L : List Plc} {j : Nat} {x : Plc} (hx : L[j]? = some x) : (L.take (j + 1)).filter p = (L.take j).filter p ++ if p x = true then [x] else [] := by
  rw [take_nx hx, List.filter_append]
  congr 1
  by_cases h : p x = true <;> simp [h]
set_option maxHeartbeats 3200000 in
theorem deleteF_K (w : World) (F : Nat → Prop) (v : Value) (L : List Plc) (s : Tx) (bx : Nat) (h : Own w F 39 2 v L.length (plcs L)) (hb : Cells w bx 9 #[ks s]) (hs : L.length ≤ 65536) :
    Calls Tryd.prog 44 #[v, .func (.func 45) #[] #[(.pointer (some ⟨bx, 0, none⟩))]] w (Ret fun u w' => Own w' F 39 2 u (L.filter (notOf s)).length (plcs (L.filter (notOf s))) ∧ Mods F w w') := by
  have hi := idxP_K w (fun g => g < w.heap.size) v L (fun p => decide (p.2 = s)) bx (Rd.of_own h.1 fun g hg => h.lt g hg) (fun _ e => e) hs fun w' hm x => del1_K w' bx s x (hb.mods hm fun e => e)
  cases hf : L.findIdx? (fun p => decide (p.2 = s)) with
  | none =>
    have hall := List.findIdx?_eq_none_iff.1 hf
    have he : L.filter (notOf s) = L := List.filter_eq_self.2 fun x hx => by show (!decide (x.2 = s)) = true; rw [hall x hx]; rfl
    have hz : idx (fun p : Plc => decide (p.2 = s)) L = -1 := by unfold idx; rw [hf]
    rw [hz] at hi
    have He := Lib.hid he
    obtain ⟨A, c, rfl, _, _⟩ := h.form
    clear hz he hall hf
    have Hhi := Lib.hid hi
    clear hi
    have Hh := Lib.hid h
    clear h
    go_enter Tryd.func44, Tryd.ntmps44
    go_wp2_with (first | (go_at_call 57; (refine ret_use (Hhi.out) ?_; rintro u w2 ⟨rfl, hm2⟩; have HM2 := Lib.hid hm2; clear hm2)) | ((with_reducible refine wp_region_por ?_ ?_ ?_ ?_); kernel_rfl; kernel_rfl; (with_reducible repeat (first | exact calm_ret | refine calm_then ?_ | refine calm_in ?_ | refine calm_chk ?_ | refine calm_noGoto ?_))) | ((with_reducible refine chk_end ?_ ?_); kernel_rfl))
    go_ret
    rw [He.out]
    exact ⟨Hh.out.mods HM2.out fun _ _ e => e, HM2.out.mono fun _ _ e => e.elim⟩
  | some i0 =>
    obtain ⟨k1, k2, k3⟩ := List.findIdx?_eq_some_iff_getElem.1 hf
    have hz : idx (fun p : Plc => decide (p.2 = s)) L = (i0 : Int) := by unfold idx; rw [hf]
    rw [hz] at hi
    have h0 : L.take i0 = (L.take (i0 + 1)).filter (notOf s) := by
      rw [filter_take_next (List.getElem?_eq_getElem k1), if_neg (by show ¬ (!decide (L[i0].2 = s)) = true; rw [k2]; decide), List.append_nil]
      refine (List.filter_eq_self.2 fun x hx => ?_).symm
      rw [List.mem_take_iff_getElem] at hx
      obtain ⟨j, hj, rfl⟩ := hx
      have := k3 j (by omega)
      simpa using this
    obtain ⟨g, cap, rfl, hg, hc, _⟩ := h.cells (by omega)
    have hcm : cap ≤ maxLen := by obtain ⟨_, _, e, _, h5⟩ := h.form; cases e; exact h5
    unfold maxLen at hcm
    have hne : ((i0 : Int) == -1) = false := by simp
    have H0 := Lib.hid h0
    have hbg : bx ≠ g := fun e => h.ne_cells hb (by decide) (by rw [e]; rfl)
    clear hz hf k2 k3 h0
    have Hhi := Lib.hid hi
    clear hi
    have Hh := Lib.hid h
    clear h
    have Hhb := Lib.hid hb
    clear hb
    have Hhg := Lib.hid hg
    clear hg
    go_enter Tryd.func44, Tryd.ntmps44
    go_wp2_with (first | (go_at_call 57; (refine ret_use (Hhi.out) ?_; rintro u w2 ⟨rfl, hm2⟩; have HM2 := Lib.hid hm2; clear hm2)) | ((with_reducible refine wp_region_por ?_ ?_ ?_ ?_); kernel_rfl; kernel_rfl; (with_reducible repeat (first | exact calm_ret | refine calm_then ?_ | refine calm_in ?_ | refine calm_chk ?_ | refine calm_noGoto ?_))) | ((with_reducible refine chk_end ?_ ?_); kernel_rfl))
    go_loopg [5, 6, 7] (L.length - (i0 + 1)) (fun k v5 v6 v7 wr => ∃ (i j : Nat) (M : List Plc), v5 = .int .i64 i ∧ v6 = .int .i64 j ∧ j ≤ L.length ∧ k + j = L.length ∧ DfI w wr F g cap L M (notOf s) bx s i j)
    case atStart => exact ⟨i0, i0 + 1, L, rfl, by go_num, by omega, by omega, rfl, Hh.out.mods HM2.out fun _ _ e => e, H0.out, rfl, by omega, HM2.out.mono fun _ _ e => e.elim, Hhb.out.mods HM2.out fun e => e⟩
    case round =>
      obtain ⟨i, j, M, rfl, rfl, hj, hkj, hin⟩ := hrel
      have Hkj := Lib.hid hkj
      have hij := hin.ij
      have Hin := Lib.hid hin
      clear hkj hin
      have hML := Lib.hid Hin.out.len
      rcases Nat.lt_or_ge j L.length with h1 | h1
      · obtain ⟨x, hx⟩ := lt_get h1
        have hxM : M[j]? = some x := by
          have := congrArg (·[0]?) Hin.out.dr
          simpa [List.getElem?_drop, hx] using this
        obtain ⟨b1, o1, e1, _, x0, x1⟩ := Hin.out.own.rd.plc hML.out hxM
        injection e1 with e1
        injection e1 with e1 e2
        subst e1 e2
        rw [Nat.zero_add] at x0 x1
        have hpc := del1_K (wr.alloc (.cells #[.int .u64 (x.1 : Int), ks x.2] 39)) bx s x (Hin.out.box.alloc _)
        obtain ⟨r, hr⟩ : ∃ r, decide (x.2 = s) = r := ⟨_, rfl⟩
        rw [hr] at hpc
        have HX := Lib.hid (And.intro hx hr)
        obtain ⟨cur, hcur⟩ := Hin.out.own.typed g rfl
        have lg := hcur.lt
        clear hx hr hxM hcur
        unfold ks at x1
        have Hhpc := Lib.hid hpc
        clear hpc
        unfold ks at Hhpc
        cases r with
        | true =>
          go_wp2_with (first | (go_at_call 45; (refine ret_use (Hhpc.out) ?_; rintro u w3 ⟨rfl, hm3⟩; have HM3 := Lib.hid hm3; clear hm3)) | ((with_reducible refine wp_region_por ?_ ?_ ?_ ?_); kernel_rfl; kernel_rfl; (with_reducible repeat (first | exact calm_ret | refine calm_then ?_ | refine calm_in ?_ | refine calm_chk ?_ | refine calm_noGoto ?_))) | ((with_reducible refine chk_end ?_ ?_); kernel_rfl))
          go_roundg (gk - 1)
          case rel =>
            have := Hkj.out
            have hm4 := ((Mods.refl No wr).alloc (.cells #[.int .u64 (x.1 : Int), ks x.2] 39)).trans HM3.out fun _ _ e => e
            refine ⟨i, j + 1, M, rfl, by go_num, h1, by omega, Hin.out.len, Hin.out.own.mods hm4 fun _ _ e => e, ?_, ?_, by omega, Hin.out.hm.trans (hm4.mono fun _ _ e => e.elim) fun _ _ e => e, Hin.out.box.mods hm4 fun e => e⟩
            · rw [filter_take_next HX.out.1, if_neg (by show ¬ (!decide (x.2 = s)) = true; rw [HX.out.2]; decide), List.append_nil, Hin.out.tk]
            · rw [← List.drop_drop, ← List.drop_drop, Hin.out.dr]
          case measure => have := Hkj.out; omega
        | false =>
          have hxc := fun w' (hm : Mods No wr w') => (Hin.out.own.mods hm fun _ _ e => e).cells (by omega)
          have Hhxc := Lib.hid hxc
          clear hxc
          go_wp2_with (first | (go_at_call 45; (refine ret_use (Hhpc.out) ?_; rintro u w3 ⟨rfl, hm3⟩; have HM3 := Lib.hid hm3; have HM4 := Lib.hid (((Mods.refl No wr).alloc (.cells #[.int .u64 (x.1 : Int), ks x.2] 39)).trans hm3 fun _ _ e => e); have HB3 := Lib.hid ((Cells.new wr 39 #[.int .u64 (x.1 : Int), ks x.2]).mods hm3 fun e => e); have y0 := HB3.out.at_ 0 rfl; have y1 := HB3.out.at_ 1 rfl; (unfold ks at y1); have ly := HB3.out.lt; obtain ⟨g', c', e3, _, _, hx3⟩ := Hhxc.out _ HM4.out; have e4 : g = g' := (by injection e3 with e3; injection e3 with e3; injection e3 with e3); subst e4; have hl3 := plcs_length M; have z0 := (hx3 (i * 2) (by omega)).1; have z1 := (hx3 (i * 2 + 1) (by omega)).1; have f0 := (hx3 (i * 2) (by omega)).2; have f1 := (hx3 (i * 2 + 1) (by omega)).2; rw [List.getElem?_eq_getElem (by have := hML.out; omega)] at z0 z1; have Hl3 := Lib.hid hl3; clear hm3 hx3)) | ((with_reducible refine wp_region_por ?_ ?_ ?_ ?_); kernel_rfl; kernel_rfl; (with_reducible repeat (first | exact calm_ret | refine calm_then ?_ | refine calm_in ?_ | refine calm_chk ?_ | refine calm_noGoto ?_))) | ((with_reducible refine chk_end ?_ ?_); kernel_rfl))
          go_roundg (gk - 1)
          case rel =>
            have := Hkj.out
            have hms : ∀ a b, Mods (fun k => k = g) w3 ((w3.setCell ⟨g, i * 2, none⟩ a).setCell ⟨g, i * 2 + 1, none⟩ b) := fun a b => ((Mods.refl (fun k => k = g) w3).setCell ⟨g, i * 2, none⟩ a fun _ => rfl).setCell ⟨g, i * 2 + 1, none⟩ b fun _ => rfl
            have hO := ((Hin.out.own.mods HM4.out fun _ _ e => e).set (g := g) rfl (i * 2) (.int .u64 (x.1 : Int))).set (g := g) rfl (i * 2 + 1) (ks x.2)
            rw [plcs_set] at hO
            refine ⟨i + 1, j + 1, M.set i x, by go_num, by go_num, h1, by omega, by rw [List.length_set, hML.out], hO, ?_, ?_, by omega, (Hin.out.hm.trans (HM4.out.mono fun _ _ e => e.elim) fun _ _ e => e).trans (hms _ _) fun k _ e => e ▸ Hhg.out, (Hin.out.box.mods HM4.out fun e => e).mods (hms _ _) hbg⟩
            · have hiM : i < (M.set i x).length := by rw [List.length_set, hML.out]; omega
              rw [filter_take_next HX.out.1, if_pos (by show (!decide (x.2 = s)) = true; rw [HX.out.2]; rfl), ← Hin.out.tk, take_nx (List.getElem?_eq_getElem hiM), List.take_set_of_le (Nat.le_refl _)]
              simp
            · rw [List.drop_set_of_lt (by omega), ← List.drop_drop, ← List.drop_drop, Hin.out.dr]
          case measure => have := Hkj.out; omega
      · obtain rfl : j = L.length := by omega
        have hfl : M.take i = L.filter (notOf s) := by rw [Hin.out.tk, List.take_length]
        rcases Hin.out.own.whole with ⟨e, _⟩ | ⟨g', cap', cur, e, _, hcc, hc1, hc2, hc3, hc4⟩
        · cases e
        cases e
        have HC := Lib.hid hcc
        have HS := Lib.hid (And.intro hc3 hc4)
        have hc3' : i * 2 + (L.length - i) * 2 ≤ cur.size := by omega
        have lg := hcc.lt
        have Hhfl := Lib.hid hfl
        clear hfl
        clear hcc hc3 hc4
        have hci : decide (cap = i) = false := decide_eq_false (by omega)
        have hci' : ¬ cap = i := by omega
        obtain ⟨w4, cur4, hrun, q1, q2, q3, q4⟩ := run_clear_cells (P := Tryd.prog) (w := wr) (g := g) (o := i * 2) (m := L.length - i) (c := cap - i) 27 0 (.agg #[.int .u64 0, .string ⟨#[]⟩]) Tryd.underlying27 zeroPl HC.out (by omega) hc3' (fun u hu => by simp [Value.cells] at hu; rcases hu with rfl | rfl <;> rfl)
        have HQ := Lib.hid (And.intro q1 (And.intro q2 (And.intro q3 q4)))
        clear q1 q2 q3 q4
        go_wp2_with (first | ((with_reducible refine wp_region_por ?_ ?_ ?_ ?_); kernel_rfl; kernel_rfl; (with_reducible repeat (first | exact calm_ret | refine calm_then ?_ | refine calm_in ?_ | refine calm_chk ?_ | refine calm_noGoto ?_))) | ((with_reducible refine chk_end ?_ ?_); kernel_rfl))
        go_ret
        obtain ⟨q1, q2, q3, q4⟩ := HQ.out
        have hlen : (L.filter (notOf s)).length = i := by rw [← Hhfl.out, List.length_take, hML.out]; omega
        rw [hlen]
        refine ⟨(Own.mk_ (size := 2) q1 (by omega) hc2 (by rw [q2, HS.out.1]) (take_ext (by rw [plcs_length, hlen]) (by rw [q2, HS.out.1]; omega) fun j hj => ?_)).more fun k hk => hk ▸ Hhg.out, Hin.out.hm.trans (q4.mono fun k _ e => e ▸ Hhg.out) fun _ _ e => e⟩
        have h5 : cur[j]? = (plcs M)[j]? := by
          rw [← HS.out.2, List.getElem?_take_of_lt (by omega)]; simp
        rw [q3 j hj, h5, ← Hhfl.out, ← plcs_take, List.getElem?_take_of_lt hj]
end Go.Proofs.YtilkepmmkhmghaaDoor
