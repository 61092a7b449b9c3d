/- Package tumblerref01: Int and PrintN of a small number. -/
import Derived.Test.YtcifajfmdpjfiaaDoorRfA
namespace Go.Proofs.YtcifajfmdpjfiaaDoor
open Go.RowKit Go.Tum Go.Lib Go.Sort
set_option maxRecDepth 100000
def numL (i : Nat) : List Nat := if i = 0 then [] else [i]
theorem trim_num {w : World} {F : Nat → Prop} {i : Nat} {xs : List Nat} {v l : Value} (h : TrimIs v xs l) (h0 : xs[0]? = some i) (hz : ∀ j x, xs[j + 1]? = some x → x = 0) (hr : Rd w F 1 v xs.length (vus xs)) : Rd w F 1 l (numL i).length (vus (numL i)) := by
  obtain ⟨A, c, m, rfl, rfl, hm, h1, h2⟩ := h
  have hx : xs = i :: xs.tail := by
    cases xs with
    | nil => cases h0
    | cons y ys => rw [List.getElem?_cons_zero] at h0; injection h0 with h0; rw [h0]; rfl
  have hmm : m = (numL i).length := by
    unfold numL
    by_cases hi : i = 0
    · rw [if_pos hi]
      rcases m with _ | j
      · rfl
      · exfalso
        obtain ⟨x, hx⟩ := lt_get (show j < xs.length by omega)
        refine h2 j x rfl hx ?_
        rcases j with _ | j
        · rw [h0] at hx; injection hx with hx; rw [← hx]; exact hi
        · exact hz j x hx
    · rw [if_neg hi]
      rcases m with _ | _ | j
      · exact absurd (h1 0 i (Nat.zero_le _) h0) hi
      · rfl
      · exfalso
        obtain ⟨x, hx⟩ := lt_get (show j + 1 < xs.length by omega)
        exact h2 (j + 1) x rfl hx (hz j x hx)
  have h3 := hr.take (l := m) hm
  have h4 : (vus xs).take (m * 1) = vus (numL i) := by
    rw [Nat.mul_one, hmm]
    unfold numL
    by_cases hi : i = 0
    · rw [if_pos hi]; rfl
    · rw [if_neg hi, hx]; rfl
  rw [h4] at h3
  rw [← hmm]
  exact h3
set_option maxHeartbeats 1600000 in
theorem int_K (w : World) (i : Nat) (hi : i < 65536) : Calls Tryd.prog 59 #[.int .i64 (i : Int)] w (Ret fun u w' => (∃ l, u = .agg #[.bool false, l] ∧ Rd w' (fun g => g < w'.heap.size) 1 l (numL i).length (vus (numL i))) ∧ Mods No w w') := by
  have h1 := fun w' => of_K w' i hi
  have h2 := fun w' => from_K w' i hi
  have Hh1 := Lib.hid h1
  clear h1
  have Hh2 := Lib.hid h2
  clear h2
  go_enter Tryd.func59, Tryd.ntmps59
  go_wp2_with (first | (go_at_call 72; (refine ret_use (Hh1.out _) ?_; rintro v w2 ⟨rfl, hm2⟩; have HM2 := Lib.hid hm2; have HC2 := Lib.hid ((Cells.new w _ _).mods hm2 fun e => e); clear hm2)) | (go_at_call 71; (refine ret_use (Hh2.out w2) ?_; rintro v w3 ⟨⟨v3, l3, hr3, rfl, ht3⟩, hm3⟩; have HR3 := Lib.hid (trim_num ht3 rfl (fun j x hx => by match j with | 0 | 1 | 2 | 3 | 4 | 5 | 6 => (simp at hx; exact hx.symm) | j + 7 => simp at hx) hr3); have HM3 := Lib.hid hm3; have HC3 := Lib.hid (HC2.out.mods hm3 fun e => e); have k0 := HC3.out.at_ 0 rfl; have k1 := HC3.out.at_ 1 rfl; have f0 := HC3.out.frozen 0; have f1 := HC3.out.frozen 1; have ll := HC3.out.lt; obtain ⟨A9, c9, m9, e9, rfl, _, _, _⟩ := ht3; clear hm3 hr3)) | ((with_reducible refine wp_region_por ?_ ?_ ?_ ?_); kernel_rfl; kernel_rfl; (with_reducible repeat (first | exact calm_ret | refine calm_then ?_ | refine calm_in ?_ | refine calm_chk ?_ | refine calm_noGoto ?_))) | ((with_reducible refine chk_end ?_ ?_); kernel_rfl))
  refine bodyPost_ret (results_cell_row rfl _ _ w.heap.size 120 _ (0, 0) _ rfl ((HC3.out.set_ 0 _).set_ 1 _) Tryd.underlying120 rfl rfl) rfl ?_
  have hs2 : w.heap.size < w2.heap.size := HC2.out.lt
  have hm : Mods (fun k => k = w.heap.size) w3 ((w3.setCell ⟨w.heap.size, 0, none⟩ (.bool false)).setCell ⟨w.heap.size, 1, none⟩ (.slice A9 m9 c9)) := ((Mods.refl (fun k => k = w.heap.size) w3).setCell ⟨w.heap.size, 0, none⟩ (.bool false) (fun _ => rfl)).setCell ⟨w.heap.size, 1, none⟩ _ fun _ => rfl
  refine ⟨⟨_, rfl, (HR3.out.same (hm.same fun k hk => ⟨hk.2, fun e => by have := hk.1; omega⟩)).more fun g hg => by simp only [World.setCell, Array.size_modify]; exact hg.2⟩, ?_⟩
  exact (((((Mods.refl No w).alloc _).trans HM2.out fun _ _ e => e).trans HM3.out fun _ _ e => e).setCell _ _ fun h => absurd h (Nat.lt_irrefl _)).setCell _ _ fun h => absurd h (Nat.lt_irrefl _)
def digs (d : Nat) : Tx := if d = 0 then [] else Lib.decDigits d
theorem digs_step {d : Nat} (h : d ≠ 0) : digs d = digs (d / 10) ++ [UInt8.ofNat (48 + d % 10)] := by
  unfold digs
  rw [if_neg h]
  by_cases h1 : d < 10
  · rw [if_pos (by omega), Lib.decDigits_one h1, Nat.mod_eq_of_lt h1]; rfl
  · rw [if_neg (by omega), Lib.decDigits, dif_neg h1]
theorem digs_itoa {i : Nat} (h : i ≠ 0) : Lib.itoa (i : Int) = digs i := by rw [Lib.itoa_nonneg, digs, if_neg h]
structure PrI (w W wr : World) (i d : Nat) (t : Tx) (l : Value) : Prop where
  rd : Rd wr (fun g => g < wr.heap.size) 1 l (numL d).length (vus (numL d))
  hm : Mods No W wr
  dig : digs i = digs d ++ t
  lt : d < 65536
  tl : t.length + d ≤ 65536 + i
set_option maxHeartbeats 3200000 in
theorem printN_K (w : World) (i : Nat) (hi : i < 65536) (l : Value) (hr : Rd w (fun g => g < w.heap.size) 1 l (numL i).length (vus (numL i))) : Calls Tryd.prog 58 #[.agg #[.bool false, l]] w (Ret fun u w' => u = ks (Lib.itoa (i : Int)) ∧ Mods No w w') := by
  by_cases h0 : i = 0
  · subst h0
    obtain ⟨A, c, rfl, _, _⟩ := hr.form
    have He := Lib.hid (show ks (Lib.itoa ((0 : Nat) : Int)) = .string ⟨#[48]⟩ by rw [Lib.itoa_nonneg, Lib.decDigits_one (by decide)]; rfl)
    have Hhr := Lib.hid hr
    clear hr
    rw [He.out]
    go_enter Tryd.func58, Tryd.ntmps58
    go_wp2_with (first | ((with_reducible refine wp_region_por ?_ ?_ ?_ ?_); kernel_rfl; kernel_rfl; (with_reducible repeat (first | exact calm_ret | refine calm_then ?_ | refine calm_in ?_ | refine calm_chk ?_ | refine calm_noGoto ?_))) | ((with_reducible refine chk_end ?_ ?_); kernel_rfl))
    go_ret
    exact ⟨rfl, by repeat (first | exact Mods.refl _ _ | apply Mods.alloc | apply Mods.drew)⟩
  · rw [digs_itoa h0]
    obtain ⟨W, hW⟩ : ∃ W, W = w.alloc (.cells #[.bool false, l] 120) := ⟨_, rfl⟩
    have hrl : Rd W (fun g => g < W.heap.size) 1 l (numL i).length (vus (numL i)) := by rw [hW]; exact hr.keep ((Mods.refl No w).alloc _)
    have hl1 : (numL i).length = 1 := by unfold numL; rw [if_neg h0]; rfl
    have hform := hr.form
    rw [hl1] at hform
    obtain ⟨A, c, rfl, _, _⟩ := hform
    have hcw : Cells W w.heap.size 120 #[.bool false, .slice A 1 c] := by rw [hW]; exact Cells.new _ _ _
    have hW0 : Mods No w W := by rw [hW]; exact (Mods.refl No w).alloc _
    have HP0 := Lib.hid (show PrI w W W i i [] (.slice A 1 c) from ⟨hrl, Mods.refl _ _, by simp, hi, by simp⟩)
    have HCW := Lib.hid hcw
    have HW0 := Lib.hid hW0
    clear hrl hcw hW0 hl1
    have Hhr := Lib.hid hr
    clear hr
    unfold ks
    go_enter Tryd.func58, Tryd.ntmps58
    go_wp2_with (first | ((with_reducible refine wp_region_por ?_ ?_ ?_ ?_); kernel_rfl; kernel_rfl; (with_reducible repeat (first | exact calm_ret | refine calm_then ?_ | refine calm_in ?_ | refine calm_chk ?_ | refine calm_noGoto ?_))) | ((with_reducible refine chk_end ?_ ?_); kernel_rfl))
    go_loopg [3, 4] i (fun k v3 v4 wr => ∃ (d : Nat) (t : Tx), v3 = .string ⟨t.toArray⟩ ∧ k = d ∧ PrI w W wr i d t v4)
    case atStart => exact ⟨i, [], rfl, rfl, by rw [hW] at HP0; rw [hW]; exact HP0.out⟩
    case round =>
      obtain ⟨d, t, rfl, hk, hin⟩ := hrel
      have Hin := Lib.hid hin
      have Hk := Lib.hid hk
      have hd6 := hin.lt
      have htl := hin.tl
      clear hk
      by_cases hd : d = 0
      · subst hd
        obtain ⟨A4, c4, rfl, _, _⟩ := hin.rd.form
        have HC := Lib.hid (HCW.out.mods hin.hm fun e => e)
        have b0 := HC.out.at_ 0 rfl
        have bl := HC.out.lt
        clear hin
        have hnl : (numL 0).length = 0 := rfl
        go_wp2_with (first | ((with_reducible refine wp_region_por ?_ ?_ ?_ ?_); kernel_rfl; kernel_rfl; (with_reducible repeat (first | exact calm_ret | refine calm_then ?_ | refine calm_in ?_ | refine calm_chk ?_ | refine calm_noGoto ?_))) | ((with_reducible refine chk_end ?_ ?_); kernel_rfl))
        go_ret
        have h := Hin.out.dig
        rw [show digs 0 = [] from rfl, List.nil_append] at h
        exact ⟨by rw [h]; rfl, HW0.out.trans Hin.out.hm fun _ _ e => e⟩
      · have hrd := hin.rd
        rw [show numL d = [d] from if_neg hd] at hrd
        change Rd wr (fun g => g < wr.heap.size) 1 _ 1 (vus [d]) at hrd
        have hmk : (Instr.makeSlice 118 (.int .i64 1) (.int .i64 1)).run Tryd.prog wr = .ok (.slice (some ⟨wr.heap.size, 0, none⟩) 1 1) (wr.alloc (.cells #[.int .u32 0] 130)) := by
          have h := run_make_ wr 118 130 (.int .u32 0) 1 4 1 Tryd.underlying118 infoU32 (by decide) (by decide) (by decide)
          rw [show madeCells (Value.int .u32 0).cells (1 * 1) = #[.int .u32 0] from by show madeCells #[.int .u32 0] 1 = _; apply Array.ext'; rw [toList_madeCells_one]; rfl] at h
          exact h
        obtain ⟨A4, c4, rfl, _, _⟩ := hrd.form
        have Hrd := Lib.hid hrd
        have Hd := Lib.hid hd
        obtain ⟨b4, o4, rfl, hb4, d0⟩ := vus_at hrd rfl (show ([d] : List Nat)[0]? = some d from rfl)
        rw [Nat.add_zero] at d0
        clear hin hrd hd
        have hbl : b4 < wr.heap.size := hb4
        go_wp2_with (first | ((with_reducible refine wp_region_por ?_ ?_ ?_ ?_); kernel_rfl; kernel_rfl; (with_reducible repeat (first | exact calm_ret | refine calm_then ?_ | refine calm_in ?_ | refine calm_chk ?_ | refine calm_noGoto ?_))) | ((with_reducible refine chk_end ?_ ?_); kernel_rfl))
        go_loopg [6, 7] 1 (fun k v6 v7 wx => (k = 1 ∧ v7 = .int .i64 0 ∧ v6 = .int .u32 0 ∧ wx = wr.alloc (.cells #[.int .u32 0] 130)) ∨ (k = 0 ∧ v7 = .int .i64 (-1) ∧ v6 = .int .u32 ((d % 10 : Nat) : Int) ∧ wx = (wr.alloc (.cells #[.int .u32 ((d / 10 : Nat) : Int)] 130))))
        case atStart => exact .inl ⟨rfl, rfl, rfl, rfl⟩
        case round =>
          rcases hrel with ⟨hk1, rfl, rfl, rfl⟩ | ⟨hk1, rfl, rfl, rfl⟩
          · go_wp2_with (first | ((with_reducible refine wp_region_por ?_ ?_ ?_ ?_); kernel_rfl; kernel_rfl; (with_reducible repeat (first | exact calm_ret | refine calm_then ?_ | refine calm_in ?_ | refine calm_chk ?_ | refine calm_noGoto ?_))) | ((with_reducible refine chk_end ?_ ?_); kernel_rfl))
            go_roundg 0
            case rel => exact .inr ⟨rfl, rfl, int_eq (by omega), by rw [show ((d / 10 : Nat) : Int) = (d : Int) / 10 by omega]⟩
            case measure => omega
          · obtain ⟨cc, hcc⟩ : ∃ cc, cc = UInt8.ofNat (48 + d % 10) := ⟨_, rfl⟩
            have hct : (48 + (d : Int) % 10) = ((cc.toNat : Nat) : Int) := by
              have : cc.toNat = 48 + d % 10 := by rw [hcc, UInt8.toNat_ofNat']; omega
              rw [this]; omega
            have hd10 : ((d / 10 : Nat) : Int) = (d : Int) / 10 := by omega
            have hcv := run_convert_rd (P := Tryd.prog) ((wr.alloc (.cells #[.int .u32 ((d / 10 : Nat) : Int)] 130)).alloc (.cells #[.int .u8 ((cc.toNat : Nat) : Int)] 5)) 24 9 5 Tryd.underlying24 Tryd.underlying5 Tryd.underlying9 (F := fun g => g = wr.heap.size + 1) (v := .slice (some ⟨wr.heap.size + 1, 0, none⟩) 1 1) (l := [cc]) (Rd.box _ #[.int .u8 ((cc.toNat : Nat) : Int)] 5 (by rw [World.size_alloc]) rfl (show 1 ≤ maxLen by decide))
            rw [← hct, hd10] at hcv
            have htr := fun w' (hm : Mods No (wr.alloc (.cells #[.int .u32 ((d / 10 : Nat) : Int)] 130)) w') => trim_K w' (fun g => g < w'.heap.size) (.slice (some ⟨wr.heap.size, 0, none⟩) 1 1) [d / 10] ((Rd.boxlt wr #[.int .u32 ((d / 10 : Nat) : Int)] 130 (n := 1) (size := 1) rfl (by decide)).keep hm)
            rw [hd10] at htr
            have hW10 : Mods No wr (wr.alloc (.cells #[.int .u32 ((d / 10 : Nat) : Int)] 130)) := (Mods.refl No wr).alloc _
            rw [hd10] at hW10
            have HW10 := Lib.hid hW10
            have hrx : ∀ w', Mods No (wr.alloc (.cells #[.int .u32 ((d / 10 : Nat) : Int)] 130)) w' → Rd w' (fun g => g < w'.heap.size) 1 (.slice (some ⟨wr.heap.size, 0, none⟩) 1 1) 1 (vus [d / 10]) := fun w' hm => (Rd.boxlt wr #[.int .u32 ((d / 10 : Nat) : Int)] 130 (n := 1) (size := 1) rfl (by decide)).keep hm
            rw [hd10] at hrx
            have Hcc := Lib.hid hcc
            clear hct hd10 hcc hW10
            have Hhtr := Lib.hid htr
            clear htr
            have Hhrx := Lib.hid hrx
            clear hrx
            go_wp2_with (first | (go_at_call 70; (refine ret_use (Hhtr.out _ (by repeat (first | exact Mods.refl _ _ | apply Mods.alloc | apply Mods.drew))) ?_; rintro v w9 ⟨ht9, rfl⟩; have HT9 := Lib.hid ht9; obtain ⟨A9, c9, m9, e9, rfl, _, _, _⟩ := ht9)) | ((with_reducible refine wp_region_por ?_ ?_ ?_ ?_); kernel_rfl; kernel_rfl; (with_reducible repeat (first | exact calm_ret | refine calm_then ?_ | refine calm_in ?_ | refine calm_chk ?_ | refine calm_noGoto ?_))) | ((with_reducible refine chk_end ?_ ?_); kernel_rfl))
            go_roundg (d / 10)
            case rel => exact ⟨d / 10, cc :: t, by rw [show (⟨#[cc]⟩ : ByteArray) = ⟨([cc] : Tx).toArray⟩ from rfl, ba_cat [cc] t]; rfl, rfl, trim_num HT9.out rfl (fun j x hx => by simp at hx) (Hhrx.out _ ((Mods.refl No _).alloc _)), (Hin.out.hm.trans HW10.out fun _ _ e => e).alloc _, by
              have h1 := Hin.out.dig
              rw [digs_step Hd.out, ← Hcc.out, List.append_assoc] at h1
              exact h1, by omega, by
              have := Hd.out
              simp only [List.length_cons]
              omega⟩
            case measure => have := Hk.out; have := Hd.out; omega
end Go.Proofs.YtcifajfmdpjfiaaDoor
