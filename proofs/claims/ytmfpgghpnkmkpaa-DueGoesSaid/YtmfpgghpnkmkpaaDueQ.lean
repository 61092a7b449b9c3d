/- The reference's queue: New, without, Drop, At, Next. -/
import Derived.Test.YtmfpgghpnkmkpaaDueP
namespace Go.Proofs.Ytmfpgghpnkmkpaa
open Go.RowKit Go.Tum Go.Shelf
set_option maxRecDepth 100000
theorem rnew_bad (w : World) (lim : Int) (h : lim < 1 ∨ 65536 < lim) : Calls Try.prog 16 #[.int .i64 lim] w (Ret fun v w' => v = .tuple #[.agg #[.int .i64 0, .slice none 0 0], .int .i64 1] ∧ Mods No w w') := by
  go_enter Try.func16, Try.ntmps16
  by_cases h1 : lim < 1
  · have h1' : decide (lim < 1) = true := decide_eq_true h1
    clear h
    go_wp2_with (first | ((with_reducible refine wp_region_por ?_ ?_ ?_ ?_); kernel_rfl; kernel_rfl; (with_reducible repeat (first | exact calm_ret | refine calm_then ?_ | refine calm_in ?_ | refine calm_chk ?_ | refine calm_noGoto ?_))) | ((with_reducible refine chk_end ?_ ?_); kernel_rfl))
    refine bodyPost_ret (results_pair rfl _ _ w.heap.size 40 _ (0, 0) _ rfl (Cells.new w _ _) Try.underlying40 rfl rfl) rfl ?_
    exact ⟨rfl, (Mods.refl No w).alloc _⟩
  · have h1' : decide (lim < 1) = false := decide_eq_false h1
    have h2' : decide (65536 < lim) = true := decide_eq_true (by omega)
    clear h
    go_wp2_with (first | ((with_reducible refine wp_region_por ?_ ?_ ?_ ?_); kernel_rfl; kernel_rfl; (with_reducible repeat (first | exact calm_ret | refine calm_then ?_ | refine calm_in ?_ | refine calm_chk ?_ | refine calm_noGoto ?_))) | ((with_reducible refine chk_end ?_ ?_); kernel_rfl))
    refine bodyPost_ret (results_pair rfl _ _ w.heap.size 40 _ (0, 0) _ rfl (Cells.new w _ _) Try.underlying40 rfl rfl) rfl ?_
    exact ⟨rfl, (Mods.refl No w).alloc _⟩
theorem rnew_ok (w : World) (lim : Int) (h1 : 1 ≤ lim) (h2 : lim ≤ 65536) : Calls Try.prog 16 #[.int .i64 lim] w (Ret fun v w' => v = .tuple #[.agg #[.int .i64 lim, .slice none 0 0], .int .i64 0] ∧ Mods No w w') := by
  have h1' : decide (lim < 1) = false := decide_eq_false (by omega)
  have h2' : decide (65536 < lim) = false := decide_eq_false (by omega)
  go_enter Try.func16, Try.ntmps16
  go_wp2_with (first | ((with_reducible refine wp_region_por ?_ ?_ ?_ ?_); kernel_rfl; kernel_rfl; (with_reducible repeat (first | exact calm_ret | refine calm_then ?_ | refine calm_in ?_ | refine calm_chk ?_ | refine calm_noGoto ?_))) | ((with_reducible refine chk_end ?_ ?_); kernel_rfl))
  refine bodyPost_ret (results_pair rfl _ _ w.heap.size 40 _ (0, 0) _ rfl (Cells.new w _ _) Try.underlying40 rfl rfl) rfl ?_
  exact ⟨rfl, (Mods.refl No w).alloc _⟩
theorem cutL_eq (L : List Ent) (i : Nat) : (entsL L).take (i * 2) ++ ((entsL L).take (L.length * 2)).drop ((i + 1) * 2) = entsL (L.take i ++ L.drop (i + 1)) := by
  rw [entsL_take, entsL_take, List.take_length, entsL_drop, entsL_append]
theorem wo_end {w w4 w5 : World} {A4 : Option Addr} {i c4 n : Nat} {xs ys : List Value} {u : Value} {L : List Ent} (hn : L.length = n)
    (O1 : Tum.Own w4 (fun k => (Value.slice none 0 0).ownBlock = some k ∨ k = w.heap.size) 29 2 (.slice A4 i c4) i xs) (hM4 : Mods (fun k => (Value.slice none 0 0).ownBlock = some k) w w4)
    (O2 : Tum.Own w5 (fun k => (Value.slice A4 i c4).ownBlock = some k ∨ k = w4.heap.size) 29 2 u n ys) (hM5 : Mods (fun k => (Value.slice A4 i c4).ownBlock = some k) w4 w5) (e : ys = entsL L) :
    Tum.Own w5 (fun g => w.heap.size ≤ g) 29 2 u L.length (entsL L) ∧ Mods No w w5 := by
  have h4 : ∀ k, (Value.slice A4 i c4).ownBlock = some k → w.heap.size ≤ k := fun k hk => by
    rcases O1.2 k hk with e | e
    · cases e
    · exact Nat.le_of_eq e.symm
  rw [hn, ← e]
  exact ⟨O2.more fun k hk => by rcases hk with hk | hk; exact h4 k hk; have := hM4.size; omega, (hM4.mono fun k _ e => by cases e).trans hM5 fun k hk e => absurd hk (Nat.not_lt_of_le (h4 k e))⟩
theorem without_K (w : World) (r : Nat) (lim : Int) (L : List Ent) (F : Nat → Prop) (i : Nat) (h : RefK w r lim L F) (hi : i < L.length) :
    Calls Try.prog 31 #[(.pointer (some ⟨r, 0, none⟩)), .int .i64 i] w (Ret fun v w' => Tum.Own w' (fun g => w.heap.size ≤ g) 29 2 v (L.take i ++ L.drop (i + 1)).length (entsL (L.take i ++ L.drop (i + 1))) ∧ Mods No w w') := by
  obtain ⟨v, h⟩ := h
  obtain ⟨A, c, rfl, hac, hac2⟩ := h.rd.form
  have hR1 := h.rd.cut (k := i + 1) (l := L.length) hi (Nat.le_refl _)
  have c0 := h.cells.at_ 1 rfl
  have hsm := h.small
  have Hh := Lib.hid h
  clear h
  have O0 := Lib.hid (Tum.Own.nil w (fun g => w.heap.size ≤ g) 29 2)
  have R0 := Lib.hid (Hh.out.rd.take (Nat.le_of_lt hi))
  go_enter Try.func31, Try.ntmps31
  by_cases hc : c = i + 1
  · subst hc
    rw [if_pos rfl, Nat.sub_self, Nat.sub_eq_zero_of_le hac] at hR1
    have R1 := Lib.hid hR1
    clear hR1
    go_wp2_with (first | (at_builtin; (fail_if_success have := O1); ((refine wpList_append _ rfl (.tmp 6) (.tmp 12) 22 rfl 29 (.agg #[.string ⟨#[]⟩, .int .i64 0]) 2 24 Try.underlying22 infoDue rfl (by decide) (F := fun g => w.heap.size ≤ g) (n := 0) (xs := []) (by rfl) O0.out (G := F) (y := .slice A i (i + 1)) (m := i) (news := (entsL L).take (i * 2)) (by rfl) R0.out (fun u hu => entsL_one _ u (List.mem_of_mem_take hu)) (by omega) (by decide) ?_); intro v4 w4 hown4 hm4 _; (simp only [Nat.zero_add, List.nil_append] at hown4); have O1 := Lib.hid hown4; have HM4 := Lib.hid hm4; obtain ⟨A4, c4, rfl, _, _⟩ := hown4.form; clear hown4 hm4; have k0 := (Hh.out.cells.mods HM4.out fun e => by cases e).at_ 1 rfl)) | (at_builtin; ((refine wpList_append _ rfl (.tmp 14) (.tmp 21) 22 rfl 29 (.agg #[.string ⟨#[]⟩, .int .i64 0]) 2 24 Try.underlying22 infoDue rfl (by decide) (F := _) (n := i) (xs := (entsL L).take (i * 2)) (by rfl) O1.out (G := F) (y := .slice A 0 0) (m := 0) (news := ((entsL L).take (L.length * 2)).drop ((i + 1) * 2)) (by rfl) (R1.out.same (HM4.out.same fun k hk => ⟨Hh.out.lt k hk, fun e => by cases e⟩)) (fun u hu => entsL_one _ u (List.mem_of_mem_take (List.mem_of_mem_drop hu))) (by omega) (by decide) ?_); intro v5 w5 hown5 hm5 _; have O2 := Lib.hid hown5; have HM5 := Lib.hid hm5; obtain ⟨A5, c5, rfl, _, _⟩ := hown5.form; clear hown5 hm5)) | ((with_reducible refine wp_region_por ?_ ?_ ?_ ?_); kernel_rfl; kernel_rfl; (with_reducible repeat (first | exact calm_ret | refine calm_then ?_ | refine calm_in ?_ | refine calm_chk ?_ | refine calm_noGoto ?_))) | ((with_reducible refine chk_end ?_ ?_); kernel_rfl))
    go_ret
    exact wo_end (by simp only [List.length_append, List.length_take, List.length_drop]; omega) O1.out HM4.out O2.out HM5.out (cutL_eq L i)
  · rw [if_neg hc] at hR1
    have R1 := Lib.hid hR1
    clear hR1
    go_wp2_with (first | (at_builtin; (fail_if_success have := O1); ((refine wpList_append _ rfl (.tmp 6) (.tmp 12) 22 rfl 29 (.agg #[.string ⟨#[]⟩, .int .i64 0]) 2 24 Try.underlying22 infoDue rfl (by decide) (F := fun g => w.heap.size ≤ g) (n := 0) (xs := []) (by rfl) O0.out (G := F) (y := .slice A i c) (m := i) (news := (entsL L).take (i * 2)) (by rfl) R0.out (fun u hu => entsL_one _ u (List.mem_of_mem_take hu)) (by omega) (by decide) ?_); intro v4 w4 hown4 hm4 _; (simp only [Nat.zero_add, List.nil_append] at hown4); have O1 := Lib.hid hown4; have HM4 := Lib.hid hm4; obtain ⟨A4, c4, rfl, _, _⟩ := hown4.form; clear hown4 hm4; have k0 := (Hh.out.cells.mods HM4.out fun e => by cases e).at_ 1 rfl)) | (at_builtin; ((refine wpList_append _ rfl (.tmp 14) (.tmp 21) 22 rfl 29 (.agg #[.string ⟨#[]⟩, .int .i64 0]) 2 24 Try.underlying22 infoDue rfl (by decide) (F := _) (n := i) (xs := (entsL L).take (i * 2)) (by rfl) O1.out (G := F) (y := .slice (A.map (·.add ((i + 1) * 2))) (L.length - (i + 1)) (c - (i + 1))) (m := L.length - (i + 1)) (news := ((entsL L).take (L.length * 2)).drop ((i + 1) * 2)) (by rfl) (R1.out.same (HM4.out.same fun k hk => ⟨Hh.out.lt k hk, fun e => by cases e⟩)) (fun u hu => entsL_one _ u (List.mem_of_mem_take (List.mem_of_mem_drop hu))) (by omega) (by decide) ?_); intro v5 w5 hown5 hm5 _; have O2 := Lib.hid hown5; have HM5 := Lib.hid hm5; obtain ⟨A5, c5, rfl, _, _⟩ := hown5.form; clear hown5 hm5)) | ((with_reducible refine wp_region_por ?_ ?_ ?_ ?_); kernel_rfl; kernel_rfl; (with_reducible repeat (first | exact calm_ret | refine calm_then ?_ | refine calm_in ?_ | refine calm_chk ?_ | refine calm_noGoto ?_))) | ((with_reducible refine chk_end ?_ ?_); kernel_rfl))
    go_ret
    exact wo_end (by simp only [List.length_append, List.length_take, List.length_drop]; omega) O1.out HM4.out O2.out HM5.out (cutL_eq L i)
end Go.Proofs.Ytmfpgghpnkmkpaa
