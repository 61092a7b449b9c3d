/- No sink, and one that New did not make: what Frame and Report say there; the law SinkNils. -/
import Derived.Test.YtmfpgghpnkmkpaaDoorSinkP
namespace Go.Proofs.YtmfpgghpnkmkpaaDoor
open Go.RowKit Go.Tum
def Nobody (w : World) (pv : Value) : Prop := pv = .pointer none ∨ ∃ b, pv = (.pointer (some ⟨b, 0, none⟩)) ∧ w.cell? ⟨b, 0, none⟩ = some (.bool false)
theorem ok_nobody (w : World) (pv : Value) (h : Nobody w pv) : Calls Tryd.prog 21 #[pv] w (Ret fun v w' => v = .bool false ∧ w = w') := by
  rcases h with rfl | ⟨b, rfl, hb⟩
  · exact ok_nil w
  · exact ok_some w b false hb
theorem Nobody.keep {w w' : World} {pv : Value} (h : Nobody w pv) (hm : Mods No w w') : Nobody w' pv := by
  rcases h with rfl | ⟨b, rfl, hb⟩
  · exact .inl rfl
  · exact .inr ⟨b, rfl, (World.cell?_of_block (a := ⟨b, 0, none⟩) (hm.block _ (World.block_lt_of_cell? w _ hb) fun e => e)).trans hb⟩
set_option maxRecDepth 100000 in
theorem frame_nobody (w : World) (pv bs : Value) (id : Int) (h : Nobody w pv) : Calls Tryd.prog 12 #[pv, .int .i64 id, bs] w (Ret fun v w' => v = .int .i64 4 ∧ Mods No w w') := by
  have hok := fun W hm => ok_nobody W pv (h.keep (w' := W) hm)
  have Hh := Lib.hid h
  clear h
  have Hhok := Lib.hid hok
  clear hok
  go_enter Tryd.func12, Tryd.ntmps12
  go_wp2_with (first | (go_at_call 21; (refine ret_use (Hhok.out _ (by repeat (first | exact Mods.refl _ _ | apply Mods.drew | apply Mods.alloc))) ?_; rintro v _ ⟨rfl, rfl⟩)) | ((with_reducible refine wp_region_por ?_ ?_ ?_ ?_); kernel_rfl; kernel_rfl; (with_reducible repeat (first | exact calm_ret | refine calm_then ?_ | refine calm_in ?_ | refine calm_chk ?_ | refine calm_noGoto ?_))) | ((with_reducible refine chk_end ?_ ?_); kernel_rfl))
  go_ret
  exact ⟨rfl, by repeat (first | exact Mods.refl _ _ | apply Mods.drew | apply Mods.alloc)⟩
set_option maxRecDepth 100000 in
theorem report_nobody (w : World) (pv : Value) (h : Nobody w pv) : Calls Tryd.prog 15 #[pv] w (Ret fun v w' => v = .agg #[.slice none 0 0, .slice none 0 0, .slice none 0 0, .int .i64 0] ∧ Mods No w w') := by
  have hok := fun W hm => ok_nobody W pv (h.keep (w' := W) hm)
  have Hh := Lib.hid h
  clear h
  have Hhok := Lib.hid hok
  clear hok
  go_enter Tryd.func15, Tryd.ntmps15
  go_wp2_with (first | (go_at_call 21; (refine ret_use (Hhok.out _ (by repeat (first | exact Mods.refl _ _ | apply Mods.drew | apply Mods.alloc))) ?_; rintro v _ ⟨rfl, rfl⟩)) | ((with_reducible refine wp_region_por ?_ ?_ ?_ ?_); kernel_rfl; kernel_rfl; (with_reducible repeat (first | exact calm_ret | refine calm_then ?_ | refine calm_in ?_ | refine calm_chk ?_ | refine calm_noGoto ?_))) | ((with_reducible refine chk_end ?_ ?_); kernel_rfl))
  (try simp only [Exit.inBlock, Exit.then])
  refine bodyPost_ret (results_cell_row rfl _ _ w.heap.size 38 _ (0, 0) _ rfl (Cells.new w _ _) Tryd.underlying38 rfl infoRep) rfl ?_
  exact ⟨rfl, by repeat (first | exact Mods.refl _ _ | apply Mods.drew | apply Mods.alloc)⟩
theorem rep_none (w : World) (F : Nat → Prop) : RepRd w F s0 (.slice none 0 0) (.slice none 0 0) (.slice none 0 0) [] := ⟨rfl, Rd.nil _ _ _, fun i b c h1 h2 => by simp at h1, Rd.nil _ _ _, Rd.nil _ _ _⟩
set_option maxHeartbeats 1600000 in
set_option maxRecDepth 100000 in
theorem sinkNils_K (w : World) (ea : Addr) (hg : w.cell? ⟨0, 0, none⟩ = some (.iface 94 (.pointer (some ea)))) (id : Int) (A : Option Addr) (n c : Nat) :
    Calls Tryd.prog 4 #[.int .i64 id, .slice A n c] w (Ret fun v w' => v = .bool true ∧ Mods No w w') := by
  have lg := World.block_lt_of_cell? w _ hg
  have hgk : ∀ W, Mods No w W → W.cell? ⟨0, 0, none⟩ = some (.iface 94 (.pointer (some ea))) := fun W hm => (World.cell?_of_block (a := ⟨0, 0, none⟩) (hm.block _ lg fun e => e)).trans hg
  have d1 := Mods.alloc (Mods.refl No w) (.cells #[.bool false, .slice none 0 0, .slice none 0 0, .bool false, .int .i64 0, .slice none 0 0, .slice none 0 0, .int .i64 0] 46)
  have c1 := Cells.new w 46 #[.bool false, .slice none 0 0, .slice none 0 0, .bool false, .int .i64 0, .slice none 0 0, .slice none 0 0, .int .i64 0]
  have z1 : (w.alloc (.cells #[.bool false, .slice none 0 0, .slice none 0 0, .bool false, .int .i64 0, .slice none 0 0, .slice none 0 0, .int .i64 0] 46)).heap.size = w.heap.size + 1 := by simp
  generalize hW1 : w.alloc (.cells #[.bool false, .slice none 0 0, .slice none 0 0, .bool false, .int .i64 0, .slice none 0 0, .slice none 0 0, .int .i64 0] 46) = W1 at d1 c1 z1
  have d2 := d1.alloc (.cells #[.pointer none, (.pointer (some ⟨w.heap.size, 0, none⟩))] 24)
  have c2 := Cells.new W1 24 #[.pointer none, (.pointer (some ⟨w.heap.size, 0, none⟩))]
  have c3 := c1.alloc (.cells #[.pointer none, (.pointer (some ⟨w.heap.size, 0, none⟩))] 24)
  rw [z1] at c2
  generalize hW2 : W1.alloc (.cells #[.pointer none, (.pointer (some ⟨w.heap.size, 0, none⟩))] 24) = W2 at d2 c2 c3
  have hnb : Nobody W2 (.pointer (some ⟨w.heap.size, 0, none⟩)) := .inr ⟨_, rfl, c3.at_ 0 rfl⟩
  have hna : Nobody W2 (.pointer none) := .inl rfl
  have haw := fun W hm => awake_K W ea (hgk W hm)
  have Hhgk := Lib.hid hgk
  clear hgk
  have Hhg := Lib.hid hg
  clear hg
  have Hd1 := Lib.hid d1
  clear d1
  have Hc1 := Lib.hid c1
  clear c1
  have Hz1 := Lib.hid z1
  clear z1
  have HhW1 := Lib.hid hW1
  clear hW1
  have Hd2 := Lib.hid d2
  clear d2
  have Hc2 := Lib.hid c2
  clear c2
  have Hc3 := Lib.hid c3
  clear c3
  have HhW2 := Lib.hid hW2
  clear hW2
  have Hhnb := Lib.hid hnb
  clear hnb
  have Hhna := Lib.hid hna
  clear hna
  have Hhaw := Lib.hid haw
  clear haw
  go_enter Tryd.func4, Tryd.ntmps4
  go_wp2_with (first | ((with_reducible refine wp_region_por ?_ ?_ ?_ ?_); kernel_rfl; kernel_rfl; (with_reducible repeat (first | exact calm_ret | refine calm_then ?_ | refine calm_in ?_ | refine calm_chk ?_ | refine calm_noGoto ?_))) | ((with_reducible refine chk_end ?_ ?_); kernel_rfl))
  rw [HhW1.out, HhW2.out]
  go_loopg [13] 3 (fun k v13 wr => ∃ i, v13 = .int .i64 (i : Nat) ∧ k + i = 3 ∧ i ≤ 2 ∧ Mods No W2 wr)
  case atStart => exact ⟨0, rfl, rfl, Nat.zero_le _, Mods.refl _ _⟩
  case round =>
    obtain ⟨i, rfl, hk, hi, hm0⟩ := hrel
    have x0 := (Hc2.out.mods hm0 fun e => e).at_ 0 rfl
    have x1 := (Hc2.out.mods hm0 fun e => e).at_ 1 rfl
    have HM0 := Lib.hid hm0
    clear hm0
    rcases (by omega : i = 0 ∨ i = 1 ∨ i = 2) with rfl | rfl | rfl
    · skip
      go_wp2_with (first | (go_at_call 14; (refine ret_use (same_eq _ No No (.slice none 0 0) (.slice none 0 0) (.slice none 0 0) (.slice none 0 0) (.slice none 0 0) (.slice none 0 0) [] [] s0 s0 (rep_none _ _) (rep_none _ _) (fun _ e ↦ e.elim) (fun _ e ↦ e.elim) (by decide) (by decide) (by decide)) ?_; rintro v w5 ⟨rfl, hm⟩; rw [sameRep_self]; have HM5 := Lib.hid (Mods.trans (T := No) (by repeat (first | exact HM3.out | apply Mods.drew | apply Mods.alloc)) hm (fun _ _ e => e)); clear hm)) | (go_at_call 15; (refine ret_use (report_nobody _ (.pointer none) (Hhna.out.keep (by repeat (first | exact HM2.out | apply Mods.drew | apply Mods.alloc)))) ?_; rintro v w3 ⟨rfl, hm⟩; have HM3 := Lib.hid (Mods.trans (T := No) (by repeat (first | exact HM2.out | apply Mods.drew | apply Mods.alloc)) hm (fun _ _ e => e)); clear hm)) | (go_at_call 12; (refine ret_use (frame_nobody _ (.pointer none) (.slice A n c) id (Hhna.out.keep (by repeat (first | exact HM0.out | apply Mods.drew | apply Mods.alloc)))) ?_; rintro v w2 ⟨rfl, hm⟩; have HM2 := Lib.hid (Mods.trans (T := No) (by repeat (first | exact HM0.out | apply Mods.drew | apply Mods.alloc)) hm (fun _ _ e => e)); clear hm)) | ((with_reducible refine wp_region_por ?_ ?_ ?_ ?_); kernel_rfl; kernel_rfl; (with_reducible repeat (first | exact calm_ret | refine calm_then ?_ | refine calm_in ?_ | refine calm_chk ?_ | refine calm_noGoto ?_))) | ((with_reducible refine chk_end ?_ ?_); kernel_rfl))
      go_roundg (2 - 0)
      case rel => exact ⟨0 + 1, by go_num, by omega, by omega, by repeat (first | exact HM5.out | apply Mods.drew)⟩
      case measure => omega
    · skip
      go_wp2_with (first | (go_at_call 14; (refine ret_use (same_eq _ No No (.slice none 0 0) (.slice none 0 0) (.slice none 0 0) (.slice none 0 0) (.slice none 0 0) (.slice none 0 0) [] [] s0 s0 (rep_none _ _) (rep_none _ _) (fun _ e ↦ e.elim) (fun _ e ↦ e.elim) (by decide) (by decide) (by decide)) ?_; rintro v w5 ⟨rfl, hm⟩; rw [sameRep_self]; have HM5 := Lib.hid (Mods.trans (T := No) (by repeat (first | exact HM3.out | apply Mods.drew | apply Mods.alloc)) hm (fun _ _ e => e)); clear hm)) | (go_at_call 15; (refine ret_use (report_nobody _ (.pointer (some ⟨w.heap.size, 0, none⟩)) (Hhnb.out.keep (by repeat (first | exact HM2.out | apply Mods.drew | apply Mods.alloc)))) ?_; rintro v w3 ⟨rfl, hm⟩; have HM3 := Lib.hid (Mods.trans (T := No) (by repeat (first | exact HM2.out | apply Mods.drew | apply Mods.alloc)) hm (fun _ _ e => e)); clear hm)) | (go_at_call 12; (refine ret_use (frame_nobody _ (.pointer (some ⟨w.heap.size, 0, none⟩)) (.slice A n c) id (Hhnb.out.keep (by repeat (first | exact HM0.out | apply Mods.drew | apply Mods.alloc)))) ?_; rintro v w2 ⟨rfl, hm⟩; have HM2 := Lib.hid (Mods.trans (T := No) (by repeat (first | exact HM0.out | apply Mods.drew | apply Mods.alloc)) hm (fun _ _ e => e)); clear hm)) | ((with_reducible refine wp_region_por ?_ ?_ ?_ ?_); kernel_rfl; kernel_rfl; (with_reducible repeat (first | exact calm_ret | refine calm_then ?_ | refine calm_in ?_ | refine calm_chk ?_ | refine calm_noGoto ?_))) | ((with_reducible refine chk_end ?_ ?_); kernel_rfl))
      go_roundg (2 - 1)
      case rel => exact ⟨1 + 1, by go_num, by omega, by omega, by repeat (first | exact HM5.out | apply Mods.drew)⟩
      case measure => omega
    · go_wp2_with (first | (go_at_call 16; (refine ret_use (Hhaw.out _ (Hd2.out.trans (by repeat (first | exact HM0.out | apply Mods.drew | apply Mods.alloc)) (fun _ _ e ↦ e))) ?_; rintro v w2 ⟨rfl, hm⟩; have HM2 := Lib.hid (Mods.trans (T := No) (by repeat (first | exact HM0.out | apply Mods.drew | apply Mods.alloc)) hm (fun _ _ e => e)); clear hm)) | ((with_reducible refine wp_region_por ?_ ?_ ?_ ?_); kernel_rfl; kernel_rfl; (with_reducible repeat (first | exact calm_ret | refine calm_then ?_ | refine calm_in ?_ | refine calm_chk ?_ | refine calm_noGoto ?_))) | ((with_reducible refine chk_end ?_ ?_); kernel_rfl))
      go_ret
      exact ⟨rfl, Hd2.out.trans HM2.out (fun _ _ e => e)⟩
end Go.Proofs.YtmfpgghpnkmkpaaDoor
