/- Queues that nobody made; the law DueNobody walked. -/
import Derived.Test.YtmfpgghpnkmkpaaDueO
import Derived.Test.YtmfpgghpnkmkpaaDueP
namespace Go.Proofs.Ytmfpgghpnkmkpaa
open Go.RowKit Go.Tum Go.Shelf
set_option maxRecDepth 100000
attribute [local go_sem] Oper.semAt_some
/-- A queue that nobody made. -/
def Un (w : World) (pv : Option Addr) : Prop := pv = none ∨ ∃ q, pv = some ⟨q, 0, none⟩ ∧ Cells w q 61 #[.int .i64 0, .slice none 0 0, .map none]
theorem Un.no {w w' : World} {pv : Option Addr} (h : Un w pv) (hm : Mods No w w') : Un w' pv := by
  rcases h with h | ⟨q, h1, h2⟩
  · exact .inl h
  · exact .inr ⟨q, h1, h2.mods hm fun e => e⟩
theorem made_un (w : World) (pv : Option Addr) (h : Un w pv) : Calls Try.prog 25 #[.pointer pv] w (Ret fun v w' => v = .bool false ∧ w = w') := by
  rcases h with rfl | ⟨q, rfl, h⟩
  · exact made_nil w
  · exact made_some w q 0 (h.at_ 0 rfl) false rfl
theorem made_un' {w : World} {pv : Option Addr} (h : Un w pv) : ∀ w', Mods No w w' → Calls Try.prog 25 #[.pointer pv] w' (Ret fun v w2 => v = .bool false ∧ w' = w2) := fun w' hm => made_un w' pv (h.no hm)
theorem at_un (w : World) (pv : Option Addr) (h : Un w pv) (key : List UInt8) : Calls Try.prog 13 #[.pointer pv, ks key] w (Ret fun v w' => v = .tuple #[.int .i64 0, .bool false] ∧ Mods No w w') := by
  have hd := made_un' h
  have Hhd := Lib.hid hd
  clear hd
  go_enter Try.func13, Try.ntmps13
  go_wp2_with (first | (go_at_call 25; go_loud (refine ret_use (Hhd.out _ (by repeat (first | exact Mods.refl _ _ | apply Mods.alloc | apply Mods.drew))) ?_; rintro v w2 ⟨rfl, rfl⟩)) | ((with_reducible refine wp_region_por ?_ ?_ ?_ ?_); kernel_rfl; kernel_rfl; (with_reducible repeat (first | exact calm_ret | refine calm_then ?_ | refine calm_in ?_ | refine calm_chk ?_ | refine calm_noGoto ?_))) | ((with_reducible refine chk_end ?_ ?_); kernel_rfl))
  go_ret2
  exact ⟨rfl, by repeat (first | exact Mods.refl _ _ | apply Mods.alloc | apply Mods.drew)⟩
theorem next_un (w : World) (pv : Option Addr) (h : Un w pv) : Calls Try.prog 14 #[.pointer pv] w (Ret fun v w' => v = .tuple #[.agg #[.string ⟨#[]⟩, .int .i64 0], .bool false] ∧ Mods No w w') := by
  have hd := made_un' h
  have Hhd := Lib.hid hd
  clear hd
  go_enter Try.func14, Try.ntmps14
  go_wp2_with (first | (go_at_call 25; go_loud (refine ret_use (Hhd.out _ (by repeat (first | exact Mods.refl _ _ | apply Mods.alloc | apply Mods.drew))) ?_; rintro v w2 ⟨rfl, rfl⟩)) | ((with_reducible refine wp_region_por ?_ ?_ ?_ ?_); kernel_rfl; kernel_rfl; (with_reducible repeat (first | exact calm_ret | refine calm_then ?_ | refine calm_in ?_ | refine calm_chk ?_ | refine calm_noGoto ?_))) | ((with_reducible refine chk_end ?_ ?_); kernel_rfl))
  refine bodyPost_ret (results_pair rfl _ _ w.heap.size 29 _ (0, 0) _ rfl (Cells.new w _ _) Try.underlying29 rfl infoDue2) rfl ?_
  exact ⟨rfl, (Mods.refl No w).alloc _⟩
theorem set_un (w : World) (pv : Option Addr) (h : Un w pv) (key : List UInt8) (t : Int) : Calls Try.prog 9 #[.pointer pv, ks key, .int .i64 t] w (Ret fun v w' => v = .int .i64 4 ∧ Mods No w w') := by
  have hd := made_un' h
  have Hhd := Lib.hid hd
  clear hd
  go_enter Try.func9, Try.ntmps9
  go_wp2_with (first | (go_at_call 25; go_loud (refine ret_use (Hhd.out _ (by repeat (first | exact Mods.refl _ _ | apply Mods.alloc | apply Mods.drew))) ?_; rintro v w2 ⟨rfl, rfl⟩)) | ((with_reducible refine wp_region_por ?_ ?_ ?_ ?_); kernel_rfl; kernel_rfl; (with_reducible repeat (first | exact calm_ret | refine calm_then ?_ | refine calm_in ?_ | refine calm_chk ?_ | refine calm_noGoto ?_))) | ((with_reducible refine chk_end ?_ ?_); kernel_rfl))
  go_ret
  exact ⟨rfl, by repeat (first | exact Mods.refl _ _ | apply Mods.alloc | apply Mods.drew)⟩
theorem drop_un (w : World) (pv : Option Addr) (h : Un w pv) (key : List UInt8) : Calls Try.prog 22 #[.pointer pv, ks key] w (Ret fun v w' => v = .bool false ∧ Mods No w w') := by
  have hd := made_un' h
  have Hhd := Lib.hid hd
  clear hd
  go_enter Try.func22, Try.ntmps22
  go_wp2_with (first | (go_at_call 25; go_loud (refine ret_use (Hhd.out _ (by repeat (first | exact Mods.refl _ _ | apply Mods.alloc | apply Mods.drew))) ?_; rintro v w2 ⟨rfl, rfl⟩)) | ((with_reducible refine wp_region_por ?_ ?_ ?_ ?_); kernel_rfl; kernel_rfl; (with_reducible repeat (first | exact calm_ret | refine calm_then ?_ | refine calm_in ?_ | refine calm_chk ?_ | refine calm_noGoto ?_))) | ((with_reducible refine chk_end ?_ ?_); kernel_rfl))
  go_ret
  exact ⟨rfl, by repeat (first | exact Mods.refl _ _ | apply Mods.alloc | apply Mods.drew)⟩
theorem len_un (w : World) (pv : Option Addr) (h : Un w pv) : Calls Try.prog 10 #[.pointer pv] w (Ret fun v w' => v = .int .i64 0 ∧ Mods No w w') := by
  have hd := made_un' h
  have Hhd := Lib.hid hd
  clear hd
  go_enter Try.func10, Try.ntmps10
  go_wp2_with (first | (go_at_call 25; go_loud (refine ret_use (Hhd.out _ (by repeat (first | exact Mods.refl _ _ | apply Mods.alloc | apply Mods.drew))) ?_; rintro v w2 ⟨rfl, rfl⟩)) | ((with_reducible refine wp_region_por ?_ ?_ ?_ ?_); kernel_rfl; kernel_rfl; (with_reducible repeat (first | exact calm_ret | refine calm_then ?_ | refine calm_in ?_ | refine calm_chk ?_ | refine calm_noGoto ?_))) | ((with_reducible refine chk_end ?_ ?_); kernel_rfl))
  go_ret
  exact ⟨rfl, by repeat (first | exact Mods.refl _ _ | apply Mods.alloc | apply Mods.drew)⟩
theorem take_un (w : World) (pv : Option Addr) (h : Un w pv) (now : Int) : Calls Try.prog 11 #[.pointer pv, .int .i64 now] w (Ret fun v w' => v = .slice none 0 0 ∧ Mods No w w') := by
  have hn := next_un w pv h
  have Hhn := Lib.hid hn
  clear hn
  go_enter Try.func11, Try.ntmps11
  go_wp2_with (first | (go_at_call 14; go_loud (refine ret_use (Hhn.out) ?_; rintro v w2 ⟨rfl, hm2⟩; have HM2 := Lib.hid hm2; clear hm2)) | ((with_reducible refine wp_region_por ?_ ?_ ?_ ?_); kernel_rfl; kernel_rfl; (with_reducible repeat (first | exact calm_ret | refine calm_then ?_ | refine calm_in ?_ | refine calm_chk ?_ | refine calm_noGoto ?_))) | ((with_reducible refine chk_end ?_ ?_); kernel_rfl))
  go_loopg [5, 6, 7] 0 (fun k v5 v6 v7 wr => v5 = .slice none 0 0 ∧ v6 = (.pointer (some ⟨w2.heap.size, 0, none⟩)) ∧ v7 = .bool false ∧ Cells wr w2.heap.size 29 #[.string ⟨#[]⟩, .int .i64 0] ∧ Mods No w wr)
  case atStart => exact ⟨rfl, rfl, rfl, Cells.new w2 _ _, HM2.out.alloc _⟩
  case round =>
    obtain ⟨rfl, rfl, rfl, hc, hm⟩ := hrel
    have x0 := hc.at_ 0 rfl
    have x1 := hc.at_ 1 rfl
    have Hhm := Lib.hid hm
    clear hm
    have Hhc := Lib.hid hc
    clear hc
    go_wp2_with (first | ((with_reducible refine wp_region_por ?_ ?_ ?_ ?_); kernel_rfl; kernel_rfl; (with_reducible repeat (first | exact calm_ret | refine calm_then ?_ | refine calm_in ?_ | refine calm_chk ?_ | refine calm_noGoto ?_))) | ((with_reducible refine chk_end ?_ ?_); kernel_rfl))
    go_ret
    exact ⟨rfl, Hhm.out⟩
theorem iter_un (W1 : World) (Bx : Nat) (pv : Option Addr) (hb : Cells W1 Bx 23 #[.pointer pv]) (h : Un W1 pv) : Iter Try.prog 32 #[(.pointer (some ⟨Bx, 0, none⟩))] encY [] W1 := by
  intro l J Jx hst hJ hJx hY
  have c0 := hb.at_ 0 rfl
  have lB := hb.lt
  have hd := made_un W1 pv h
  have Hhst := Lib.hid hst
  clear hst
  have HhJ := Lib.hid hJ
  clear hJ
  have HhJx := Lib.hid hJx
  clear hJx
  have HhY := Lib.hid hY
  clear hY
  have Hhd := Lib.hid hd
  clear hd
  have Hhb := Lib.hid hb
  clear hb
  refine callsIn_of_wp Try.func32 rfl trivial ?_ rfl
  simp only [Try.ntmps32, List.size_toArray, List.length_cons, List.length_nil, Nat.reduceAdd, Nat.reduceSub, Array.replicate_succ, Array.replicate_zero, List.push_toArray, List.append_toArray, List.nil_append, List.cons_append]
  gi_wp2_with (first | ((refine ⟨trivial, rfl, ?_⟩); gi_at_call 25; go_loud (refine ret_useI (Hhd.out) ?_; rintro v w2 ⟨rfl, rfl⟩)))
  refine bodyPost_ret (results_none rfl _ _ _) rfl ?_
  exact ⟨⟨_, rfl⟩, W1.heap.size, .inl (Hhst.out W1 (Mods.refl _ _))⟩
theorem all_un (w : World) (pv : Option Addr) (h : Un w pv) (most : Int) : Calls Try.prog 20 #[.pointer pv, .int .i64 most] w (Ret fun v w' => (∃ A c, v = .slice A 0 c) ∧ Mods No w w') :=
  ret_use (allg_K w pv [] most (by decide) fun W1 Bx hm hb => iter_un W1 Bx pv hb (h.no hm)) fun v w' ⟨h1, h2⟩ => by
    have e : upTo most [] = [] := by unfold upTo; split <;> simp
    rw [e] at h1
    obtain ⟨A, c, e, _⟩ := h1.form
    exact ⟨⟨A, c, e⟩, h2⟩
set_option maxHeartbeats 6400000 in
theorem dueNobody_K (W : World) (key : List UInt8) (t : Int) :
    Calls Try.prog 7 #[ks key, .int .i64 t] W (Ret fun r w' => r = .bool true ∧ Mods No W w') := by
  have HM := Lib.hid ((Mods.refl No W).alloc (.cells #[.int .i64 0, .slice none 0 0, .map none] 61))
  have HU := Lib.hid (show Un (W.alloc (.cells #[.int .i64 0, .slice none 0 0, .map none] 61)) (some ⟨W.heap.size, 0, none⟩) from .inr ⟨_, rfl, Cells.new W _ _⟩)
  have hz := fun w => neq_ent w ([], 0) ([], 0)
  rw [show decide ((([], 0) : Ent) ≠ ([], 0)) = false by simp] at hz
  have hat := fun w pv h => at_un w pv h key
  have hset := fun w pv h => set_un w pv h key t
  have hdrop := fun w pv h => drop_un w pv h key
  have Hhat := Lib.hid hat
  clear hat
  have Hhset := Lib.hid hset
  clear hset
  have Hhdrop := Lib.hid hdrop
  clear hdrop
  unfold ks at *
  go_enter Try.func7, Try.ntmps7
  go_wp2_with (first | (go_at_call 13; go_loud (refine ret_use (Hhat.out _ _ (by first | exact Or.inl rfl | exact Un.no HU.out (by repeat (first | exact Mods.refl _ _ | apply Mods.alloc | apply Mods.drew)))) ?_; rintro v w2 ⟨rfl, hm⟩; have HM := Lib.hid (Mods.trans (S := No) (T := No) (a := W) (by repeat (first | exact HM.out | apply Mods.alloc | apply Mods.drew)) hm (fun _ _ e => e)); have HU := Lib.hid (Un.no (Un.no HU.out (by repeat (first | exact Mods.refl _ _ | apply Mods.alloc | apply Mods.drew))) hm); clear hm)) | (go_at_call 14; (fail_if_success have := N1); go_loud (refine ret_use (next_un _ _ (by first | exact Or.inl rfl | exact Un.no HU.out (by repeat (first | exact Mods.refl _ _ | apply Mods.alloc | apply Mods.drew)))) ?_; rintro v w2 ⟨rfl, hm⟩; have N1 := Lib.hid (Cells.new w2 29 #[.string ⟨#[]⟩, .int .i64 0]); have HM := Lib.hid (Mods.trans (S := No) (T := No) (a := W) (by repeat (first | exact HM.out | apply Mods.alloc | apply Mods.drew)) hm (fun _ _ e => e)); have HU := Lib.hid (Un.no (Un.no HU.out (by repeat (first | exact Mods.refl _ _ | apply Mods.alloc | apply Mods.drew))) hm); clear hm)) | (go_at_call 14; go_loud (refine ret_use (next_un _ _ (by first | exact Or.inl rfl | exact Un.no HU.out (by repeat (first | exact Mods.refl _ _ | apply Mods.alloc | apply Mods.drew)))) ?_; rintro v w2 ⟨rfl, hm⟩; have x0 := (N1.out.mods hm fun e => e).at_ 0 rfl; have x1 := (N1.out.mods hm fun e => e).at_ 1 rfl; have xz := (N1.out.mods hm fun e => e).lt; have HM := Lib.hid (Mods.trans (S := No) (T := No) (a := W) (by repeat (first | exact HM.out | apply Mods.alloc | apply Mods.drew)) hm (fun _ _ e => e)); have HU := Lib.hid (Un.no (Un.no HU.out (by repeat (first | exact Mods.refl _ _ | apply Mods.alloc | apply Mods.drew))) hm); clear hm)) | (go_at_call 15; go_loud (refine ret_use (alive_K _) ?_; rintro v w2 ⟨rfl, hm⟩; clear x0 x1 xz; have HM := Lib.hid (Mods.trans (S := No) (T := No) (a := W) (by repeat (first | exact HM.out | apply Mods.alloc | apply Mods.drew)) hm (fun _ _ e => e)); have HU := Lib.hid (Un.no (Un.no HU.out (by repeat (first | exact Mods.refl _ _ | apply Mods.alloc | apply Mods.drew))) hm); clear hm)) | (go_at_call 9; go_loud (refine ret_use (Hhset.out _ _ (by first | exact Or.inl rfl | exact Un.no HU.out (by repeat (first | exact Mods.refl _ _ | apply Mods.alloc | apply Mods.drew)))) ?_; rintro v w2 ⟨rfl, hm⟩; have HM := Lib.hid (Mods.trans (S := No) (T := No) (a := W) (by repeat (first | exact HM.out | apply Mods.alloc | apply Mods.drew)) hm (fun _ _ e => e)); have HU := Lib.hid (Un.no (Un.no HU.out (by repeat (first | exact Mods.refl _ _ | apply Mods.alloc | apply Mods.drew))) hm); clear hm)) | (go_at_call 22; go_loud (refine ret_use (Hhdrop.out _ _ (by first | exact Or.inl rfl | exact Un.no HU.out (by repeat (first | exact Mods.refl _ _ | apply Mods.alloc | apply Mods.drew)))) ?_; rintro v w2 ⟨rfl, hm⟩; have HM := Lib.hid (Mods.trans (S := No) (T := No) (a := W) (by repeat (first | exact HM.out | apply Mods.alloc | apply Mods.drew)) hm (fun _ _ e => e)); have HU := Lib.hid (Un.no (Un.no HU.out (by repeat (first | exact Mods.refl _ _ | apply Mods.alloc | apply Mods.drew))) hm); clear hm)) | (go_at_call 10; go_loud (refine ret_use (len_un _ _ (by first | exact Or.inl rfl | exact Un.no HU.out (by repeat (first | exact Mods.refl _ _ | apply Mods.alloc | apply Mods.drew)))) ?_; rintro v w2 ⟨rfl, hm⟩; have HM := Lib.hid (Mods.trans (S := No) (T := No) (a := W) (by repeat (first | exact HM.out | apply Mods.alloc | apply Mods.drew)) hm (fun _ _ e => e)); have HU := Lib.hid (Un.no (Un.no HU.out (by repeat (first | exact Mods.refl _ _ | apply Mods.alloc | apply Mods.drew))) hm); clear hm)) | (go_at_call 11; go_loud (refine ret_use (take_un _ _ (by first | exact Or.inl rfl | exact Un.no HU.out (by repeat (first | exact Mods.refl _ _ | apply Mods.alloc | apply Mods.drew))) _) ?_; rintro v w2 ⟨rfl, hm⟩; have HM := Lib.hid (Mods.trans (S := No) (T := No) (a := W) (by repeat (first | exact HM.out | apply Mods.alloc | apply Mods.drew)) hm (fun _ _ e => e)); have HU := Lib.hid (Un.no (Un.no HU.out (by repeat (first | exact Mods.refl _ _ | apply Mods.alloc | apply Mods.drew))) hm); clear hm)) | (go_at_call 20; go_loud (refine ret_use (all_un _ _ (by first | exact Or.inl rfl | exact Un.no HU.out (by repeat (first | exact Mods.refl _ _ | apply Mods.alloc | apply Mods.drew))) _) ?_; rintro v w2 ⟨⟨A, c, rfl⟩, hm⟩; have HM := Lib.hid (Mods.trans (S := No) (T := No) (a := W) (by repeat (first | exact HM.out | apply Mods.alloc | apply Mods.drew)) hm (fun _ _ e => e)); have HU := Lib.hid (Un.no (Un.no HU.out (by repeat (first | exact Mods.refl _ _ | apply Mods.alloc | apply Mods.drew))) hm); clear hm)) | ((with_reducible refine wp_region_por ?_ ?_ ?_ ?_); kernel_rfl; kernel_rfl; (with_reducible repeat (first | exact calm_ret | refine calm_then ?_ | refine calm_in ?_ | refine calm_chk ?_ | refine calm_noGoto ?_))) | ((with_reducible refine chk_end ?_ ?_); kernel_rfl))
  go_ret
  exact ⟨rfl, HM.out⟩
end Go.Proofs.Ytmfpgghpnkmkpaa
