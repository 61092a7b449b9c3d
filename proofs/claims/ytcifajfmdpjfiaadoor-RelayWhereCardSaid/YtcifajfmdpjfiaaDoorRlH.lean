/- Package relay: relays that nobody made. -/
import Derived.Test.YtcifajfmdpjfiaaDoorRlF
namespace Go.Proofs.YtcifajfmdpjfiaaDoor
open Go.RowKit Go.Tum Go.Lib Go.Sort
set_option maxRecDepth 100000
def NoRel (p : Value) (w : World) : Prop := ∀ w', Mods No w w' → Calls Tryd.prog 30 #[p] w' (Ret fun v w'' => v = .bool false ∧ w' = w'')
theorem noRel_nil (w : World) : NoRel (.pointer none) w := fun w' _ => by
  go_enter Tryd.func30, Tryd.ntmps30
  go_wp2_with (first | ((with_reducible refine wp_region_por ?_ ?_ ?_ ?_); kernel_rfl; kernel_rfl; (with_reducible repeat (first | exact calm_ret | refine calm_then ?_ | refine calm_in ?_ | refine calm_chk ?_ | refine calm_noGoto ?_))) | ((with_reducible refine chk_end ?_ ?_); kernel_rfl))
  go_ret
  exact ⟨rfl, rfl⟩
theorem noRel_zero {w : World} {q : Nat} {cs : Array Value} (h : Cells w q 74 cs) (h0 : cs[5]? = some (.pointer none)) : NoRel ((.pointer (some ⟨q, 0, none⟩))) w := fun w' hm => by
  have c5 := (h.mods hm fun e => e).at_ 5 h0
  clear h
  go_enter Tryd.func30, Tryd.ntmps30
  go_wp2_with (first | ((with_reducible refine wp_region_por ?_ ?_ ?_ ?_); kernel_rfl; kernel_rfl; (with_reducible repeat (first | exact calm_ret | refine calm_then ?_ | refine calm_in ?_ | refine calm_chk ?_ | refine calm_noGoto ?_))) | ((with_reducible refine chk_end ?_ ?_); kernel_rfl))
  go_ret
  exact ⟨rfl, rfl⟩
theorem rput_no {p : Value} {w : World} (h : NoRel p w) (x : Rcd) (w' : World) (hm : Mods No w w') : Calls Tryd.prog 13 #[p, rv x] w' (Ret fun v w'' => v = .int .i64 0 ∧ Mods No w' w'') := by
  have h1 := fun w1 (hm1 : Mods No w' w1) => h w1 (hm.trans hm1 fun _ _ e => e)
  clear h
  have Hh1 := Lib.hid h1
  clear h1
  have Hhm := Lib.hid hm
  clear hm
  try unfold rv
  try unfold ks
  go_enter Tryd.func13, Tryd.ntmps13
  go_wp2_with (first | (go_at_call 30; (refine ret_use (Hh1.out _ (by repeat (first | exact Mods.refl _ _ | apply Mods.alloc | apply Mods.drew))) ?_; rintro v w2 ⟨rfl, rfl⟩)) | ((with_reducible refine wp_region_por ?_ ?_ ?_ ?_); kernel_rfl; kernel_rfl; (with_reducible repeat (first | exact calm_ret | refine calm_then ?_ | refine calm_in ?_ | refine calm_chk ?_ | refine calm_noGoto ?_))) | ((with_reducible refine chk_end ?_ ?_); kernel_rfl))
  go_ret
  exact ⟨rfl, by repeat (first | exact Mods.refl _ _ | apply Mods.alloc | apply Mods.drew)⟩
theorem rtake_no {p : Value} {w : World} (h : NoRel p w) (s : Tx) (n : Int) (w' : World) (hm : Mods No w w') : Calls Tryd.prog 14 #[p, ks s, .int .i64 n] w' (Ret fun v w'' => v = .tuple #[.slice none 0 0, .int .i64 4] ∧ Mods No w' w'') := by
  have h1 := fun w1 (hm1 : Mods No w' w1) => h w1 (hm.trans hm1 fun _ _ e => e)
  clear h
  have Hh1 := Lib.hid h1
  clear h1
  have Hhm := Lib.hid hm
  clear hm
  try unfold rv
  try unfold ks
  go_enter Tryd.func14, Tryd.ntmps14
  go_wp2_with (first | (go_at_call 30; (refine ret_use (Hh1.out _ (by repeat (first | exact Mods.refl _ _ | apply Mods.alloc | apply Mods.drew))) ?_; rintro v w2 ⟨rfl, rfl⟩)) | ((with_reducible refine wp_region_por ?_ ?_ ?_ ?_); kernel_rfl; kernel_rfl; (with_reducible repeat (first | exact calm_ret | refine calm_then ?_ | refine calm_in ?_ | refine calm_chk ?_ | refine calm_noGoto ?_))) | ((with_reducible refine chk_end ?_ ?_); kernel_rfl))
  go_ret2
  exact ⟨rfl, by repeat (first | exact Mods.refl _ _ | apply Mods.alloc | apply Mods.drew)⟩
theorem rdown_no {p : Value} {w : World} (h : NoRel p w) (s : Tx) (w' : World) (hm : Mods No w w') : Calls Tryd.prog 21 #[p, ks s] w' (Ret fun v w'' => v = .int .i64 4 ∧ Mods No w' w'') := by
  have h1 := fun w1 (hm1 : Mods No w' w1) => h w1 (hm.trans hm1 fun _ _ e => e)
  clear h
  have Hh1 := Lib.hid h1
  clear h1
  have Hhm := Lib.hid hm
  clear hm
  try unfold rv
  try unfold ks
  go_enter Tryd.func21, Tryd.ntmps21
  go_wp2_with (first | (go_at_call 30; (refine ret_use (Hh1.out _ (by repeat (first | exact Mods.refl _ _ | apply Mods.alloc | apply Mods.drew))) ?_; rintro v w2 ⟨rfl, rfl⟩)) | ((with_reducible refine wp_region_por ?_ ?_ ?_ ?_); kernel_rfl; kernel_rfl; (with_reducible repeat (first | exact calm_ret | refine calm_then ?_ | refine calm_in ?_ | refine calm_chk ?_ | refine calm_noGoto ?_))) | ((with_reducible refine chk_end ?_ ?_); kernel_rfl))
  go_ret
  exact ⟨rfl, by repeat (first | exact Mods.refl _ _ | apply Mods.alloc | apply Mods.drew)⟩
theorem rup_no {p : Value} {w : World} (h : NoRel p w) (s : Tx) (w' : World) (hm : Mods No w w') : Calls Tryd.prog 26 #[p, ks s] w' (Ret fun v w'' => v = .int .i64 4 ∧ Mods No w' w'') := by
  have h1 := fun w1 (hm1 : Mods No w' w1) => h w1 (hm.trans hm1 fun _ _ e => e)
  clear h
  have Hh1 := Lib.hid h1
  clear h1
  have Hhm := Lib.hid hm
  clear hm
  try unfold rv
  try unfold ks
  go_enter Tryd.func26, Tryd.ntmps26
  go_wp2_with (first | (go_at_call 30; (refine ret_use (Hh1.out _ (by repeat (first | exact Mods.refl _ _ | apply Mods.alloc | apply Mods.drew))) ?_; rintro v w2 ⟨rfl, rfl⟩)) | ((with_reducible refine wp_region_por ?_ ?_ ?_ ?_); kernel_rfl; kernel_rfl; (with_reducible repeat (first | exact calm_ret | refine calm_then ?_ | refine calm_in ?_ | refine calm_chk ?_ | refine calm_noGoto ?_))) | ((with_reducible refine chk_end ?_ ?_); kernel_rfl))
  go_ret
  exact ⟨rfl, by repeat (first | exact Mods.refl _ _ | apply Mods.alloc | apply Mods.drew)⟩
theorem rcounts_no {p : Value} {w : World} (h : NoRel p w)  (w' : World) (hm : Mods No w w') : Calls Tryd.prog 16 #[p] w' (Ret fun v w'' => v = .slice none 0 0 ∧ Mods No w' w'') := by
  have h1 := fun w1 (hm1 : Mods No w' w1) => h w1 (hm.trans hm1 fun _ _ e => e)
  clear h
  have Hh1 := Lib.hid h1
  clear h1
  have Hhm := Lib.hid hm
  clear hm
  try unfold rv
  try unfold ks
  go_enter Tryd.func16, Tryd.ntmps16
  go_wp2_with (first | (go_at_call 30; (refine ret_use (Hh1.out _ (by repeat (first | exact Mods.refl _ _ | apply Mods.alloc | apply Mods.drew))) ?_; rintro v w2 ⟨rfl, rfl⟩)) | ((with_reducible refine wp_region_por ?_ ?_ ?_ ?_); kernel_rfl; kernel_rfl; (with_reducible repeat (first | exact calm_ret | refine calm_then ?_ | refine calm_in ?_ | refine calm_chk ?_ | refine calm_noGoto ?_))) | ((with_reducible refine chk_end ?_ ?_); kernel_rfl))
  go_ret
  exact ⟨rfl, by repeat (first | exact Mods.refl _ _ | apply Mods.alloc | apply Mods.drew)⟩
end Go.Proofs.YtcifajfmdpjfiaaDoor
