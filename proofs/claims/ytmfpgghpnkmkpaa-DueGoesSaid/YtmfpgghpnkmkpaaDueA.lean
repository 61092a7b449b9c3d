/- Package due: the order of entries, walked. -/
import Derived.Test.YtmfpgghpnkmkpaaBase2
import Derived.Test.YtmfpgghpnkmkpaaPor4
import Derived.Test.YtmfpgghpnkmkpaaDueSpec
import Derived.Test.YtmfpgghpnkmkpaaSMap
import Derived.Test.YtmfpgghpnkmkpaaChecked
import Derived.Lib.Hide
namespace Go.Proofs.Ytmfpgghpnkmkpaa
open Go.RowKit Go.Tum
set_option maxRecDepth 100000
theorem run_cmp (a b : ByteArray) (w : World) : (callFunc 61 #[.string a, .string b]).run Try.prog w = .ok (.value (.int .i64 (Lib.compareBytes a.data.toList b.data.toList))) w := by
  rw [run_callFunc_extern Try.func61 (by kernel_rfl) (by kernel_rfl) (by kernel_rfl) (e := Extern.BytealgCompare.compare) (by kernel_rfl), Lib.run_compareString]
  rfl
theorem compare_K (w : World) (a b : ByteArray) : Calls Try.prog 44 #[.string a, .string b] w (Ret fun v w' => v = .int .i64 (Lib.compareBytes a.data.toList b.data.toList) ∧ w = w') := by
  have hx := fun (w : World) => run_cmp a b w
  go_enter Try.func44, Try.ntmps44
  go_wp2
  go_ret
  exact ⟨rfl, rfl⟩

def cmpE (a b : Ent) : Int := if a.2 < b.2 then -1 else if b.2 < a.2 then 1 else Lib.compareBytes a.1 b.1
theorem cmpE_lt (a b : Ent) : decide (cmpE a b < 0) = before a b := by
  unfold cmpE before
  rw [decide_eq_decide]
  split
  · rename_i h
    exact ⟨fun _ => .inl h, fun _ => by decide⟩
  · rename_i h
    split
    · rename_i h2
      exact ⟨fun e => by omega, fun e => by rcases e with e | ⟨e, _⟩ <;> omega⟩
    · rename_i h2
      exact ⟨fun e => .inr ⟨by omega, e⟩, fun e => by rcases e with e | ⟨_, e⟩; omega; exact e⟩
theorem order_K (w : World) (a b : Ent) : Calls Try.prog 35 #[.agg #[ks a.1, .int .i64 a.2], .agg #[ks b.1, .int .i64 b.2]] w (Ret fun v w' => v = .int .i64 (cmpE a b) ∧ Mods No w w') := by
  have hc := fun (w : World) => compare_K w ⟨a.1.toArray⟩ ⟨b.1.toArray⟩
  unfold ks
  go_enter Try.func35, Try.ntmps35
  by_cases h1 : a.2 < b.2
  · have h1' : decide (a.2 < b.2) = true := decide_eq_true h1
    have e : cmpE a b = -1 := if_pos h1
    have He := Lib.hid e
    clear e
    go_wp2_with (first | ((with_reducible refine wp_region_por ?_ ?_ ?_ ?_); kernel_rfl; kernel_rfl; (with_reducible repeat (first | exact calm_ret | refine calm_then ?_ | refine calm_in ?_ | refine calm_chk ?_ | refine calm_noGoto ?_))) | ((with_reducible refine chk_end ?_ ?_); kernel_rfl))
    go_ret
    exact ⟨by rw [He.out]; rfl, by repeat (first | exact Mods.refl _ _ | apply Mods.drew | apply Mods.alloc)⟩
  · have h1' : decide (a.2 < b.2) = false := decide_eq_false h1
    by_cases h2 : b.2 < a.2
    · have h2' : decide (b.2 < a.2) = true := decide_eq_true h2
      have e : cmpE a b = 1 := (if_neg h1).trans (if_pos h2)
      have He := Lib.hid e
      clear e
      go_wp2_with (first | ((with_reducible refine wp_region_por ?_ ?_ ?_ ?_); kernel_rfl; kernel_rfl; (with_reducible repeat (first | exact calm_ret | refine calm_then ?_ | refine calm_in ?_ | refine calm_chk ?_ | refine calm_noGoto ?_))) | ((with_reducible refine chk_end ?_ ?_); kernel_rfl))
      go_ret
      exact ⟨by rw [He.out]; rfl, by repeat (first | exact Mods.refl _ _ | apply Mods.drew | apply Mods.alloc)⟩
    · have h2' : decide (b.2 < a.2) = false := decide_eq_false h2
      have e : cmpE a b = Lib.compareBytes a.1 b.1 := (if_neg h1).trans (if_neg h2)
      have He := Lib.hid e
      clear e
      go_wp2_with (first | (go_at_call 44; (refine ret_use (hc _) ?_; rintro v _ ⟨rfl, rfl⟩)) | ((with_reducible refine wp_region_por ?_ ?_ ?_ ?_); kernel_rfl; kernel_rfl; (with_reducible repeat (first | exact calm_ret | refine calm_then ?_ | refine calm_in ?_ | refine calm_chk ?_ | refine calm_noGoto ?_))) | ((with_reducible refine chk_end ?_ ?_); kernel_rfl))
      go_ret
      exact ⟨by rw [He.out]; rfl, by repeat (first | exact Mods.refl _ _ | apply Mods.drew | apply Mods.alloc)⟩
end Go.Proofs.Ytmfpgghpnkmkpaa
