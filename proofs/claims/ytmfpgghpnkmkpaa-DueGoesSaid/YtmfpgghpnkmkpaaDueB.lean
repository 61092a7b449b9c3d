/- The pile's methods. -/
import Derived.Test.YtmfpgghpnkmkpaaDueA
namespace Go.Proofs.Ytmfpgghpnkmkpaa
open Go.RowKit Go.Tum
set_option maxRecDepth 100000
theorem less_K (w : World) (q gl cap n i j : Nat) (d : Nat → Ent) (h1 : w.cell? ⟨q, 1, none⟩ = some (.slice (some ⟨gl, 0, none⟩) n cap)) (hx : ∀ k, k < n → w.cell? ⟨gl, k * 2, none⟩ = some (ks (d k).1) ∧ w.cell? ⟨gl, k * 2 + 1, none⟩ = some (.int .i64 (d k).2))
    (hi : i < n) (hj : j < n) : Calls Try.prog 81 #[.pointer (some ⟨q, 1, none⟩), .int .i64 i, .int .i64 j] w (Ret fun v w' => v = .bool (before (d i) (d j)) ∧ Mods No w w') := by
  obtain ⟨x0, x1⟩ := hx i hi
  obtain ⟨y0, y1⟩ := hx j hj
  have hc := fun (w : World) => order_K w (d i) (d j)
  have hb := cmpE_lt (d i) (d j)
  have Hb := Lib.hid hb
  clear hb hx
  unfold ks at *
  go_enter Try.func81, Try.ntmps81
  go_wp2_with (first | (go_at_call 35; (refine ret_use (hc _) ?_; rintro v w2 ⟨rfl, hm⟩; have HM := Lib.hid hm; clear hm)) | ((with_reducible refine wp_region_por ?_ ?_ ?_ ?_); kernel_rfl; kernel_rfl; (with_reducible repeat (first | exact calm_ret | refine calm_then ?_ | refine calm_in ?_ | refine calm_chk ?_ | refine calm_noGoto ?_))) | ((with_reducible refine chk_end ?_ ?_); kernel_rfl))
  go_ret
  exact ⟨by rw [Hb.out]; rfl, Mods.trans (S := No) (T := No) (a := w) (by repeat (first | exact Mods.refl _ _ | apply Mods.drew)) HM.out (fun _ _ e => e)⟩
theorem len_K (w : World) (q n cap : Nat) (A : Option Addr) (h1 : w.cell? ⟨q, 1, none⟩ = some (.slice A n cap)) :
    Calls Try.prog 80 #[.pointer (some ⟨q, 1, none⟩)] w (Ret fun v w' => v = .int .i64 n ∧ w = w') := by
  go_enter Try.func80, Try.ntmps80
  go_wp2
  go_ret
  exact ⟨rfl, rfl⟩
theorem made_nil (w : World) : Calls Try.prog 25 #[.pointer none] w (Ret fun v w' => v = .bool false ∧ w = w') := by
  go_enter Try.func25, Try.ntmps25
  go_wp2
  go_ret
  exact ⟨rfl, rfl⟩
theorem made_some (w : World) (q : Nat) (lim : Int) (h : w.cell? ⟨q, 0, none⟩ = some (.int .i64 lim)) (b : Bool) (hb : decide (0 < lim) = b) : Calls Try.prog 25 #[(.pointer (some ⟨q, 0, none⟩))] w (Ret fun v w' => v = .bool b ∧ w = w') := by
  go_enter Try.func25, Try.ntmps25
  go_wp2
  go_ret
  exact ⟨rfl, rfl⟩
/-! Calls through heap.Interface: lay these facts ahead of the walk; then go_at_call at the method's number meets the call. -/
theorem meth_len (w : World) (a : Addr) : (method 223 65 (.pointer (some a)) "Len").run Try.prog w = .ok (80, .pointer (some a)) w := by kernel_rfl
theorem meth_less (w : World) (a : Addr) : (method 223 65 (.pointer (some a)) "Less").run Try.prog w = .ok (81, .pointer (some a)) w := by kernel_rfl
theorem meth_swap (w : World) (a : Addr) : (method 223 65 (.pointer (some a)) "Swap").run Try.prog w = .ok (84, .pointer (some a)) w := by kernel_rfl
theorem meth_push (w : World) (a : Addr) : (method 223 65 (.pointer (some a)) "Push").run Try.prog w = .ok (83, .pointer (some a)) w := by kernel_rfl
theorem meth_pop (w : World) (a : Addr) : (method 223 65 (.pointer (some a)) "Pop").run Try.prog w = .ok (82, .pointer (some a)) w := by kernel_rfl
end Go.Proofs.Ytmfpgghpnkmkpaa
