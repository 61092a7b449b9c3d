/- Package ring: small functions. -/
import Derived.Test.YtilkepmmkhmghaaDoorRgA
import Derived.Test.YtilkepmmkhmghaaDoorRing
import Derived.Shelf.Pu.Clone
import Derived.Laws.StructEq
import Derived.Lib.Bytealg
namespace Go.Proofs.YtilkepmmkhmghaaDoor
open Go.RowKit Go.Tum Go.Lib
set_option maxRecDepth 100000
def shardV (s : List UInt8) (n : Int) : Int := if n < 1 ∨ 16 < n then 0 else (fnv32 s : Int) % n
theorem shard_K (w : World) (s : List UInt8) (n : Int) (hs : s.length ≤ maxLen) : Calls Tryd.prog 25 #[ks s, .int .i64 n] w (Ret fun v w' => v = .int .i64 (shardV s n) ∧ w = w') := by
  have hh := hash32_K w s hs
  have hlt := fnv32_lt s
  have Hhh := Lib.hid hh
  clear hh
  unfold ks at *
  by_cases h1 : n < 1
  · have h1' : decide (n < 1) = true := decide_eq_true h1
    go_enter Tryd.func25, Tryd.ntmps25
    go_wp2
    go_ret
    exact ⟨by unfold shardV; rw [if_pos (.inl h1)]; rfl, rfl⟩
  · have h1' : decide (n < 1) = false := decide_eq_false h1
    by_cases h2 : 16 < n
    · have h2' : decide (16 < n) = true := decide_eq_true h2
      go_enter Tryd.func25, Tryd.ntmps25
      go_wp2
      go_ret
      exact ⟨by unfold shardV; rw [if_pos (.inr h2)]; rfl, rfl⟩
    · have h2' : decide (16 < n) = false := decide_eq_false h2
      obtain ⟨m, rfl⟩ : ∃ m : Nat, n = (m : Int) := ⟨n.toNat, by omega⟩
      have HV := Lib.hid (show shardV s (m : Int) = (fnv32 s : Int) % (m : Int) by unfold shardV; rw [if_neg (by omega)])
      go_enter Tryd.func25, Tryd.ntmps25
      go_wp2_with (first | (go_at_call 19; (refine ret_use (Hhh.out) ?_; rintro v w2 ⟨rfl, rfl⟩)) | ((with_reducible refine wp_region_por ?_ ?_ ?_ ?_); kernel_rfl; kernel_rfl; (with_reducible repeat (first | exact calm_ret | refine calm_then ?_ | refine calm_in ?_ | refine calm_chk ?_ | refine calm_noGoto ?_))) | ((with_reducible refine chk_end ?_ ?_); kernel_rfl))
      go_ret
      refine ⟨?_, rfl⟩
      rw [HV.out]
      refine int_eq ?_
      have h3 : 0 ≤ (fnv32 s : Int) % (m : Int) := Int.emod_nonneg _ (by omega)
      have h4 : (fnv32 s : Int) % (m : Int) < m := Int.emod_lt_of_pos _ (by omega)
      generalize (fnv32 s : Int) % (m : Int) = y at h3 h4 ⊢
      unfold wrap64
      omega
theorem rshard_K (w : World) (s : List UInt8) (n : Int) (hs : s.length ≤ maxLen) : Calls Tryd.prog 26 #[ks s, .int .i64 n] w (Ret fun v w' => v = .int .i64 (shardV s n) ∧ w = w') := by
  have hh := rhash32_K w s hs
  have hlt := fnv32_lt s
  have Hhh := Lib.hid hh
  clear hh
  unfold ks at *
  by_cases h1 : n < 1
  · have h1' : decide (n < 1) = true := decide_eq_true h1
    go_enter Tryd.func26, Tryd.ntmps26
    go_wp2
    go_ret
    exact ⟨by unfold shardV; rw [if_pos (.inl h1)]; rfl, rfl⟩
  · have h1' : decide (n < 1) = false := decide_eq_false h1
    by_cases h2 : 16 < n
    · have h2' : decide (16 < n) = true := decide_eq_true h2
      go_enter Tryd.func26, Tryd.ntmps26
      go_wp2
      go_ret
      exact ⟨by unfold shardV; rw [if_pos (.inr h2)]; rfl, rfl⟩
    · have h2' : decide (16 < n) = false := decide_eq_false h2
      obtain ⟨m, rfl⟩ : ∃ m : Nat, n = (m : Int) := ⟨n.toNat, by omega⟩
      have HV := Lib.hid (show shardV s (m : Int) = (fnv32 s : Int) % (m : Int) by unfold shardV; rw [if_neg (by omega)])
      go_enter Tryd.func26, Tryd.ntmps26
      go_wp2_with (first | (go_at_call 23; (refine ret_use (Hhh.out) ?_; rintro v w2 ⟨rfl, rfl⟩)) | ((with_reducible refine wp_region_por ?_ ?_ ?_ ?_); kernel_rfl; kernel_rfl; (with_reducible repeat (first | exact calm_ret | refine calm_then ?_ | refine calm_in ?_ | refine calm_chk ?_ | refine calm_noGoto ?_))) | ((with_reducible refine chk_end ?_ ?_); kernel_rfl))
      go_ret
      refine ⟨?_, rfl⟩
      rw [HV.out]
      refine int_eq ?_
      have h3 : 0 ≤ (fnv32 s : Int) % (m : Int) := Int.emod_nonneg _ (by omega)
      have h4 : (fnv32 s : Int) % (m : Int) < m := Int.emod_lt_of_pos _ (by omega)
      generalize (fnv32 s : Int) % (m : Int) = y at h3 h4 ⊢
      unfold wrap64
      omega
/-- May a text be a node? -/
def fitB (s : Tx) : Bool := decide (1 ≤ s.length ∧ s.length ≤ 200)
theorem node_K (w : World) (s : Tx) : Calls Tryd.prog 32 #[ks s] w (Ret fun v w' => v = .bool (fitB s) ∧ w = w') := by
  unfold ks
  rcases Nat.eq_zero_or_pos s.length with h0 | h0
  · obtain rfl : s = [] := List.eq_nil_of_length_eq_zero h0
    go_enter Tryd.func32, Tryd.ntmps32
    go_wp2
    go_ret
    exact ⟨rfl, rfl⟩
  · have hne : (s == []) = false := by cases s with
      | nil => simp at h0
      | cons a s => rfl
    have hne' : decide (1 ≤ s.length) = true := decide_eq_true h0
    by_cases h2 : s.length ≤ 200
    · have h2' : decide ((s.length : Int) ≤ 200) = true := decide_eq_true (by omega)
      have HF := Lib.hid (show fitB s = true from decide_eq_true ⟨h0, h2⟩)
      clear h2
      go_enter Tryd.func32, Tryd.ntmps32
      go_wp2
      go_ret
      exact ⟨by rw [HF.out]; rfl, rfl⟩
    · have h2' : decide ((s.length : Int) ≤ 200) = false := decide_eq_false (by omega)
      have HF := Lib.hid (show fitB s = false from decide_eq_false fun h => h2 h.2)
      clear h2
      go_enter Tryd.func32, Tryd.ntmps32
      go_wp2
      go_ret
      exact ⟨by rw [HF.out]; rfl, rfl⟩
theorem fit_K (w : World) (s : Tx) : Calls Tryd.prog 33 #[ks s] w (Ret fun v w' => v = .bool (fitB s) ∧ w = w') := by
  unfold ks
  rcases Nat.eq_zero_or_pos s.length with h0 | h0
  · obtain rfl : s = [] := List.eq_nil_of_length_eq_zero h0
    go_enter Tryd.func33, Tryd.ntmps33
    go_wp2
    go_ret
    exact ⟨rfl, rfl⟩
  · have hne : (s == []) = false := by cases s with
      | nil => simp at h0
      | cons a s => rfl
    have hne' : decide (1 ≤ s.length) = true := decide_eq_true h0
    by_cases h2 : s.length ≤ 200
    · have h2' : decide ((s.length : Int) ≤ 200) = true := decide_eq_true (by omega)
      have HF := Lib.hid (show fitB s = true from decide_eq_true ⟨h0, h2⟩)
      clear h2
      go_enter Tryd.func33, Tryd.ntmps33
      go_wp2
      go_ret
      exact ⟨by rw [HF.out]; rfl, rfl⟩
    · have h2' : decide ((s.length : Int) ≤ 200) = false := decide_eq_false (by omega)
      have HF := Lib.hid (show fitB s = false from decide_eq_false fun h => h2 h.2)
      clear h2
      go_enter Tryd.func33, Tryd.ntmps33
      go_wp2
      go_ret
      exact ⟨by rw [HF.out]; rfl, rfl⟩
theorem made_nil (w : World) : Calls Tryd.prog 36 #[.pointer none] w (Ret fun v w' => v = .bool false ∧ w = w') := by
  go_enter Tryd.func36, Tryd.ntmps36
  go_wp2
  go_ret
  exact ⟨rfl, rfl⟩
theorem made_some (w : World) (q : Nat) (c : Int) (h : w.cell? ⟨q, 0, none⟩ = some (.int .i64 c)) (b : Bool) (hb : decide (0 < c) = b) : Calls Tryd.prog 36 #[(.pointer (some ⟨q, 0, none⟩))] w (Ret fun v w' => v = .bool b ∧ w = w') := by
  go_enter Tryd.func36, Tryd.ntmps36
  go_wp2
  go_ret
  exact ⟨rfl, rfl⟩
theorem nan1_K (w : World) (s : Tx) : Calls Tryd.prog 56 #[ks s] w (Ret fun v w' => v = .bool false ∧ w = w') := by
  have hs : (s == s) = true := by simp
  unfold ks
  go_enter Tryd.func56, Tryd.ntmps56
  go_wp2
  go_ret
  exact ⟨rfl, rfl⟩
theorem nan2_K (w : World) (s : Tx) : Calls Tryd.prog 68 #[ks s] w (Ret fun v w' => v = .bool false ∧ w = w') := by
  have hs : (s == s) = true := by simp
  unfold ks
  go_enter Tryd.func68, Tryd.ntmps68
  go_wp2
  go_ret
  exact ⟨rfl, rfl⟩
theorem less_K (w : World) (a b : Tx) (r : Bool) (hr : ltT a b = r) : Calls Tryd.prog 55 #[ks a, ks b] w (Ret fun v w' => v = .bool r ∧ w = w') := by
  have hn := fun w => nan2_K w a
  have hl : Op.bytesLess a b = r := (bytesLess_lt a b).trans hr
  clear hr
  have Hhn := Lib.hid hn
  clear hn
  unfold ks at *
  go_enter Tryd.func55, Tryd.ntmps55
  go_wp2_with (first | (go_at_call 68; (refine ret_use (Hhn.out _) ?_; rintro v w2 ⟨rfl, rfl⟩)) | ((with_reducible refine wp_region_por ?_ ?_ ?_ ?_); kernel_rfl; kernel_rfl; (with_reducible repeat (first | exact calm_ret | refine calm_then ?_ | refine calm_in ?_ | refine calm_chk ?_ | refine calm_noGoto ?_))) | ((with_reducible refine chk_end ?_ ?_); kernel_rfl))
  go_ret
  exact ⟨rfl, rfl⟩
end Go.Proofs.YtilkepmmkhmghaaDoor
