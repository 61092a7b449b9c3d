/- Package ring: the hashes, walked. -/
import Derived.Test.YtilkepmmkhmghaaDoorBase2
import Derived.Test.YtilkepmmkhmghaaDoorPor4
import Derived.Test.YtilkepmmkhmghaaDoorProg
import Derived.Test.YtilkepmmkhmghaaDoorHash
import Derived.Deep.LoopGhost
import Derived.Lib.Hide
import Derived.Deep.QuietTactic
import Derived.BigQuiet
namespace Go.Proofs.YtilkepmmkhmghaaDoor
open Go.RowKit Go.Tum
set_option maxRecDepth 100000
def ks (k : List UInt8) : Value := .string ⟨k.toArray⟩
abbrev s64 := stepN 18446744073709551616 1099511628211
abbrev s32 := stepN 4294967296 16777619
theorem int_eq {k : IntKind} {a b : Int} (h : a = b) : Value.int k a = Value.int k b := by rw [h]
theorem hash64_K (w : World) (s : List UInt8) (hs : s.length ≤ maxLen) : Calls Tryd.prog 20 #[ks s] w (Ret fun v w' => v = .int .u64 ((fnv64 s : Nat) : Int) ∧ w = w') := by
  unfold maxLen at hs
  unfold ks
  go_enter Tryd.func20, Tryd.ntmps20
  go_wp2
  go_loopg [3, 7] s.length (fun k v3 v7 wr => ∃ (i : Nat), v7 = .int .i64 i ∧ v3 = .int .u64 (((s.take i).foldl s64 14695981039346656037 : Nat) : Int) ∧ i ≤ s.length ∧ k + i = s.length ∧ w = wr)
  case atStart => exact ⟨0, rfl, rfl, Nat.zero_le _, rfl, rfl⟩
  case round =>
    obtain ⟨i, rfl, rfl, hi, hki, rfl⟩ := hrel
    have hlt : (s.take i).foldl s64 14695981039346656037 < 18446744073709551616 := fold_lt (by decide) _ _ (by decide)
    rcases Nat.lt_or_ge i s.length with hl | hl
    · have hf := Lib.hid (fold_next (f := s64) (a := 14695981039346656037) hl)
      generalize (s.take i).foldl s64 14695981039346656037 = h at hf hlt ⊢
      have hst := Lib.hid (step64_nat hlt s[i] 1099511628211)
      have hlt' := Lib.hid hlt
      clear hlt
      go_wp2
      go_roundg (gk - 1)
      case rel => exact ⟨i + 1, by go_num, by rw [hf.out]; exact int_eq hst.out, hl, by omega, rfl⟩
      case measure => omega
    · obtain rfl : i = s.length := by omega
      have hf := Lib.hid (show (s.take s.length).foldl s64 14695981039346656037 = fnv64 s by rw [List.take_length]; rfl)
      generalize (s.take s.length).foldl s64 14695981039346656037 = h at hf hlt ⊢
      go_wp2
      go_ret
      exact ⟨by rw [← hf.out]; rfl, rfl⟩
theorem rhash64_K (w : World) (s : List UInt8) (hs : s.length ≤ maxLen) : Calls Tryd.prog 24 #[ks s] w (Ret fun v w' => v = .int .u64 ((fnv64 s : Nat) : Int) ∧ w = w') := by
  unfold maxLen at hs
  unfold ks
  go_enter Tryd.func24, Tryd.ntmps24
  go_wp2
  go_loopg [3, 4] s.length (fun k v3 v4 wr => ∃ (i : Nat), v4 = .int .i64 i ∧ v3 = .int .u64 (((s.take i).foldl s64 14695981039346656037 : Nat) : Int) ∧ i ≤ s.length ∧ k + i = s.length ∧ w = wr)
  case atStart => exact ⟨0, rfl, rfl, Nat.zero_le _, rfl, rfl⟩
  case round =>
    obtain ⟨i, rfl, rfl, hi, hki, rfl⟩ := hrel
    have hlt : (s.take i).foldl s64 14695981039346656037 < 18446744073709551616 := fold_lt (by decide) _ _ (by decide)
    rcases Nat.lt_or_ge i s.length with hl | hl
    · have hf := Lib.hid (fold_next (f := s64) (a := 14695981039346656037) hl)
      generalize (s.take i).foldl s64 14695981039346656037 = h at hf hlt ⊢
      have hst := Lib.hid (step64_nat hlt s[i] 1099511628211)
      have hlt' := Lib.hid hlt
      clear hlt
      go_wp2
      go_roundg (gk - 1)
      case rel => exact ⟨i + 1, by go_num, by rw [hf.out]; exact int_eq hst.out, hl, by omega, rfl⟩
      case measure => omega
    · obtain rfl : i = s.length := by omega
      have hf := Lib.hid (show (s.take s.length).foldl s64 14695981039346656037 = fnv64 s by rw [List.take_length]; rfl)
      generalize (s.take s.length).foldl s64 14695981039346656037 = h at hf hlt ⊢
      go_wp2
      go_ret
      exact ⟨by rw [← hf.out]; rfl, rfl⟩
theorem hash32_K (w : World) (s : List UInt8) (hs : s.length ≤ maxLen) : Calls Tryd.prog 19 #[ks s] w (Ret fun v w' => v = .int .u32 ((fnv32 s : Nat) : Int) ∧ w = w') := by
  unfold maxLen at hs
  unfold ks
  go_enter Tryd.func19, Tryd.ntmps19
  go_wp2
  go_loopg [3, 7] s.length (fun k v3 v7 wr => ∃ (i : Nat), v7 = .int .i64 i ∧ v3 = .int .u32 (((s.take i).foldl s32 2166136261 : Nat) : Int) ∧ i ≤ s.length ∧ k + i = s.length ∧ w = wr)
  case atStart => exact ⟨0, rfl, rfl, Nat.zero_le _, rfl, rfl⟩
  case round =>
    obtain ⟨i, rfl, rfl, hi, hki, rfl⟩ := hrel
    have hlt : (s.take i).foldl s32 2166136261 < 4294967296 := fold_lt (by decide) _ _ (by decide)
    rcases Nat.lt_or_ge i s.length with hl | hl
    · have hf := Lib.hid (fold_next (f := s32) (a := 2166136261) hl)
      generalize (s.take i).foldl s32 2166136261 = h at hf hlt ⊢
      have hst := Lib.hid (step32_nat hlt s[i] 16777619)
      have hlt' := Lib.hid hlt
      clear hlt
      go_wp2
      go_roundg (gk - 1)
      case rel => exact ⟨i + 1, by go_num, by rw [hf.out]; exact int_eq hst.out, hl, by omega, rfl⟩
      case measure => omega
    · obtain rfl : i = s.length := by omega
      have hf := Lib.hid (show (s.take s.length).foldl s32 2166136261 = fnv32 s by rw [List.take_length]; rfl)
      generalize (s.take s.length).foldl s32 2166136261 = h at hf hlt ⊢
      go_wp2
      go_ret
      exact ⟨by rw [← hf.out]; rfl, rfl⟩
theorem rhash32_K (w : World) (s : List UInt8) (hs : s.length ≤ maxLen) : Calls Tryd.prog 23 #[ks s] w (Ret fun v w' => v = .int .u32 ((fnv32 s : Nat) : Int) ∧ w = w') := by
  unfold maxLen at hs
  unfold ks
  go_enter Tryd.func23, Tryd.ntmps23
  go_wp2
  go_loopg [3, 4] s.length (fun k v3 v4 wr => ∃ (i : Nat), v4 = .int .i64 i ∧ v3 = .int .u64 (((s.take i).foldl s32 2166136261 : Nat) : Int) ∧ i ≤ s.length ∧ k + i = s.length ∧ w = wr)
  case atStart => exact ⟨0, rfl, rfl, Nat.zero_le _, rfl, rfl⟩
  case round =>
    obtain ⟨i, rfl, rfl, hi, hki, rfl⟩ := hrel
    have hlt : (s.take i).foldl s32 2166136261 < 4294967296 := fold_lt (by decide) _ _ (by decide)
    rcases Nat.lt_or_ge i s.length with hl | hl
    · have hf := Lib.hid (fold_next (f := s32) (a := 2166136261) hl)
      generalize (s.take i).foldl s32 2166136261 = h at hf hlt ⊢
      have hst := Lib.hid (stepR_nat hlt s[i] )
      have hlt' := Lib.hid hlt
      clear hlt
      go_wp2
      go_roundg (gk - 1)
      case rel => exact ⟨i + 1, by go_num, by rw [hf.out]; exact int_eq hst.out, hl, by omega, rfl⟩
      case measure => omega
    · obtain rfl : i = s.length := by omega
      have hf := Lib.hid (show (s.take s.length).foldl s32 2166136261 = fnv32 s by rw [List.take_length]; rfl)
      generalize (s.take s.length).foldl s32 2166136261 = h at hf hlt ⊢
      go_wp2
      go_ret
      exact ⟨by rw [← hf.out]; exact int_eq (by omega), rfl⟩
end Go.Proofs.YtilkepmmkhmghaaDoor
