/- Texts of one part together. -/
import Derived.Test.YtcifajfmdpjfiaaDoorMBs
import Derived.Test.YtcifajfmdpjfiaaDoorProg
import Derived.Test.YtcifajfmdpjfiaaDoorMPl
import Derived.Deep.LoopGhost
import Derived.Lib.Hide
import Derived.Deep.QuietTactic
import Derived.BigQuiet
import Derived.Shelf.Pu.Clone
import Derived.Laws.StructEq
import Derived.Lib.Bytealg
import Derived.Sort.OwnSorted
/- Package ring: the hashes, walked. -/
namespace Go.Proofs.YtcifajfmdpjfiaaDoor
open Go.RowKit Go.Tum
set_option maxRecDepth 100000
def ks (k : List UInt8) : Value := .string ⟨k.toArray⟩
abbrev s64 := stepN 18446744073709551616 1099511628211
abbrev s32 := stepN 4294967296 16777619
theorem int_eq {k : IntKind} {a b : Int} (h : a = b) : Value.int k a = Value.int k b := by rw [h]
theorem hash64_K (w : World) (s : List UInt8) (hs : s.length ≤ maxLen) : Calls Tryd.prog 46 #[ks s] w (Ret fun v w' => v = .int .u64 ((fnv64 s : Nat) : Int) ∧ w = w') := by
  unfold maxLen at hs
  unfold ks
  go_enter Tryd.func46, Tryd.ntmps46
  go_wp2
  go_loopg [3, 7] s.length (fun k v3 v7 wr => ∃ (i : Nat), v7 = .int .i64 i ∧ v3 = .int .u64 (((s.take i).foldl s64 14695981039346656037 : Nat) : Int) ∧ i ≤ s.length ∧ k + i = s.length ∧ w = wr)
  case atStart => exact ⟨0, rfl, rfl, Nat.zero_le _, rfl, rfl⟩
  case round =>
    obtain ⟨i, rfl, rfl, hi, hki, rfl⟩ := hrel
    have hlt : (s.take i).foldl s64 14695981039346656037 < 18446744073709551616 := fold_lt (by decide) _ _ (by decide)
    rcases Nat.lt_or_ge i s.length with hl | hl
    · have hf := Lib.hid (fold_next (f := s64) (a := 14695981039346656037) hl)
      generalize (s.take i).foldl s64 14695981039346656037 = h at hf hlt ⊢
      have hst := Lib.hid (step64_nat hlt s[i] 1099511628211)
      have hlt' := Lib.hid hlt
      clear hlt
      go_wp2
      go_roundg (gk - 1)
      case rel => exact ⟨i + 1, by go_num, by rw [hf.out]; exact int_eq hst.out, hl, by omega, rfl⟩
      case measure => omega
    · obtain rfl : i = s.length := by omega
      have hf := Lib.hid (show (s.take s.length).foldl s64 14695981039346656037 = fnv64 s by rw [List.take_length]; rfl)
      generalize (s.take s.length).foldl s64 14695981039346656037 = h at hf hlt ⊢
      go_wp2
      go_ret
      exact ⟨by rw [← hf.out]; rfl, rfl⟩
theorem rhash64_K (w : World) (s : List UInt8) (hs : s.length ≤ maxLen) : Calls Tryd.prog 51 #[ks s] w (Ret fun v w' => v = .int .u64 ((fnv64 s : Nat) : Int) ∧ w = w') := by
  unfold maxLen at hs
  unfold ks
  go_enter Tryd.func51, Tryd.ntmps51
  go_wp2
  go_loopg [3, 4] s.length (fun k v3 v4 wr => ∃ (i : Nat), v4 = .int .i64 i ∧ v3 = .int .u64 (((s.take i).foldl s64 14695981039346656037 : Nat) : Int) ∧ i ≤ s.length ∧ k + i = s.length ∧ w = wr)
  case atStart => exact ⟨0, rfl, rfl, Nat.zero_le _, rfl, rfl⟩
  case round =>
    obtain ⟨i, rfl, rfl, hi, hki, rfl⟩ := hrel
    have hlt : (s.take i).foldl s64 14695981039346656037 < 18446744073709551616 := fold_lt (by decide) _ _ (by decide)
    rcases Nat.lt_or_ge i s.length with hl | hl
    · have hf := Lib.hid (fold_next (f := s64) (a := 14695981039346656037) hl)
      generalize (s.take i).foldl s64 14695981039346656037 = h at hf hlt ⊢
      have hst := Lib.hid (step64_nat hlt s[i] 1099511628211)
      have hlt' := Lib.hid hlt
      clear hlt
      go_wp2
      go_roundg (gk - 1)
      case rel => exact ⟨i + 1, by go_num, by rw [hf.out]; exact int_eq hst.out, hl, by omega, rfl⟩
      case measure => omega
    · obtain rfl : i = s.length := by omega
      have hf := Lib.hid (show (s.take s.length).foldl s64 14695981039346656037 = fnv64 s by rw [List.take_length]; rfl)
      generalize (s.take s.length).foldl s64 14695981039346656037 = h at hf hlt ⊢
      go_wp2
      go_ret
      exact ⟨by rw [← hf.out]; rfl, rfl⟩
end Go.Proofs.YtcifajfmdpjfiaaDoor

/- Package ring: small functions. -/
namespace Go.Proofs.YtcifajfmdpjfiaaDoor
open Go.RowKit Go.Tum Go.Lib
set_option maxRecDepth 100000
def shardV (s : List UInt8) (n : Int) : Int := if n < 1 ∨ 16 < n then 0 else (fnv32 s : Int) % n
/-- May a text be a node? -/
def fitB (s : Tx) : Bool := decide (1 ≤ s.length ∧ s.length ≤ 200)
theorem node_K (w : World) (s : Tx) : Calls Tryd.prog 39 #[ks s] w (Ret fun v w' => v = .bool (fitB s) ∧ w = w') := by
  unfold ks
  rcases Nat.eq_zero_or_pos s.length with h0 | h0
  · obtain rfl : s = [] := List.eq_nil_of_length_eq_zero h0
    go_enter Tryd.func39, Tryd.ntmps39
    go_wp2
    go_ret
    exact ⟨rfl, rfl⟩
  · have hne : (s == []) = false := by cases s with
      | nil => simp at h0
      | cons a s => rfl
    have hne' : decide (1 ≤ s.length) = true := decide_eq_true h0
    by_cases h2 : s.length ≤ 200
    · have h2' : decide ((s.length : Int) ≤ 200) = true := decide_eq_true (by omega)
      have HF := Lib.hid (show fitB s = true from decide_eq_true ⟨h0, h2⟩)
      clear h2
      go_enter Tryd.func39, Tryd.ntmps39
      go_wp2
      go_ret
      exact ⟨by rw [HF.out]; rfl, rfl⟩
    · have h2' : decide ((s.length : Int) ≤ 200) = false := decide_eq_false (by omega)
      have HF := Lib.hid (show fitB s = false from decide_eq_false fun h => h2 h.2)
      clear h2
      go_enter Tryd.func39, Tryd.ntmps39
      go_wp2
      go_ret
      exact ⟨by rw [HF.out]; rfl, rfl⟩
theorem fit_K (w : World) (s : Tx) : Calls Tryd.prog 42 #[ks s] w (Ret fun v w' => v = .bool (fitB s) ∧ w = w') := by
  unfold ks
  rcases Nat.eq_zero_or_pos s.length with h0 | h0
  · obtain rfl : s = [] := List.eq_nil_of_length_eq_zero h0
    go_enter Tryd.func42, Tryd.ntmps42
    go_wp2
    go_ret
    exact ⟨rfl, rfl⟩
  · have hne : (s == []) = false := by cases s with
      | nil => simp at h0
      | cons a s => rfl
    have hne' : decide (1 ≤ s.length) = true := decide_eq_true h0
    by_cases h2 : s.length ≤ 200
    · have h2' : decide ((s.length : Int) ≤ 200) = true := decide_eq_true (by omega)
      have HF := Lib.hid (show fitB s = true from decide_eq_true ⟨h0, h2⟩)
      clear h2
      go_enter Tryd.func42, Tryd.ntmps42
      go_wp2
      go_ret
      exact ⟨by rw [HF.out]; rfl, rfl⟩
    · have h2' : decide ((s.length : Int) ≤ 200) = false := decide_eq_false (by omega)
      have HF := Lib.hid (show fitB s = false from decide_eq_false fun h => h2 h.2)
      clear h2
      go_enter Tryd.func42, Tryd.ntmps42
      go_wp2
      go_ret
      exact ⟨by rw [HF.out]; rfl, rfl⟩
theorem made_nil (w : World) : Calls Tryd.prog 41 #[.pointer none] w (Ret fun v w' => v = .bool false ∧ w = w') := by
  go_enter Tryd.func41, Tryd.ntmps41
  go_wp2
  go_ret
  exact ⟨rfl, rfl⟩
theorem made_some (w : World) (q : Nat) (c : Int) (h : w.cell? ⟨q, 0, none⟩ = some (.int .i64 c)) (b : Bool) (hb : decide (0 < c) = b) : Calls Tryd.prog 41 #[(.pointer (some ⟨q, 0, none⟩))] w (Ret fun v w' => v = .bool b ∧ w = w') := by
  go_enter Tryd.func41, Tryd.ntmps41
  go_wp2
  go_ret
  exact ⟨rfl, rfl⟩
theorem nan1_K (w : World) (s : Tx) : Calls Tryd.prog 62 #[ks s] w (Ret fun v w' => v = .bool false ∧ w = w') := by
  have hs : (s == s) = true := by simp
  unfold ks
  go_enter Tryd.func62, Tryd.ntmps62
  go_wp2
  go_ret
  exact ⟨rfl, rfl⟩
theorem nan2_K (w : World) (s : Tx) : Calls Tryd.prog 73 #[ks s] w (Ret fun v w' => v = .bool false ∧ w = w') := by
  have hs : (s == s) = true := by simp
  unfold ks
  go_enter Tryd.func73, Tryd.ntmps73
  go_wp2
  go_ret
  exact ⟨rfl, rfl⟩
theorem less_K (w : World) (a b : Tx) (r : Bool) (hr : ltT a b = r) : Calls Tryd.prog 61 #[ks a, ks b] w (Ret fun v w' => v = .bool r ∧ w = w') := by
  have hn := fun w => nan2_K w a
  have hl : Op.bytesLess a b = r := (bytesLess_lt a b).trans hr
  clear hr
  have Hhn := Lib.hid hn
  clear hn
  unfold ks at *
  go_enter Tryd.func61, Tryd.ntmps61
  go_wp2_with (first | (go_at_call 73; (refine ret_use (Hhn.out _) ?_; rintro v w2 ⟨rfl, rfl⟩)) | ((with_reducible refine wp_region_por ?_ ?_ ?_ ?_); kernel_rfl; kernel_rfl; (with_reducible repeat (first | exact calm_ret | refine calm_then ?_ | refine calm_in ?_ | refine calm_chk ?_ | refine calm_noGoto ?_))) | ((with_reducible refine chk_end ?_ ?_); kernel_rfl))
  go_ret
  exact ⟨rfl, rfl⟩
end Go.Proofs.YtcifajfmdpjfiaaDoor

/- Package ring: order of places, lists held against lists. -/
namespace Go.Proofs.YtcifajfmdpjfiaaDoor
open Go.RowKit Go.Tum Go.Lib Go.Sort
set_option maxRecDepth 100000
def pl (p : Plc) : List Value := [.int .u64 (p.1 : Int), ks p.2]
theorem pl_len (p : Plc) : (pl p).length = 2 := rfl
def plcs (l : List Plc) : List Value := l.flatMap pl
theorem plcs_length (l : List Plc) : (plcs l).length = l.length * 2 := flatMap_len pl_len l
theorem pl_one (p : Plc) : ∀ u ∈ pl p, u.oneCell' = true := by
  intro u hu
  rcases List.mem_cons.1 hu with rfl | hu
  · rfl
  · rcases List.mem_cons.1 hu with rfl | hu
    · rfl
    · cases hu
theorem plcs_one (l : List Plc) : ∀ u ∈ plcs l, u.oneCell' = true := by
  intro u hu
  obtain ⟨p, _, hp⟩ := List.mem_flatMap.1 hu
  exact pl_one p u hp
theorem txs_one (l : List Tx) : ∀ u ∈ l.map ks, u.oneCell' = true := by
  intro u hu
  obtain ⟨p, _, rfl⟩ := List.mem_map.1 hu
  rfl
theorem natCast_lt (a b : Nat) : decide ((a : Int) < (b : Int)) = decide (a < b) := by simp
theorem eql_plc (w : World) (x y : Plc) : (binOp .eql 103 (.agg #[.int .u64 (x.1 : Int), ks x.2]) (.agg #[.int .u64 (y.1 : Int), ks y.2])).run Tryd.prog w = .ok (.bool (decide (x = y))) w := by
  have u1 := Tryd.underlying9
  have a1 := Tryd.isAgg9
  have z1 := Tryd.sizeOf9
  have u3 := Tryd.underlying41
  have a3 := Tryd.isAgg41
  have z3 := Tryd.sizeOf41
  have hS : Tryd.prog.underlying 103 = some (.struct (Tryd.prog.fieldsOf 103)) := by kernel_rfl
  have hp : Tryd.prog.stoodInHeld 103 = false := by kernel_rfl
  rw [run_eql_struct, show (10000 : Nat) = 9999 + 1 from rfl, run_equalIn_agg w 9999 103 _ _ hS hp]
  simp only [Program.fieldsOf, Tryd.underlying103]
  unfold ks
  go_simp
  obtain ⟨x1, x2⟩ := x
  obtain ⟨y1, y2⟩ := y
  by_cases h1 : x1 = y1 <;> by_cases h2 : x2 = y2 <;> simp [h1, h2] <;> omega
theorem neq_plc (w : World) (x y : Plc) : (binOp .neq 103 (.agg #[.int .u64 (x.1 : Int), ks x.2]) (.agg #[.int .u64 (y.1 : Int), ks y.2])).run Tryd.prog w = .ok (.bool (decide (x ≠ y))) w := by
  have u1 := Tryd.underlying9
  have a1 := Tryd.isAgg9
  have z1 := Tryd.sizeOf9
  have u3 := Tryd.underlying41
  have a3 := Tryd.isAgg41
  have z3 := Tryd.sizeOf41
  have hS : Tryd.prog.underlying 103 = some (.struct (Tryd.prog.fieldsOf 103)) := by kernel_rfl
  have hp : Tryd.prog.stoodInHeld 103 = false := by kernel_rfl
  rw [run_neq_struct, show (10000 : Nat) = 9999 + 1 from rfl, run_equalIn_agg w 9999 103 _ _ hS hp]
  simp only [Program.fieldsOf, Tryd.underlying103]
  unfold ks
  go_simp
  obtain ⟨x1, x2⟩ := x
  obtain ⟨y1, y2⟩ := y
  by_cases h1 : x1 = y1 <;> by_cases h2 : x2 = y2 <;> simp [h1, h2] <;> omega
theorem run_cmp (a b : ByteArray) (w : World) : (callFunc 98 #[.string a, .string b]).run Tryd.prog w = .ok (.value (.int .i64 (Lib.compareBytes a.data.toList b.data.toList))) w := by
  rw [run_callFunc_extern Tryd.func98 (by kernel_rfl) (by kernel_rfl) (by kernel_rfl) (e := Extern.BytealgCompare.compare) (by kernel_rfl), Lib.run_compareString]
  rfl
theorem compare_K (w : World) (a b : ByteArray) : Calls Tryd.prog 69 #[.string a, .string b] w (Ret fun v w' => v = .int .i64 (Lib.compareBytes a.data.toList b.data.toList) ∧ w = w') := by
  have hx := fun (w : World) => run_cmp a b w
  go_enter Tryd.func69, Tryd.ntmps69
  go_wp2
  go_ret
  exact ⟨rfl, rfl⟩
theorem order_G (w : World) (a b : Plc) : Calls Tryd.prog 57 #[.agg #[.int .u64 (a.1 : Int), ks a.2], .agg #[.int .u64 (b.1 : Int), ks b.2]] w (Ret fun v w' => v = .int .i64 (cmpP a b) ∧ Gr w w') := by
  have hc := fun (w : World) => compare_K w ⟨a.2.toArray⟩ ⟨b.2.toArray⟩
  have hq := fun (w : World) => eql_plc w a b
  by_cases h0 : a = b
  · have He := Lib.hid (show cmpP a b = 0 from if_pos h0)
    simp only [decide_eq_true h0] at hq
    clear h0
    unfold ks at *
    go_enter Tryd.func57, Tryd.ntmps57
    go_wp2_with (first | ((with_reducible refine wp_region_por ?_ ?_ ?_ ?_); kernel_rfl; kernel_rfl; (with_reducible repeat (first | exact calm_ret | refine calm_then ?_ | refine calm_in ?_ | refine calm_chk ?_ | refine calm_noGoto ?_))) | ((with_reducible refine chk_end ?_ ?_); kernel_rfl))
    go_ret
    exact ⟨by rw [He.out]; rfl, by repeat (first | exact Gr.refl _ | apply Gr.drew | apply Gr.alloc)⟩
  · simp only [decide_eq_false h0] at hq
    by_cases h1 : a.1 < b.1
    · have h1' : decide (a.1 < b.1) = true := decide_eq_true h1
      have He := Lib.hid (show cmpP a b = -1 from (if_neg h0).trans (if_pos h1))
      clear h0 h1
      unfold ks at *
      go_enter Tryd.func57, Tryd.ntmps57
      go_wp2_with (first | ((with_reducible refine wp_region_por ?_ ?_ ?_ ?_); kernel_rfl; kernel_rfl; (with_reducible repeat (first | exact calm_ret | refine calm_then ?_ | refine calm_in ?_ | refine calm_chk ?_ | refine calm_noGoto ?_))) | ((with_reducible refine chk_end ?_ ?_); kernel_rfl))
      go_ret
      exact ⟨by rw [He.out]; rfl, by repeat (first | exact Gr.refl _ | apply Gr.drew | apply Gr.alloc)⟩
    · have h1' : decide (a.1 < b.1) = false := decide_eq_false h1
      by_cases h2 : b.1 < a.1
      · have h2' : decide (b.1 < a.1) = true := decide_eq_true h2
        have He := Lib.hid (show cmpP a b = 1 from (if_neg h0).trans ((if_neg h1).trans (if_pos h2)))
        clear h0 h1 h2
        unfold ks at *
        go_enter Tryd.func57, Tryd.ntmps57
        go_wp2_with (first | ((with_reducible refine wp_region_por ?_ ?_ ?_ ?_); kernel_rfl; kernel_rfl; (with_reducible repeat (first | exact calm_ret | refine calm_then ?_ | refine calm_in ?_ | refine calm_chk ?_ | refine calm_noGoto ?_))) | ((with_reducible refine chk_end ?_ ?_); kernel_rfl))
        go_ret
        exact ⟨by rw [He.out]; rfl, by repeat (first | exact Gr.refl _ | apply Gr.drew | apply Gr.alloc)⟩
      · have h2' : decide (b.1 < a.1) = false := decide_eq_false h2
        have He := Lib.hid (show cmpP a b = compareBytes a.2 b.2 from (if_neg h0).trans ((if_neg h1).trans (if_neg h2)))
        clear h0 h1 h2
        unfold ks at *
        go_enter Tryd.func57, Tryd.ntmps57
        go_wp2_with (first | (go_at_call 69; (refine ret_use (hc _) ?_; rintro v _ ⟨rfl, rfl⟩)) | ((with_reducible refine wp_region_por ?_ ?_ ?_ ?_); kernel_rfl; kernel_rfl; (with_reducible repeat (first | exact calm_ret | refine calm_then ?_ | refine calm_in ?_ | refine calm_chk ?_ | refine calm_noGoto ?_))) | ((with_reducible refine chk_end ?_ ?_); kernel_rfl))
        go_ret
        exact ⟨by rw [He.out]; rfl, by repeat (first | exact Gr.refl _ | apply Gr.drew | apply Gr.alloc)⟩
theorem before_K (w : World) (a b : Plc) (r : Bool) (hr : ltP a b = r) : Calls Tryd.prog 60 #[.agg #[.int .u64 (a.1 : Int), ks a.2], .agg #[.int .u64 (b.1 : Int), ks b.2]] w (Ret fun v w' => v = .bool r ∧ Mods No w w') := by
  have hl : Op.bytesLess a.2 b.2 = ltT a.2 b.2 := bytesLess_lt a.2 b.2
  have He := Lib.hid hr
  clear hr
  unfold ks at *
  by_cases h1 : a.1 < b.1
  · have h1' : decide (a.1 < b.1) = true := decide_eq_true h1
    have Hq := Lib.hid (show ltP a b = true from decide_eq_true (.inl h1))
    clear h1
    go_enter Tryd.func60, Tryd.ntmps60
    go_wp2_with (first | ((with_reducible refine wp_region_por ?_ ?_ ?_ ?_); kernel_rfl; kernel_rfl; (with_reducible repeat (first | exact calm_ret | refine calm_then ?_ | refine calm_in ?_ | refine calm_chk ?_ | refine calm_noGoto ?_))) | ((with_reducible refine chk_end ?_ ?_); kernel_rfl))
    go_ret
    exact ⟨by rw [← He.out, Hq.out]; rfl, by repeat (first | exact Mods.refl _ _ | apply Mods.drew | apply Mods.alloc)⟩
  · have h1' : decide (a.1 < b.1) = false := decide_eq_false h1
    by_cases h2 : a.1 = b.1
    · have h2' : ((a.1 : Int) == (b.1 : Int)) = true := by simp [h2]
      have Hq := Lib.hid (show ltP a b = ltT a.2 b.2 by simp [ltP, ltT, h2])
      clear h1 h2
      go_enter Tryd.func60, Tryd.ntmps60
      go_wp2_with (first | ((with_reducible refine wp_region_por ?_ ?_ ?_ ?_); kernel_rfl; kernel_rfl; (with_reducible repeat (first | exact calm_ret | refine calm_then ?_ | refine calm_in ?_ | refine calm_chk ?_ | refine calm_noGoto ?_))) | ((with_reducible refine chk_end ?_ ?_); kernel_rfl))
      go_ret
      exact ⟨by rw [← He.out, Hq.out]; rfl, by repeat (first | exact Mods.refl _ _ | apply Mods.drew | apply Mods.alloc)⟩
    · have h2' : ((a.1 : Int) == (b.1 : Int)) = false := by simp; omega
      have Hq := Lib.hid (show ltP a b = false from decide_eq_false (by omega))
      clear h1 h2
      go_enter Tryd.func60, Tryd.ntmps60
      go_wp2_with (first | ((with_reducible refine wp_region_por ?_ ?_ ?_ ?_); kernel_rfl; kernel_rfl; (with_reducible repeat (first | exact calm_ret | refine calm_then ?_ | refine calm_in ?_ | refine calm_chk ?_ | refine calm_noGoto ?_))) | ((with_reducible refine chk_end ?_ ?_); kernel_rfl))
      go_ret
      exact ⟨by rw [← He.out, Hq.out]; rfl, by repeat (first | exact Mods.refl _ _ | apply Mods.drew | apply Mods.alloc)⟩
theorem lt_get {α : Type} {l : List α} {i : Nat} (h : i < l.length) : ∃ x, l[i]? = some x := ⟨_, List.getElem?_eq_getElem h⟩
theorem take_nx {α : Type} {l : List α} {i : Nat} {x : α} (h : l[i]? = some x) : l.take (i + 1) = l.take i ++ [x] := by rw [List.take_add_one, h]; rfl
/-- Element i of a slice of texts. -/
theorem _root_.Go.Tum.Rd.tx {w : World} {F : Nat → Prop} {A : Option Addr} {c n : Nat} {l : List Tx} (h : Rd w F 1 (.slice A n c) n (l.map ks)) (hn : l.length = n) {i : Nat} {x : Tx} (hx : l[i]? = some x) :
    ∃ b off, A = some ⟨b, off, none⟩ ∧ F b ∧ w.cell? ⟨b, off + i, none⟩ = some (ks x) := by
  subst hn
  obtain ⟨hi, _⟩ := List.getElem?_eq_some_iff.1 hx
  obtain ⟨b, off, c', e, hF, hc⟩ := h.cells (by omega)
  injection e with e
  refine ⟨b, off, e, hF, ?_⟩
  rw [hc _ (by omega), List.getElem?_map, hx]; rfl
/-- Element i of a slice of places. -/
theorem _root_.Go.Tum.Rd.plc {w : World} {F : Nat → Prop} {A : Option Addr} {c n : Nat} {l : List Plc} (h : Rd w F 2 (.slice A n c) n (plcs l)) (hn : l.length = n) {i : Nat} {x : Plc} (hx : l[i]? = some x) :
    ∃ b off, A = some ⟨b, off, none⟩ ∧ F b ∧ w.cell? ⟨b, off + i * 2, none⟩ = some (.int .u64 (x.1 : Int)) ∧ w.cell? ⟨b, off + i * 2 + 1, none⟩ = some (ks x.2) := by
  subst hn
  obtain ⟨hi, _⟩ := List.getElem?_eq_some_iff.1 hx
  obtain ⟨b, off, c', e, hF, hc⟩ := h.cells (by omega)
  injection e with e
  have h2 := fun r hr => flatMap_get (enc := pl) (k := 2) pl_len l i r hr
  rw [hx] at h2
  refine ⟨b, off, e, hF, ?_, ?_⟩
  · rw [hc _ (by omega)]; exact h2 0 (by decide)
  · rw [Nat.add_assoc, hc _ (by omega)]; exact h2 1 (by decide)
theorem take_ne {α : Type} {a b : List α} {i : Nat} {x y : α} (hx : a[i]? = some x) (hy : b[i]? = some y) (h : x ≠ y) : a ≠ b := fun e => h (by rw [e, hy] at hx; injection hx with hx; exact hx.symm)
end Go.Proofs.YtcifajfmdpjfiaaDoor

/- Package ring: searches in sorted texts. -/
namespace Go.Proofs.YtcifajfmdpjfiaaDoor
open Go.RowKit Go.Tum Go.Lib Go.Sort
set_option maxRecDepth 100000
set_option maxHeartbeats 1600000 in
theorem bsearch_K (w : World) (F : Nat → Prop) (v : Value) (N : List Tx) (t : Tx) (hr : Rd w F 1 v N.length (N.map ks)) (hs : N.length ≤ 65536) (hN : Strict ltT N) :
    Calls Tryd.prog 49 #[v, ks t] w (Ret fun v w' => v = .tuple #[.int .i64 (posT N t), .bool (decide (t ∈ N))] ∧ w = w') := by
  obtain ⟨A, c, rfl, hac, hac2⟩ := hr.form
  have hl := fun w a b r h => less_K w a b r h
  have hd := hN.down sto_T t
  have hnan := fun w s => nan1_K w s
  have Hhr := Lib.hid hr
  clear hr
  have Hhl := Lib.hid hl
  clear hl
  have Hhd := Lib.hid hd
  clear hd
  have HhN := Lib.hid hN
  clear hN
  have Hhnan := Lib.hid hnan
  clear hnan
  unfold ks at *
  go_enter Tryd.func49, Tryd.ntmps49
  go_wp2_with (first | ((with_reducible refine wp_region_por ?_ ?_ ?_ ?_); kernel_rfl; kernel_rfl; (with_reducible repeat (first | exact calm_ret | refine calm_then ?_ | refine calm_in ?_ | refine calm_chk ?_ | refine calm_noGoto ?_))) | ((with_reducible refine chk_end ?_ ?_); kernel_rfl))
  go_loopg [7, 8] N.length (fun k v7 v8 wr => ∃ i j : Nat, v7 = .int .i64 i ∧ v8 = .int .i64 j ∧ i ≤ j ∧ j ≤ N.length ∧ k = j - i ∧ (∀ y ∈ N.take i, ltT y t = true) ∧ (∀ y ∈ N.drop j, ltT y t = false) ∧ w = wr)
  case atStart => exact ⟨0, _, rfl, rfl, Nat.zero_le _, Nat.le_refl _, rfl, fun y hy => by simp at hy, fun y hy => by simp at hy, rfl⟩
  case round =>
    obtain ⟨i, j, rfl, rfl, hij, hj, hk, ha, hb, rfl⟩ := hrel
    have Hk := Lib.hid hk
    clear hk
    have Hha := Lib.hid ha
    clear ha
    have Hhb := Lib.hid hb
    clear hb
    rcases Nat.lt_or_ge i j with h1 | h1
    · obtain ⟨m, hm, hm1, hm2⟩ : ∃ m : Nat, ((i : Int) + (j : Int)) / 2 = (m : Int) ∧ i ≤ m ∧ m < j := ⟨(i + j) / 2, by omega, by omega, by omega⟩
      obtain ⟨x, hx⟩ := lt_get (l := N) (i := m) (by omega)
      obtain ⟨b, off, rfl, _, x0⟩ := Hhr.out.tx rfl hx
      have Hx := Lib.hid hx
      clear hx
      unfold ks at x0
      obtain ⟨r, hlt⟩ : ∃ r, ltT x t = r := ⟨_, rfl⟩
      have Hlt := Lib.hid hlt
      clear hlt
      cases r with
      | true =>
        go_wp2_with (first | (go_at_call 61; (refine ret_use (Hhl.out _ x t true Hlt.out) ?_; rintro v w2 ⟨rfl, rfl⟩)) | ((with_reducible refine wp_region_por ?_ ?_ ?_ ?_); kernel_rfl; kernel_rfl; (with_reducible repeat (first | exact calm_ret | refine calm_then ?_ | refine calm_in ?_ | refine calm_chk ?_ | refine calm_noGoto ?_))) | ((with_reducible refine chk_end ?_ ?_); kernel_rfl))
        go_roundg (j - (m + 1))
        case rel => exact ⟨m + 1, j, by go_num, rfl, by omega, hj, rfl, down_left Hhd.out Hx.out Hlt.out, Hhb.out, rfl⟩
        case measure => have := Hk.out; omega
      | false =>
        go_wp2_with (first | (go_at_call 61; (refine ret_use (Hhl.out _ x t false Hlt.out) ?_; rintro v w2 ⟨rfl, rfl⟩)) | ((with_reducible refine wp_region_por ?_ ?_ ?_ ?_); kernel_rfl; kernel_rfl; (with_reducible repeat (first | exact calm_ret | refine calm_then ?_ | refine calm_in ?_ | refine calm_chk ?_ | refine calm_noGoto ?_))) | ((with_reducible refine chk_end ?_ ?_); kernel_rfl))
        go_roundg (m - i)
        case rel => exact ⟨i, m, rfl, rfl, by omega, by omega, rfl, Hha.out, down_right Hhd.out Hx.out Hlt.out, rfl⟩
        case measure => have := Hk.out; omega
    · obtain rfl : i = j := by omega
      have HP := Lib.hid (show posT N t = i from down_len hj Hha.out Hhb.out)
      have hf := pos_found HhN.out Hha.out
      have Hhf := Lib.hid hf
      clear hf
      rcases Nat.lt_or_ge i N.length with h2 | h2
      · obtain ⟨x, hx⟩ := lt_get h2
        obtain ⟨b, off, rfl, _, x0⟩ := Hhr.out.tx rfl hx
        unfold ks at x0
        by_cases e : x = t
        · have hs' : (x == t) = true := by simp [e]
          have HM := Lib.hid (Hhf.out.1 ⟨x, hx, e⟩).1
          clear hx e
          go_wp2_with (first | ((with_reducible refine wp_region_por ?_ ?_ ?_ ?_); kernel_rfl; kernel_rfl; (with_reducible repeat (first | exact calm_ret | refine calm_then ?_ | refine calm_in ?_ | refine calm_chk ?_ | refine calm_noGoto ?_))) | ((with_reducible refine chk_end ?_ ?_); kernel_rfl))
          go_ret2
          exact ⟨by rw [HP.out, decide_eq_true HM.out]; rfl, rfl⟩
        · have hs' : (x == t) = false := by simp [e]
          have HM := Lib.hid (show ¬ t ∈ N from fun h => by
            obtain ⟨y, hy, e2⟩ := Hhf.out.2 ⟨h, Hhb.out⟩
            rw [hx] at hy; injection hy with hy; exact e (hy.trans e2))
          clear hx e
          go_wp2_with (first | (go_at_call 62; (refine ret_use (Hhnan.out _ _) ?_; rintro v w2 ⟨rfl, rfl⟩)) | ((with_reducible refine wp_region_por ?_ ?_ ?_ ?_); kernel_rfl; kernel_rfl; (with_reducible repeat (first | exact calm_ret | refine calm_then ?_ | refine calm_in ?_ | refine calm_chk ?_ | refine calm_noGoto ?_))) | ((with_reducible refine chk_end ?_ ?_); kernel_rfl))
          go_ret2
          exact ⟨by rw [HP.out, decide_eq_false HM.out]; rfl, rfl⟩
      · have HM := Lib.hid (show ¬ t ∈ N from fun h => by
          obtain ⟨y, hy, e2⟩ := Hhf.out.2 ⟨h, Hhb.out⟩
          rw [List.getElem?_eq_none h2] at hy; cases hy)
        go_wp2_with (first | ((with_reducible refine wp_region_por ?_ ?_ ?_ ?_); kernel_rfl; kernel_rfl; (with_reducible repeat (first | exact calm_ret | refine calm_then ?_ | refine calm_in ?_ | refine calm_chk ?_ | refine calm_noGoto ?_))) | ((with_reducible refine chk_end ?_ ?_); kernel_rfl))
        go_ret2
        exact ⟨by rw [HP.out, decide_eq_false HM.out]; rfl, rfl⟩
end Go.Proofs.YtcifajfmdpjfiaaDoor

/- Package ring: Insert and Delete at texts, off the shelf. -/
namespace Go.Proofs.YtcifajfmdpjfiaaDoor
open Go.RowKit Go.Tum Go.Lib Go.Sort
set_option maxRecDepth 100000
def insL_ren : Go.Shelf.Ren := ⟨fun | 22 => 54 | 29 => 64 | 30 => 65 | 36 => 74 | 17 => 88 | n => n, fun | 24 => 22 | 9 => 9 | 3 => 3 | 4 => 4 | 0 => 0 | n => n, fun | n => n⟩
set_option maxRecDepth 100000 in
theorem insL : Go.Proofs.Lays2.n22 Tryd.prog insL_ren := {
  mixed := by kernel_rfl,
  f17 := Tryd.func88.trans (congrArg some (by kernel_rfl)),
  f22 := Tryd.func54.trans (congrArg some (by kernel_rfl)),
  f29 := Tryd.func64.trans (congrArg some (by kernel_rfl)),
  f30 := Tryd.func65.trans (congrArg some (by kernel_rfl)),
  f36 := Tryd.func74.trans (congrArg some (by kernel_rfl)),
  t0 := Tryd.underlying0,
  a0 := Tryd.isAgg0,
  z0 := Tryd.sizeOf0,
  v0 := Tryd.zeroValue0,
  t3 := Tryd.underlying3,
  a3 := Tryd.isAgg3,
  z3 := Tryd.sizeOf3,
  v3 := Tryd.zeroValue3,
  t4 := Tryd.underlying4,
  a4 := Tryd.isAgg4,
  z4 := Tryd.sizeOf4,
  v4 := Tryd.zeroValue4,
  t9 := Tryd.underlying9,
  a9 := Tryd.isAgg9,
  z9 := Tryd.sizeOf9,
  v9 := Tryd.zeroValue9,
  t24 := Tryd.underlying22,
  a24 := Tryd.isAgg22,
  z24 := Tryd.sizeOf22,
  v24 := Tryd.zeroValue22,
  i9 := by kernel_rfl }
theorem infoTx : (Tryd.prog.info? 9).map (fun i => (i.zero, i.size, i.bytes)) = some (some (.string ⟨#[]⟩), 1, 16) := by kernel_rfl
theorem map_ks_get (l : List Tx) (j : Nat) : (l.map ks)[j]? = (l[j]?).map ks := List.getElem?_map ..
theorem ins_get (N : List Tx) (t : Tx) {i : Nat} (hi : i ≤ N.length) (j : Nat) : (N.take i ++ t :: N.drop i)[j]? = if j < i then N[j]? else if j = i then some t else N[j - 1]? := by
  have hl : (N.take i).length = i := by simp; omega
  by_cases h1 : j < i
  · rw [if_pos h1, List.getElem?_append_left (by omega), List.getElem?_take_of_lt h1]
  · rw [if_neg h1, List.getElem?_append_right (by omega), hl]
    by_cases h2 : j = i
    · subst h2; rw [if_pos rfl, Nat.sub_self]; rfl
    · rw [if_neg h2, show j - i = (j - i - 1) + 1 by omega, List.getElem?_cons_succ, List.getElem?_drop, show i + (j - i - 1) = j - 1 by omega]
theorem ins_len (N : List Tx) (t : Tx) {i : Nat} (hi : i ≤ N.length) : (N.take i ++ t :: N.drop i).length = N.length + 1 := by
  simp only [List.length_append, List.length_cons, List.length_take, List.length_drop]; omega
set_option maxHeartbeats 1600000 in
theorem insert_K (w : World) (F : Nat → Prop) (v : Value) (N : List Tx) (t : Tx) (i bx : Nat) (h : Own w F 9 1 v N.length (N.map ks)) (hi : i ≤ N.length) (hN : N.length ≤ 65536) (hb : Cells w bx 9 #[ks t]) (hn : v.ownBlock ≠ some bx) :
    Calls Tryd.prog 54 #[v, .int .i64 i, .slice (some ⟨bx, 0, none⟩) 1 1] w (Ret fun u w' => Own w' (fun k => v.ownBlock = some k ∨ w.heap.size ≤ k) 9 1 u (N.length + 1) ((N.take i ++ t :: N.drop i).map ks) ∧ Mods (fun k => v.ownBlock = some k) w w') := by
  have hil := ins_len N t hi
  have hvs : ∀ (j : Nat) u, [ks t][j]? = some u → w.cell? ⟨bx, 0 + j, none⟩ = some u := fun j u hu => by
    match j with
    | 0 => rw [Nat.zero_add]; rw [hb.cell 0]; exact hu
    | j + 1 => simp at hu
  have h1v : ∀ u ∈ [ks t], u.oneCell' = true := fun u hu => by rw [List.mem_singleton.1 hu]; rfl
  have hmx : N.length + 1 ≤ maxLen := by unfold maxLen; omega
  rcases h.whole with ⟨rfl, hn0, _⟩ | ⟨g, cap, cur, rfl, hg, hc, h1, h2, h3, h4⟩
  · obtain rfl : N = [] := List.eq_nil_of_length_eq_zero hn0
    obtain rfl : i = 0 := by simpa using hi
    refine (Any2.slices_Insert_string_end_grow insL none 0 0 bx 0 1 1 [] [ks t] w (by decide) (by decide) (by decide) (by decide) rfl rfl (fun _ => rfl) (fun a ha => by cases ha) hvs h1v).mono ?_
    rintro e w' ⟨rfl, rfl⟩
    have hcg := grownCap_ge w (0 + 1) 0 9
    have hcm := grownCap_le_maxLen w (0 + 1) 0 9 (by decide)
    have hcg1 : 1 ≤ grownCap w 1 0 9 := hcg
    have hO : Own (w.drew.alloc (.cells (([] ++ [ks t]).toArray ++ Builtin.zeroCells (Value.string ⟨#[]⟩).cells (grownCap w (0 + 1) 0 9 - (0 + 1))) 9)) _ 9 1 _ _ _ := Own.mk_ (n := 0 + 1) (cap := grownCap w (0 + 1) 0 9) (xs := [ks t]) (Cells.new w.drew 9 _) hcg hcm (by simp [Builtin.zeroCells, Value.cells]; omega) (by simp)
    exact ⟨hO.more fun k hk => .inr (Nat.le_of_eq hk.symm), (Mods.refl _ w).drew.alloc _⟩
  · have hcl : (N.map ks).length = N.length := by simp
    rw [Nat.mul_one] at h3 h4
    have hcur : ∀ j, j < N.length → cur[j]? = (N.map ks)[j]? := fun j hj => by
      rw [← h4, List.getElem?_take_of_lt hj]; simp
    have hcs : ∀ (j : Nat) u, (N.map ks)[j]? = some u → w.cell? ⟨g, 0 + j, none⟩ = some u := fun j u hu => by
      obtain ⟨hj, _⟩ := List.getElem?_eq_some_iff.1 hu
      rw [Nat.zero_add, hc.cell j, hcur j (by simpa using hj)]; exact hu
    have hsp : ∀ j, j < cap → (w.cell? ⟨g, 0 + j, none⟩).isSome = true := fun j hj => by
      rw [Nat.zero_add, hc.cell j, Array.getElem?_eq_getElem (by omega)]; rfl
    have hfz : ∀ j, w.frozen? ⟨g, 0 + j, none⟩ = false := fun j => hc.frozen _
    have hgb : bx ≠ g := fun e => hn (by rw [e]; rfl)
    have hF : ∀ k, k = g → (Value.slice (some ⟨g, 0, none⟩) N.length cap).ownBlock = some k ∨ w.heap.size ≤ k := fun k e => .inl (by rw [e]; rfl)
    rcases Nat.lt_or_ge cap (N.length + 1) with hroom | hroom
    · have hcg := grownCap_ge w (N.length + 1) cap 9
      rcases Nat.eq_or_lt_of_le hi with rfl | hlt
      · refine (Any2.slices_Insert_string_end_grow insL (some ⟨g, 0, none⟩) N.length cap bx 0 1 1 (N.map ks) [ks t] w (by decide) h1 hroom (by omega) hcl rfl (fun e => by cases e) (fun a ha j u hu => ?_) hvs h1v).mono ?_
        · injection ha with ha; subst ha; rw [Addr.add_lit]; exact hcs j u hu
        rintro e w' ⟨rfl, rfl⟩
        have hO := Own.mk_ (n := N.length + 1) (cap := grownCap w (N.length + 1) cap 9) (size := 1) (xs := (N.take N.length ++ t :: N.drop N.length).map ks) (Cells.new w.drew 9 ((N.map ks ++ [ks t]).toArray ++ Builtin.zeroCells (Value.string ⟨#[]⟩).cells (grownCap w (N.length + 1) cap 9 - (N.length + 1)))) hcg (grownCap_le_maxLen _ _ _ _ hmx) (by simp [Builtin.zeroCells, Value.cells]; omega) (by simp [List.take_append, hcl]; exact List.take_of_length_le (by simp))
        exact ⟨hO.more fun k hk => .inr (Nat.le_of_eq hk.symm), (Mods.refl _ w).drew.alloc _⟩
      · refine (Any2.slices_Insert_string_grow insL g 0 N.length cap i bx 0 1 1 (N.map ks) [ks t] w hlt (by decide) h1 hroom (by omega) hcl rfl hcs hvs (txs_one N) h1v).mono ?_
        rintro e w' ⟨rfl, rfl⟩
        have hk0 := Cells.new w 9 (((N.map ks).take i).toArray ++ Builtin.zeroCells (Value.string ⟨#[]⟩).cells (N.length + 1 - i) ++ Builtin.zeroCells (Value.string ⟨#[]⟩).cells (grownCap w (N.length + 1) cap 9 - (N.length + 1)))
        have hsz : (((N.map ks).take i).toArray ++ Builtin.zeroCells (Value.string ⟨#[]⟩).cells (N.length + 1 - i) ++ Builtin.zeroCells (Value.string ⟨#[]⟩).cells (grownCap w (N.length + 1) cap 9 - (N.length + 1))).size = grownCap w (N.length + 1) cap 9 := by
          simp [Builtin.zeroCells, Value.cells]; omega
        have hk1 := ((hk0.drew.setCells [ks t] i).drew).setCells ((N.map ks).drop i) (i + 1)
        have hO := Own.mk_ (n := N.length + 1) (cap := grownCap w (N.length + 1) cap 9) (size := 1) (xs := (N.take i ++ t :: N.drop i).map ks) hk1 hcg (grownCap_le_maxLen _ _ _ _ hmx) (by rw [setArr_size, setArr_size, hsz, Nat.mul_one]) (take_ext (by simp only [List.length_map]; omega) (by rw [setArr_size, setArr_size, hsz]; omega) fun j hj => by
          rw [setArr_get, setArr_get, setArr_size, hsz, map_ks_get, ins_get N t hi]
          rw [List.length_drop, hcl, List.length_singleton]
          by_cases j1 : j < i
          · rw [if_neg (by omega), if_neg (by omega), if_pos j1]
            rw [Array.getElem?_append_left (by simp; omega), Array.getElem?_append_left (by simp; omega)]
            simp [j1]
          · rw [if_neg j1]
            by_cases j2 : j = i
            · subst j2
              rw [if_neg (by omega), if_pos ⟨Nat.le_refl _, by omega, by omega⟩, if_pos rfl, Nat.sub_self]; rfl
            · rw [if_pos ⟨by omega, by omega, by omega⟩, if_neg j2, List.getElem?_drop, map_ks_get, show i + (j - (i + 1)) = j - 1 by omega])
        refine ⟨hO.more fun k hk => .inr (Nat.le_of_eq hk.symm), ?_⟩
        exact ((((Mods.refl _ w).alloc _).drew.trans (Mods.setCells _ _ _) fun k hk e => absurd e (Nat.ne_of_lt hk)).drew).trans (Mods.setCells _ _ _) fun k hk e => absurd e (Nat.ne_of_lt hk)
    · rcases Nat.eq_or_lt_of_le hi with rfl | hlt
      · refine (Any2.slices_Insert_string_end_room insL g 0 N.length cap bx 0 1 1 [ks t] w (by decide) hroom (by unfold maxLen at h2; omega) rfl (fun j hj => ?_) (fun j hj => hc.frozen _) hvs h1v).mono ?_
        · rw [Nat.zero_add, hc.cell, Array.getElem?_eq_getElem (by omega)]; rfl
        rintro e w' ⟨rfl, rfl⟩
        have hk1 := hc.setCells [ks t] (0 + N.length)
        have hO := Own.mk_ (n := N.length + 1) (cap := cap) (size := 1) (xs := (N.take N.length ++ t :: N.drop N.length).map ks) hk1 hroom h2 (by rw [setArr_size, h3, Nat.mul_one]) (take_ext (by simp only [List.length_map]; omega) (by rw [setArr_size, h3]; omega) fun j hj => by
          rw [setArr_get, h3, map_ks_get, ins_get N t (Nat.le_refl _), List.length_singleton]
          by_cases j1 : j < N.length
          · rw [if_neg (by omega), if_pos j1, hcur j j1, map_ks_get]
          · obtain rfl : j = N.length := by omega
            rw [if_pos ⟨by omega, by omega, by omega⟩, if_neg j1, if_pos rfl, Nat.zero_add, Nat.sub_self]; rfl)
        exact ⟨hO.more hF, (Mods.setCells _ _ _).mono fun k _ e => by rw [e]; rfl⟩
      · refine (Any2.slices_Insert_string_shift insL g 0 N.length cap i bx 0 1 1 (N.map ks) [ks t] w hlt (by decide) hroom (by unfold maxLen at h2; omega) hgb hcl rfl hcs (fun j hj => hsp j (by omega)) (fun j _ => hfz j) hvs (txs_one N) h1v 9 9 1 cap ?_ ?_ (by omega) (hb.frozen 0) (hb.frozen 1)).mono ?_
        · unfold Cells at hb; simp [World.shape?, hb]
        · unfold Cells at hc; simp [World.shape?, hc, h3]
        rintro e w' ⟨rfl, rfl⟩
        have hk1 := (hc.drew.setCells ((N.map ks).drop i) (0 + (i + 1))).setCells [ks t] (0 + i)
        have hO := Own.mk_ (n := N.length + 1) (cap := cap) (size := 1) (xs := (N.take i ++ t :: N.drop i).map ks) hk1 hroom h2 (by rw [setArr_size, setArr_size, h3, Nat.mul_one]) (take_ext (by simp only [List.length_map]; omega) (by rw [setArr_size, setArr_size, h3]; omega) fun j hj => by
          rw [setArr_get, setArr_get, setArr_size, h3, map_ks_get, ins_get N t hi]
          rw [List.length_drop, hcl, List.length_singleton]
          by_cases j1 : j < i
          · rw [if_neg (by omega), if_neg (by omega), if_pos j1, hcur j (by omega), map_ks_get]
          · rw [if_neg j1]
            by_cases j2 : j = i
            · subst j2
              rw [if_pos ⟨by omega, by omega, by omega⟩, if_pos rfl, Nat.zero_add, Nat.sub_self]; rfl
            · rw [if_neg (by omega), if_pos ⟨by omega, by omega, by omega⟩, if_neg j2, List.getElem?_drop, map_ks_get, show i + (j - (0 + (i + 1))) = j - 1 by omega])
        exact ⟨hO.more hF, ((Mods.refl _ w).drew.trans ((Mods.setCells _ _ _).trans (Mods.setCells _ _ _) fun _ _ e => e) fun _ _ e => e).mono fun k _ e => by rw [e]; rfl⟩
end Go.Proofs.YtcifajfmdpjfiaaDoor
