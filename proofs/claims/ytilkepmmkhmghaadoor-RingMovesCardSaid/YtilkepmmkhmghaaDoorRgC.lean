/- Package ring: order of places, lists held against lists. -/
import Derived.Test.YtilkepmmkhmghaaDoorRgB
import Derived.Test.YtilkepmmkhmghaaDoorRow
namespace Go.Proofs.YtilkepmmkhmghaaDoor
open Go.RowKit Go.Tum Go.Lib Go.Sort
set_option maxRecDepth 100000
def pl (p : Plc) : List Value := [.int .u64 (p.1 : Int), ks p.2]
theorem pl_len (p : Plc) : (pl p).length = 2 := rfl
def plcs (l : List Plc) : List Value := l.flatMap pl
theorem plcs_length (l : List Plc) : (plcs l).length = l.length * 2 := flatMap_len pl_len l
theorem pl_one (p : Plc) : ∀ u ∈ pl p, u.oneCell' = true := by
  intro u hu
  rcases List.mem_cons.1 hu with rfl | hu
  · rfl
  · rcases List.mem_cons.1 hu with rfl | hu
    · rfl
    · cases hu
theorem plcs_one (l : List Plc) : ∀ u ∈ plcs l, u.oneCell' = true := by
  intro u hu
  obtain ⟨p, _, hp⟩ := List.mem_flatMap.1 hu
  exact pl_one p u hp
theorem txs_one (l : List Tx) : ∀ u ∈ l.map ks, u.oneCell' = true := by
  intro u hu
  obtain ⟨p, _, rfl⟩ := List.mem_map.1 hu
  rfl
theorem natCast_lt (a b : Nat) : decide ((a : Int) < (b : Int)) = decide (a < b) := by simp
theorem eql_plc (w : World) (x y : Plc) : (binOp .eql 39 (.agg #[.int .u64 (x.1 : Int), ks x.2]) (.agg #[.int .u64 (y.1 : Int), ks y.2])).run Tryd.prog w = .ok (.bool (decide (x = y))) w := by
  have u1 := Tryd.underlying9
  have a1 := Tryd.isAgg9
  have z1 := Tryd.sizeOf9
  have u3 := Tryd.underlying37
  have a3 := Tryd.isAgg37
  have z3 := Tryd.sizeOf37
  have hS : Tryd.prog.underlying 39 = some (.struct (Tryd.prog.fieldsOf 39)) := by kernel_rfl
  have hp : Tryd.prog.stoodInHeld 39 = false := by kernel_rfl
  rw [run_eql_struct, show (10000 : Nat) = 9999 + 1 from rfl, run_equalIn_agg w 9999 39 _ _ hS hp]
  simp only [Program.fieldsOf, Tryd.underlying39]
  unfold ks
  go_simp
  obtain ⟨x1, x2⟩ := x
  obtain ⟨y1, y2⟩ := y
  by_cases h1 : x1 = y1 <;> by_cases h2 : x2 = y2 <;> simp [h1, h2] <;> omega
theorem neq_plc (w : World) (x y : Plc) : (binOp .neq 39 (.agg #[.int .u64 (x.1 : Int), ks x.2]) (.agg #[.int .u64 (y.1 : Int), ks y.2])).run Tryd.prog w = .ok (.bool (decide (x ≠ y))) w := by
  have u1 := Tryd.underlying9
  have a1 := Tryd.isAgg9
  have z1 := Tryd.sizeOf9
  have u3 := Tryd.underlying37
  have a3 := Tryd.isAgg37
  have z3 := Tryd.sizeOf37
  have hS : Tryd.prog.underlying 39 = some (.struct (Tryd.prog.fieldsOf 39)) := by kernel_rfl
  have hp : Tryd.prog.stoodInHeld 39 = false := by kernel_rfl
  rw [run_neq_struct, show (10000 : Nat) = 9999 + 1 from rfl, run_equalIn_agg w 9999 39 _ _ hS hp]
  simp only [Program.fieldsOf, Tryd.underlying39]
  unfold ks
  go_simp
  obtain ⟨x1, x2⟩ := x
  obtain ⟨y1, y2⟩ := y
  by_cases h1 : x1 = y1 <;> by_cases h2 : x2 = y2 <;> simp [h1, h2] <;> omega
theorem run_cmp (a b : ByteArray) (w : World) : (callFunc 93 #[.string a, .string b]).run Tryd.prog w = .ok (.value (.int .i64 (Lib.compareBytes a.data.toList b.data.toList))) w := by
  rw [run_callFunc_extern Tryd.func93 (by kernel_rfl) (by kernel_rfl) (by kernel_rfl) (e := Extern.BytealgCompare.compare) (by kernel_rfl), Lib.run_compareString]
  rfl
theorem compare_K (w : World) (a b : ByteArray) : Calls Tryd.prog 64 #[.string a, .string b] w (Ret fun v w' => v = .int .i64 (Lib.compareBytes a.data.toList b.data.toList) ∧ w = w') := by
  have hx := fun (w : World) => run_cmp a b w
  go_enter Tryd.func64, Tryd.ntmps64
  go_wp2
  go_ret
  exact ⟨rfl, rfl⟩
theorem order_G (w : World) (a b : Plc) : Calls Tryd.prog 50 #[.agg #[.int .u64 (a.1 : Int), ks a.2], .agg #[.int .u64 (b.1 : Int), ks b.2]] w (Ret fun v w' => v = .int .i64 (cmpP a b) ∧ Gr w w') := by
  have hc := fun (w : World) => compare_K w ⟨a.2.toArray⟩ ⟨b.2.toArray⟩
  have hq := fun (w : World) => eql_plc w a b
  by_cases h0 : a = b
  · have He := Lib.hid (show cmpP a b = 0 from if_pos h0)
    simp only [decide_eq_true h0] at hq
    clear h0
    unfold ks at *
    go_enter Tryd.func50, Tryd.ntmps50
    go_wp2_with (first | ((with_reducible refine wp_region_por ?_ ?_ ?_ ?_); kernel_rfl; kernel_rfl; (with_reducible repeat (first | exact calm_ret | refine calm_then ?_ | refine calm_in ?_ | refine calm_chk ?_ | refine calm_noGoto ?_))) | ((with_reducible refine chk_end ?_ ?_); kernel_rfl))
    go_ret
    exact ⟨by rw [He.out]; rfl, by repeat (first | exact Gr.refl _ | apply Gr.drew | apply Gr.alloc)⟩
  · simp only [decide_eq_false h0] at hq
    by_cases h1 : a.1 < b.1
    · have h1' : decide (a.1 < b.1) = true := decide_eq_true h1
      have He := Lib.hid (show cmpP a b = -1 from (if_neg h0).trans (if_pos h1))
      clear h0 h1
      unfold ks at *
      go_enter Tryd.func50, Tryd.ntmps50
      go_wp2_with (first | ((with_reducible refine wp_region_por ?_ ?_ ?_ ?_); kernel_rfl; kernel_rfl; (with_reducible repeat (first | exact calm_ret | refine calm_then ?_ | refine calm_in ?_ | refine calm_chk ?_ | refine calm_noGoto ?_))) | ((with_reducible refine chk_end ?_ ?_); kernel_rfl))
      go_ret
      exact ⟨by rw [He.out]; rfl, by repeat (first | exact Gr.refl _ | apply Gr.drew | apply Gr.alloc)⟩
    · have h1' : decide (a.1 < b.1) = false := decide_eq_false h1
      by_cases h2 : b.1 < a.1
      · have h2' : decide (b.1 < a.1) = true := decide_eq_true h2
        have He := Lib.hid (show cmpP a b = 1 from (if_neg h0).trans ((if_neg h1).trans (if_pos h2)))
        clear h0 h1 h2
        unfold ks at *
        go_enter Tryd.func50, Tryd.ntmps50
        go_wp2_with (first | ((with_reducible refine wp_region_por ?_ ?_ ?_ ?_); kernel_rfl; kernel_rfl; (with_reducible repeat (first | exact calm_ret | refine calm_then ?_ | refine calm_in ?_ | refine calm_chk ?_ | refine calm_noGoto ?_))) | ((with_reducible refine chk_end ?_ ?_); kernel_rfl))
        go_ret
        exact ⟨by rw [He.out]; rfl, by repeat (first | exact Gr.refl _ | apply Gr.drew | apply Gr.alloc)⟩
      · have h2' : decide (b.1 < a.1) = false := decide_eq_false h2
        have He := Lib.hid (show cmpP a b = compareBytes a.2 b.2 from (if_neg h0).trans ((if_neg h1).trans (if_neg h2)))
        clear h0 h1 h2
        unfold ks at *
        go_enter Tryd.func50, Tryd.ntmps50
        go_wp2_with (first | (go_at_call 64; (refine ret_use (hc _) ?_; rintro v _ ⟨rfl, rfl⟩)) | ((with_reducible refine wp_region_por ?_ ?_ ?_ ?_); kernel_rfl; kernel_rfl; (with_reducible repeat (first | exact calm_ret | refine calm_then ?_ | refine calm_in ?_ | refine calm_chk ?_ | refine calm_noGoto ?_))) | ((with_reducible refine chk_end ?_ ?_); kernel_rfl))
        go_ret
        exact ⟨by rw [He.out]; rfl, by repeat (first | exact Gr.refl _ | apply Gr.drew | apply Gr.alloc)⟩
theorem before_K (w : World) (a b : Plc) (r : Bool) (hr : ltP a b = r) : Calls Tryd.prog 54 #[.agg #[.int .u64 (a.1 : Int), ks a.2], .agg #[.int .u64 (b.1 : Int), ks b.2]] w (Ret fun v w' => v = .bool r ∧ Mods No w w') := by
  have hl : Op.bytesLess a.2 b.2 = ltT a.2 b.2 := bytesLess_lt a.2 b.2
  have He := Lib.hid hr
  clear hr
  unfold ks at *
  by_cases h1 : a.1 < b.1
  · have h1' : decide (a.1 < b.1) = true := decide_eq_true h1
    have Hq := Lib.hid (show ltP a b = true from decide_eq_true (.inl h1))
    clear h1
    go_enter Tryd.func54, Tryd.ntmps54
    go_wp2_with (first | ((with_reducible refine wp_region_por ?_ ?_ ?_ ?_); kernel_rfl; kernel_rfl; (with_reducible repeat (first | exact calm_ret | refine calm_then ?_ | refine calm_in ?_ | refine calm_chk ?_ | refine calm_noGoto ?_))) | ((with_reducible refine chk_end ?_ ?_); kernel_rfl))
    go_ret
    exact ⟨by rw [← He.out, Hq.out]; rfl, by repeat (first | exact Mods.refl _ _ | apply Mods.drew | apply Mods.alloc)⟩
  · have h1' : decide (a.1 < b.1) = false := decide_eq_false h1
    by_cases h2 : a.1 = b.1
    · have h2' : ((a.1 : Int) == (b.1 : Int)) = true := by simp [h2]
      have Hq := Lib.hid (show ltP a b = ltT a.2 b.2 by simp [ltP, ltT, h2])
      clear h1 h2
      go_enter Tryd.func54, Tryd.ntmps54
      go_wp2_with (first | ((with_reducible refine wp_region_por ?_ ?_ ?_ ?_); kernel_rfl; kernel_rfl; (with_reducible repeat (first | exact calm_ret | refine calm_then ?_ | refine calm_in ?_ | refine calm_chk ?_ | refine calm_noGoto ?_))) | ((with_reducible refine chk_end ?_ ?_); kernel_rfl))
      go_ret
      exact ⟨by rw [← He.out, Hq.out]; rfl, by repeat (first | exact Mods.refl _ _ | apply Mods.drew | apply Mods.alloc)⟩
    · have h2' : ((a.1 : Int) == (b.1 : Int)) = false := by simp; omega
      have Hq := Lib.hid (show ltP a b = false from decide_eq_false (by omega))
      clear h1 h2
      go_enter Tryd.func54, Tryd.ntmps54
      go_wp2_with (first | ((with_reducible refine wp_region_por ?_ ?_ ?_ ?_); kernel_rfl; kernel_rfl; (with_reducible repeat (first | exact calm_ret | refine calm_then ?_ | refine calm_in ?_ | refine calm_chk ?_ | refine calm_noGoto ?_))) | ((with_reducible refine chk_end ?_ ?_); kernel_rfl))
      go_ret
      exact ⟨by rw [← He.out, Hq.out]; rfl, by repeat (first | exact Mods.refl _ _ | apply Mods.drew | apply Mods.alloc)⟩
theorem lt_get {α : Type} {l : List α} {i : Nat} (h : i < l.length) : ∃ x, l[i]? = some x := ⟨_, List.getElem?_eq_getElem h⟩
theorem take_nx {α : Type} {l : List α} {i : Nat} {x : α} (h : l[i]? = some x) : l.take (i + 1) = l.take i ++ [x] := by rw [List.take_add_one, h]; rfl
/-- Element i of a slice of texts. -/
theorem _root_.Go.Tum.Rd.tx {w : World} {F : Nat → Prop} {A : Option Addr} {c n : Nat} {l : List Tx} (h : Rd w F 1 (.slice A n c) n (l.map ks)) (hn : l.length = n) {i : Nat} {x : Tx} (hx : l[i]? = some x) :
    ∃ b off, A = some ⟨b, off, none⟩ ∧ F b ∧ w.cell? ⟨b, off + i, none⟩ = some (ks x) := by
  subst hn
  obtain ⟨hi, _⟩ := List.getElem?_eq_some_iff.1 hx
  obtain ⟨b, off, c', e, hF, hc⟩ := h.cells (by omega)
  injection e with e
  refine ⟨b, off, e, hF, ?_⟩
  rw [hc _ (by omega), List.getElem?_map, hx]; rfl
/-- Element i of a slice of places. -/
theorem _root_.Go.Tum.Rd.plc {w : World} {F : Nat → Prop} {A : Option Addr} {c n : Nat} {l : List Plc} (h : Rd w F 2 (.slice A n c) n (plcs l)) (hn : l.length = n) {i : Nat} {x : Plc} (hx : l[i]? = some x) :
    ∃ b off, A = some ⟨b, off, none⟩ ∧ F b ∧ w.cell? ⟨b, off + i * 2, none⟩ = some (.int .u64 (x.1 : Int)) ∧ w.cell? ⟨b, off + i * 2 + 1, none⟩ = some (ks x.2) := by
  subst hn
  obtain ⟨hi, _⟩ := List.getElem?_eq_some_iff.1 hx
  obtain ⟨b, off, c', e, hF, hc⟩ := h.cells (by omega)
  injection e with e
  have h2 := fun r hr => flatMap_get (enc := pl) (k := 2) pl_len l i r hr
  rw [hx] at h2
  refine ⟨b, off, e, hF, ?_, ?_⟩
  · rw [hc _ (by omega)]; exact h2 0 (by decide)
  · rw [Nat.add_assoc, hc _ (by omega)]; exact h2 1 (by decide)
theorem take_ne {α : Type} {a b : List α} {i : Nat} {x y : α} (hx : a[i]? = some x) (hy : b[i]? = some y) (h : x ≠ y) : a ≠ b := fun e => h (by rw [e, hy] at hx; injection hx with hx; exact hx.symm)
set_option maxHeartbeats 1600000 in
theorem sameT_K (w : World) (F G : Nat → Prop) (v u : Value) (a b : List Tx) (ha : Rd w F 1 v a.length (List.map ks a)) (hb : Rd w G 1 u b.length (List.map ks b)) (hF : ∀ k, F k → k < w.heap.size) (hG : ∀ k, G k → k < w.heap.size) :
    Calls Tryd.prog 12 #[v, u] w (Ret fun r w' => r = .bool (decide (a = b)) ∧ Mods No w w') := by
  obtain ⟨A, c, rfl, hac, hac2⟩ := ha.form
  obtain ⟨B, e, rfl, hbc, hbc2⟩ := hb.form
  have ha' := fun (w' : World) (hm : Mods No w w') => ha.same (hm.same fun k hk => ⟨hF k hk, fun e => e⟩)
  have hb' := fun (w' : World) (hm : Mods No w w') => hb.same (hm.same fun k hk => ⟨hG k hk, fun e => e⟩)
  clear hF hG
  have hsm : a.length ≤ 9223372036854775807 := by unfold maxLen at hac2; omega
  have Hha := Lib.hid ha
  clear ha
  have Hhb := Lib.hid hb
  clear hb
  have Hha' := Lib.hid ha'
  clear ha'
  have Hhb' := Lib.hid hb'
  clear hb'
  go_enter Tryd.func12, Tryd.ntmps12
  by_cases hl : a.length = b.length
  · have hl' : ((a.length : Int) == (b.length : Int)) = true := by simp [hl]
    have Hl := Lib.hid hl
    clear hl
    go_wp2_with (first | ((with_reducible refine wp_region_por ?_ ?_ ?_ ?_); kernel_rfl; kernel_rfl; (with_reducible repeat (first | exact calm_ret | refine calm_then ?_ | refine calm_in ?_ | refine calm_chk ?_ | refine calm_noGoto ?_))) | ((with_reducible refine chk_end ?_ ?_); kernel_rfl))
    go_loopg [5] a.length (fun k v5 wr => ∃ i : Nat, v5 = .int .i64 i ∧ i ≤ a.length ∧ k + i = a.length ∧ a.take i = b.take i ∧ Mods No w wr)
    case atStart => exact ⟨0, rfl, Nat.zero_le _, rfl, rfl, Mods.refl _ _⟩
    case round =>
      obtain ⟨i, rfl, hi, hki, hab, hm⟩ := hrel
      have Hki := Lib.hid hki
      have Hab := Lib.hid hab
      have HM := Lib.hid hm
      clear hki hab hm
      rcases Nat.lt_or_ge i a.length with h1 | h1
      · have h2 : i < b.length := by have := Hl.out; omega
        obtain ⟨x, hx⟩ := lt_get h1
        obtain ⟨y, hy⟩ := lt_get h2
        obtain ⟨b1, o1, rfl, _, x0⟩ := (Hha'.out _ HM.out).tx rfl hx
        obtain ⟨b2, o2, rfl, _, y0⟩ := (Hhb'.out _ HM.out).tx rfl hy
        unfold ks at x0 y0
        by_cases hxy : x = y
        · have h3 : (x == y) = true := by simp [hxy]
          have Hxy := Lib.hid (And.intro hx (And.intro hy hxy))
          clear hx hy hxy
          go_wp2
          go_quiet (fail)
          go_wp2
          go_roundg (gk - 1)
          case rel =>
            have h5 := Hki.out
            refine ⟨i + 1, by go_num, h1, by omega, ?_, by have := HM.out; repeat (first | exact this | apply Mods.drew | apply Mods.drewN)⟩
            obtain ⟨e1, e2, e3⟩ := Hxy.out
            rw [take_nx e1, take_nx e2, e3, Hab.out]
          case measure => have := Hki.out; omega
        · have h3 : (x == y) = false := by simp [hxy]
          have Hxy := Lib.hid (And.intro hx (And.intro hy hxy))
          clear hx hy hxy
          go_wp2
          go_quiet (fail)
          go_wp2
          go_ret
          obtain ⟨e1, e2, e3⟩ := Hxy.out
          refine ⟨by rw [decide_eq_false (take_ne e1 e2 e3)]; rfl, by have := HM.out; repeat (first | exact this | apply Mods.drew | apply Mods.drewN)⟩
      · obtain rfl : i = a.length := by omega
        go_wp2_with (first | ((with_reducible refine wp_region_por ?_ ?_ ?_ ?_); kernel_rfl; kernel_rfl; (with_reducible repeat (first | exact calm_ret | refine calm_then ?_ | refine calm_in ?_ | refine calm_chk ?_ | refine calm_noGoto ?_))) | ((with_reducible refine chk_end ?_ ?_); kernel_rfl))
        go_ret
        have e1 := Hab.out
        rw [Hl.out, List.take_length, ← Hl.out, List.take_length] at e1
        exact ⟨by rw [decide_eq_true e1]; rfl, by have := HM.out; repeat (first | exact this | apply Mods.drew | apply Mods.drewN)⟩
  · have hl' : ((a.length : Int) == (b.length : Int)) = false := by simp; omega
    have Hl := Lib.hid hl
    clear hl
    go_wp2_with (first | ((with_reducible refine wp_region_por ?_ ?_ ?_ ?_); kernel_rfl; kernel_rfl; (with_reducible repeat (first | exact calm_ret | refine calm_then ?_ | refine calm_in ?_ | refine calm_chk ?_ | refine calm_noGoto ?_))) | ((with_reducible refine chk_end ?_ ?_); kernel_rfl))
    go_ret
    exact ⟨by rw [decide_eq_false (fun e => Hl.out (by rw [e]))]; rfl, Mods.refl _ _⟩
set_option maxHeartbeats 1600000 in
theorem sameP_K (w : World) (F G : Nat → Prop) (v u : Value) (a b : List Plc) (ha : Rd w F 2 v a.length (plcs a)) (hb : Rd w G 2 u b.length (plcs b)) (hF : ∀ k, F k → k < w.heap.size) (hG : ∀ k, G k → k < w.heap.size) :
    Calls Tryd.prog 17 #[v, u] w (Ret fun r w' => r = .bool (decide (a = b)) ∧ Mods No w w') := by
  obtain ⟨A, c, rfl, hac, hac2⟩ := ha.form
  obtain ⟨B, e, rfl, hbc, hbc2⟩ := hb.form
  have ha' := fun (w' : World) (hm : Mods No w w') => ha.same (hm.same fun k hk => ⟨hF k hk, fun e => e⟩)
  have hb' := fun (w' : World) (hm : Mods No w w') => hb.same (hm.same fun k hk => ⟨hG k hk, fun e => e⟩)
  clear hF hG
  have hsm : a.length ≤ 9223372036854775807 := by unfold maxLen at hac2; omega
  have Hha := Lib.hid ha
  clear ha
  have Hhb := Lib.hid hb
  clear hb
  have Hha' := Lib.hid ha'
  clear ha'
  have Hhb' := Lib.hid hb'
  clear hb'
  go_enter Tryd.func17, Tryd.ntmps17
  by_cases hl : a.length = b.length
  · have hl' : ((a.length : Int) == (b.length : Int)) = true := by simp [hl]
    have Hl := Lib.hid hl
    clear hl
    go_wp2_with (first | ((with_reducible refine wp_region_por ?_ ?_ ?_ ?_); kernel_rfl; kernel_rfl; (with_reducible repeat (first | exact calm_ret | refine calm_then ?_ | refine calm_in ?_ | refine calm_chk ?_ | refine calm_noGoto ?_))) | ((with_reducible refine chk_end ?_ ?_); kernel_rfl))
    go_loopg [5] a.length (fun k v5 wr => ∃ i : Nat, v5 = .int .i64 i ∧ i ≤ a.length ∧ k + i = a.length ∧ a.take i = b.take i ∧ Mods No w wr)
    case atStart => exact ⟨0, rfl, Nat.zero_le _, rfl, rfl, Mods.refl _ _⟩
    case round =>
      obtain ⟨i, rfl, hi, hki, hab, hm⟩ := hrel
      have Hki := Lib.hid hki
      have Hab := Lib.hid hab
      have HM := Lib.hid hm
      clear hki hab hm
      rcases Nat.lt_or_ge i a.length with h1 | h1
      · have h2 : i < b.length := by have := Hl.out; omega
        obtain ⟨x, hx⟩ := lt_get h1
        obtain ⟨y, hy⟩ := lt_get h2
        obtain ⟨b1, o1, rfl, _, x0, x1⟩ := (Hha'.out _ HM.out).plc rfl hx
        obtain ⟨b2, o2, rfl, _, y0, y1⟩ := (Hhb'.out _ HM.out).plc rfl hy
        have hne := fun w => neq_plc w x y; unfold ks at x1 y1 hne
        by_cases hxy : x = y
        · have h3 : decide (x ≠ y) = false := (by simp [hxy]); rw [h3] at hne; clear h3
          have Hxy := Lib.hid (And.intro hx (And.intro hy hxy))
          clear hx hy hxy
          go_wp2
          go_quiet (fail)
          go_wp2
          go_roundg (gk - 1)
          case rel =>
            have h5 := Hki.out
            refine ⟨i + 1, by go_num, h1, by omega, ?_, by have := HM.out; repeat (first | exact this | apply Mods.drew | apply Mods.drewN)⟩
            obtain ⟨e1, e2, e3⟩ := Hxy.out
            rw [take_nx e1, take_nx e2, e3, Hab.out]
          case measure => have := Hki.out; omega
        · have h3 : decide (x ≠ y) = true := (by simp [hxy]); rw [h3] at hne; clear h3
          have Hxy := Lib.hid (And.intro hx (And.intro hy hxy))
          clear hx hy hxy
          go_wp2
          go_quiet (fail)
          go_wp2
          go_ret
          obtain ⟨e1, e2, e3⟩ := Hxy.out
          refine ⟨by rw [decide_eq_false (take_ne e1 e2 e3)]; rfl, by have := HM.out; repeat (first | exact this | apply Mods.drew | apply Mods.drewN)⟩
      · obtain rfl : i = a.length := by omega
        go_wp2_with (first | ((with_reducible refine wp_region_por ?_ ?_ ?_ ?_); kernel_rfl; kernel_rfl; (with_reducible repeat (first | exact calm_ret | refine calm_then ?_ | refine calm_in ?_ | refine calm_chk ?_ | refine calm_noGoto ?_))) | ((with_reducible refine chk_end ?_ ?_); kernel_rfl))
        go_ret
        have e1 := Hab.out
        rw [Hl.out, List.take_length, ← Hl.out, List.take_length] at e1
        exact ⟨by rw [decide_eq_true e1]; rfl, by have := HM.out; repeat (first | exact this | apply Mods.drew | apply Mods.drewN)⟩
  · have hl' : ((a.length : Int) == (b.length : Int)) = false := by simp; omega
    have Hl := Lib.hid hl
    clear hl
    go_wp2_with (first | ((with_reducible refine wp_region_por ?_ ?_ ?_ ?_); kernel_rfl; kernel_rfl; (with_reducible repeat (first | exact calm_ret | refine calm_then ?_ | refine calm_in ?_ | refine calm_chk ?_ | refine calm_noGoto ?_))) | ((with_reducible refine chk_end ?_ ?_); kernel_rfl))
    go_ret
    exact ⟨by rw [decide_eq_false (fun e => Hl.out (by rw [e]))]; rfl, Mods.refl _ _⟩
end Go.Proofs.YtilkepmmkhmghaaDoor
