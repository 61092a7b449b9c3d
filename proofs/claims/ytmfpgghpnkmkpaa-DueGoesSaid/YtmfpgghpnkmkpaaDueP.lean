/- The reference's queue: find, without, Same. -/
import Derived.Test.YtmfpgghpnkmkpaaDueL
import Derived.Test.YtmfpgghpnkmkpaaDueM
import Derived.Laws.StructEq
namespace Go.Proofs.Ytmfpgghpnkmkpaa
open Go.RowKit Go.Tum Go.Shelf
set_option maxRecDepth 100000
/-- The reference's queue at r, with the list L. -/
structure RK (w : World) (r : Nat) (lim : Int) (v : Value) (L : List Ent) (F : Nat → Prop) : Prop where
  cells : Cells w r 40 #[.int .i64 lim, v]
  rd : Rd w F 2 v L.length (entsL L)
  nr : ¬ F r
  lt : ∀ g, F g → g < w.heap.size
  small : L.length ≤ 65536
def RefK (w : World) (r : Nat) (lim : Int) (L : List Ent) (F : Nat → Prop) : Prop := ∃ v, RK w r lim v L F
theorem RK.mods {w w' : World} {r : Nat} {lim : Int} {v : Value} {L : List Ent} {F S : Nat → Prop} (h : RK w r lim v L F) (hm : Mods S w w') (h1 : ¬ S r) (h2 : ∀ g, F g → ¬ S g) : RK w' r lim v L F :=
  ⟨h.cells.mods hm h1, h.rd.same (hm.same fun k hk => ⟨h.lt k hk, h2 k hk⟩), h.nr, fun g hg => Nat.lt_of_lt_of_le (h.lt g hg) hm.size, h.small⟩
theorem RefK.mods {w w' : World} {r : Nat} {lim : Int} {L : List Ent} {F S : Nat → Prop} (h : RefK w r lim L F) (hm : Mods S w w') (h1 : ¬ S r) (h2 : ∀ g, F g → ¬ S g) : RefK w' r lim L F := by
  obtain ⟨v, h⟩ := h; exact ⟨v, h.mods hm h1 h2⟩
theorem RefK.no {w w' : World} {r : Nat} {lim : Int} {L : List Ent} {F : Nat → Prop} (h : RefK w r lim L F) (hm : Mods No w w') : RefK w' r lim L F := h.mods hm (fun e => e) fun _ _ e => e
theorem entsL_one (l : List Ent) : ∀ u ∈ entsL l, u.oneCell' = true := by
  intro u hu
  unfold entsL at hu
  obtain ⟨i, _, hi⟩ := List.mem_flatMap.1 hu
  rcases List.mem_cons.1 hi with rfl | hi
  · rfl
  · rcases List.mem_cons.1 hi with rfl | hi
    · rfl
    · cases hi
theorem entsL_take (l : List Ent) (k : Nat) : (entsL l).take (k * 2) = entsL (l.take k) := by
  induction l generalizing k with
  | nil => simp [entsL]
  | cons x l ih =>
    cases k with
    | zero => simp [entsL]
    | succ k =>
      have := ih k
      unfold entsL at this ⊢
      rw [show (k + 1) * 2 = k * 2 + 1 + 1 by omega]
      simp only [List.flatMap_cons, List.cons_append, List.nil_append, List.take_succ_cons, this]
theorem entsL_drop (l : List Ent) (k : Nat) : (entsL l).drop (k * 2) = entsL (l.drop k) := by
  induction l generalizing k with
  | nil => simp [entsL]
  | cons x l ih =>
    cases k with
    | zero => simp [entsL]
    | succ k =>
      have := ih k
      unfold entsL at this ⊢
      rw [show (k + 1) * 2 = k * 2 + 1 + 1 by omega]
      simp only [List.flatMap_cons, List.cons_append, List.nil_append, List.drop_succ_cons, this]
theorem entsL_append (a b : List Ent) : entsL a ++ entsL b = entsL (a ++ b) := by unfold entsL; rw [List.flatMap_append]
theorem neq_ent (w : World) (x y : Ent) : (binOp .neq 29 (.agg #[ks x.1, .int .i64 x.2]) (.agg #[ks y.1, .int .i64 y.2])).run Try.prog w = .ok (.bool (decide (x ≠ y))) w := by
  have u1 := Try.underlying9
  have a1 := Try.isAgg9
  have z1 := Try.sizeOf9
  have u3 := Try.underlying2
  have a3 := Try.isAgg2
  have z3 := Try.sizeOf2
  have hS : Try.prog.underlying 29 = some (.struct (Try.prog.fieldsOf 29)) := by kernel_rfl
  have hp : Try.prog.stoodInHeld 29 = false := by kernel_rfl
  rw [run_neq_struct, show (10000 : Nat) = 9999 + 1 from rfl, run_equalIn_agg w 9999 29 _ _ hS hp]
  simp only [Program.fieldsOf, Try.underlying29]
  unfold ks
  go_simp
  obtain ⟨x1, x2⟩ := x
  obtain ⟨y1, y2⟩ := y
  by_cases h1 : x1 = y1 <;> by_cases h2 : x2 = y2 <;> simp [h1, h2]
theorem eql_ent (w : World) (x y : Ent) : (binOp .eql 29 (.agg #[ks x.1, .int .i64 x.2]) (.agg #[ks y.1, .int .i64 y.2])).run Try.prog w = .ok (.bool (decide (x = y))) w := by
  have u1 := Try.underlying9
  have a1 := Try.isAgg9
  have z1 := Try.sizeOf9
  have u3 := Try.underlying2
  have a3 := Try.isAgg2
  have z3 := Try.sizeOf2
  have hS : Try.prog.underlying 29 = some (.struct (Try.prog.fieldsOf 29)) := by kernel_rfl
  have hp : Try.prog.stoodInHeld 29 = false := by kernel_rfl
  rw [run_eql_struct, show (10000 : Nat) = 9999 + 1 from rfl, run_equalIn_agg w 9999 29 _ _ hS hp]
  simp only [Program.fieldsOf, Try.underlying29]
  unfold ks
  go_simp
  obtain ⟨x1, x2⟩ := x
  obtain ⟨y1, y2⟩ := y
  by_cases h1 : x1 = y1 <;> by_cases h2 : x2 = y2 <;> simp [h1, h2]
theorem take_ne {a b : List Ent} {i : Nat} {x y : Ent} (hx : a[i]? = some x) (hy : b[i]? = some y) (h : x ≠ y) : a ≠ b := fun e => h (by rw [e, hy] at hx; injection hx with hx; exact hx.symm)
set_option maxHeartbeats 1600000 in
theorem same_K (w : World) (F G : Nat → Prop) (v u : Value) (a b : List Ent) (ha : Rd w F 2 v a.length (entsL a)) (hb : Rd w G 2 u b.length (entsL b)) (hF : ∀ k, F k → k < w.heap.size) (hG : ∀ k, G k → k < w.heap.size) :
    Calls Try.prog 19 #[v, u] w (Ret fun r w' => r = .bool (decide (a = b)) ∧ Mods No w w') := by
  obtain ⟨A, c, rfl, hac, hac2⟩ := ha.form
  obtain ⟨B, e, rfl, hbc, hbc2⟩ := hb.form
  have ha' := fun (w' : World) (hm : Mods No w w') => ha.same (hm.same fun k hk => ⟨hF k hk, fun e => e⟩)
  have hb' := fun (w' : World) (hm : Mods No w w') => hb.same (hm.same fun k hk => ⟨hG k hk, fun e => e⟩)
  clear hF hG
  have hsm : a.length ≤ 9223372036854775807 := by unfold maxLen at hac2; omega
  have Hha := Lib.hid ha
  clear ha
  have Hhb := Lib.hid hb
  clear hb
  have Hha' := Lib.hid ha'
  clear ha'
  have Hhb' := Lib.hid hb'
  clear hb'
  go_enter Try.func19, Try.ntmps19
  by_cases hl : a.length = b.length
  · have hl' : ((a.length : Int) == (b.length : Int)) = true := by simp [hl]
    have Hl := Lib.hid hl
    clear hl
    go_wp2_with (first | ((with_reducible refine wp_region_por ?_ ?_ ?_ ?_); kernel_rfl; kernel_rfl; (with_reducible repeat (first | exact calm_ret | refine calm_then ?_ | refine calm_in ?_ | refine calm_chk ?_ | refine calm_noGoto ?_))) | ((with_reducible refine chk_end ?_ ?_); kernel_rfl))
    go_loopg [5] a.length (fun k v5 wr => ∃ i : Nat, v5 = .int .i64 i ∧ i ≤ a.length ∧ k + i = a.length ∧ a.take i = b.take i ∧ Mods No w wr)
    case atStart => exact ⟨0, rfl, Nat.zero_le _, rfl, rfl, Mods.refl _ _⟩
    case round =>
      obtain ⟨i, rfl, hi, hki, hab, hm⟩ := hrel
      have Hki := Lib.hid hki
      have Hab := Lib.hid hab
      have HM := Lib.hid hm
      clear hki hab hm
      rcases Nat.lt_or_ge i a.length with h1 | h1
      · have h2 : i < b.length := by have := Hl.out; omega
        obtain ⟨x, hx⟩ := lt_get h1
        obtain ⟨y, hy⟩ := lt_get h2
        obtain ⟨b1, o1, rfl, _, x0, x1⟩ := (Hha'.out _ HM.out).pair hx
        obtain ⟨b2, o2, rfl, _, y0, y1⟩ := (Hhb'.out _ HM.out).pair hy
        have hne := fun w => neq_ent w x y
        unfold ks at x0 y0 hne
        by_cases hxy : x = y
        · have h3 : decide (x ≠ y) = false := by simp [hxy]
          rw [h3] at hne
          have Hxy := Lib.hid (And.intro hx (And.intro hy hxy))
          clear hx hy hxy h3
          go_wp2
          go_quiet (fail)
          go_wp2
          go_roundg (gk - 1)
          case rel =>
            have h5 := Hki.out
            refine ⟨i + 1, by go_num, h1, by omega, ?_, by have := HM.out; repeat (first | exact this | apply Mods.drew | apply Mods.drewN)⟩
            obtain ⟨e1, e2, e3⟩ := Hxy.out
            rw [take_next e1, take_next e2, e3, Hab.out]
          case measure => have := Hki.out; omega
        · have h3 : decide (x ≠ y) = true := by simp [hxy]
          rw [h3] at hne
          have Hxy := Lib.hid (And.intro hx (And.intro hy hxy))
          clear hx hy hxy h3
          go_wp2
          go_quiet (fail)
          go_wp2
          go_ret
          obtain ⟨e1, e2, e3⟩ := Hxy.out
          refine ⟨by rw [decide_eq_false (take_ne e1 e2 e3)]; rfl, by have := HM.out; repeat (first | exact this | apply Mods.drew | apply Mods.drewN)⟩
      · obtain rfl : i = a.length := by omega
        go_wp2_with (first | ((with_reducible refine wp_region_por ?_ ?_ ?_ ?_); kernel_rfl; kernel_rfl; (with_reducible repeat (first | exact calm_ret | refine calm_then ?_ | refine calm_in ?_ | refine calm_chk ?_ | refine calm_noGoto ?_))) | ((with_reducible refine chk_end ?_ ?_); kernel_rfl))
        go_ret
        have e1 := Hab.out
        rw [Hl.out, List.take_length, ← Hl.out, List.take_length] at e1
        exact ⟨by rw [decide_eq_true e1]; rfl, by have := HM.out; repeat (first | exact this | apply Mods.drew | apply Mods.drewN)⟩
  · have hl' : ((a.length : Int) == (b.length : Int)) = false := by simp; omega
    have Hl := Lib.hid hl
    clear hl
    go_wp2_with (first | ((with_reducible refine wp_region_por ?_ ?_ ?_ ?_); kernel_rfl; kernel_rfl; (with_reducible repeat (first | exact calm_ret | refine calm_then ?_ | refine calm_in ?_ | refine calm_chk ?_ | refine calm_noGoto ?_))) | ((with_reducible refine chk_end ?_ ?_); kernel_rfl))
    go_ret
    exact ⟨by rw [decide_eq_false (fun e => Hl.out (by rw [e]))]; rfl, Mods.refl _ _⟩
/-- Is the key in the list? -/
theorem key_cases (L : List Ent) (key : List UInt8) : (∀ x ∈ L, x.1 ≠ key) ∨ ∃ A t B, L = A ++ (key, t) :: B ∧ ∀ x ∈ A, x.1 ≠ key := by
  induction L with
  | nil => exact .inl fun x hx => by cases hx
  | cons y L ih =>
    by_cases h : y.1 = key
    · exact .inr ⟨[], y.2, L, by rw [← h]; rfl, fun x hx => by cases hx⟩
    · rcases ih with ih | ⟨A, t, B, rfl, hA⟩
      · exact .inl fun x hx => by rcases List.mem_cons.1 hx with rfl | hx; exact h; exact ih x hx
      · exact .inr ⟨y :: A, t, B, rfl, fun x hx => by rcases List.mem_cons.1 hx with rfl | hx; exact h; exact hA x hx⟩
def place (L : List Ent) (key : List UInt8) : Int := match L.findIdx? (fun x => decide (x.1 = key)) with | some i => (i : Int) | none => -1
theorem place_no {L : List Ent} {key : List UInt8} (h : ∀ x ∈ L, x.1 ≠ key) : place L key = -1 := by
  unfold place
  rw [List.findIdx?_eq_none_iff.2 fun x hx => decide_eq_false (h x hx)]
theorem place_at {L : List Ent} {key : List UInt8} {i : Nat} {x : Ent} (hx : L[i]? = some x) (e : x.1 = key) (h : ∀ y ∈ L.take i, y.1 ≠ key) : place L key = i := by
  have : L.findIdx? (fun x => decide (x.1 = key)) = some i := by
    rw [List.findIdx?_eq_some_iff_getElem]
    obtain ⟨h1, h2⟩ := List.getElem?_eq_some_iff.1 hx
    refine ⟨h1, by rw [h2]; simp [e], fun j hj => ?_⟩
    have : L[j] ∈ L.take i := by rw [List.mem_take_iff_getElem]; exact ⟨j, by omega, rfl⟩
    simpa using h _ this
  unfold place
  rw [this]
set_option maxHeartbeats 1600000 in
theorem find_K (w : World) (r : Nat) (lim : Int) (L : List Ent) (F : Nat → Prop) (key : List UInt8) (h : RefK w r lim L F) :
    Calls Try.prog 30 #[(.pointer (some ⟨r, 0, none⟩)), ks key] w (Ret fun v w' => v = .int .i64 (place L key) ∧ Mods No w w') := by
  obtain ⟨v, h⟩ := h
  obtain ⟨A, c, rfl, hac, hac2⟩ := h.rd.form
  have c0 := h.cells.at_ 1 rfl
  have hsm := h.small
  have Hh := Lib.hid h
  clear h
  unfold ks
  go_enter Try.func30, Try.ntmps30
  go_wp2_with (first | ((with_reducible refine wp_region_por ?_ ?_ ?_ ?_); kernel_rfl; kernel_rfl; (with_reducible repeat (first | exact calm_ret | refine calm_then ?_ | refine calm_in ?_ | refine calm_chk ?_ | refine calm_noGoto ?_))) | ((with_reducible refine chk_end ?_ ?_); kernel_rfl))
  go_loopg [5] L.length (fun k v5 wr => ∃ i : Nat, v5 = .int .i64 i ∧ i ≤ L.length ∧ k + i = L.length ∧ (∀ y ∈ L.take i, y.1 ≠ key) ∧ Mods No w wr)
  case atStart => exact ⟨0, rfl, Nat.zero_le _, rfl, fun y hy => by simp at hy, Mods.refl _ _⟩
  case round =>
    obtain ⟨i, rfl, hi, hki, hno, hm⟩ := hrel
    have c0 := (Hh.out.cells.mods hm fun e => e).at_ 1 rfl
    have HM := Lib.hid hm
    clear hm
    have Hki := Lib.hid hki
    have Hno := Lib.hid hno
    clear hki hno
    rcases Nat.lt_or_ge i L.length with h1 | h1
    · obtain ⟨x, hx⟩ := lt_get h1
      obtain ⟨b1, o1, rfl, _, x0, x1⟩ := (Hh.out.mods HM.out (fun e => e) fun _ _ e => e).rd.pair hx
      unfold ks at x0
      by_cases hk : x.1 = key
      · have hs : (x.1 == key) = true := by simp [hk]
        have Hk := Lib.hid (And.intro hx hk)
        clear hx hk
        go_wp2_with (first | ((with_reducible refine wp_region_por ?_ ?_ ?_ ?_); kernel_rfl; kernel_rfl; (with_reducible repeat (first | exact calm_ret | refine calm_then ?_ | refine calm_in ?_ | refine calm_chk ?_ | refine calm_noGoto ?_))) | ((with_reducible refine chk_end ?_ ?_); kernel_rfl))
        go_ret
        exact ⟨by rw [place_at Hk.out.1 Hk.out.2 Hno.out]; rfl, HM.out⟩
      · have hs : (x.1 == key) = false := by simp [hk]
        have Hk := Lib.hid (And.intro hx hk)
        clear hx hk
        go_wp2_with (first | ((with_reducible refine wp_region_por ?_ ?_ ?_ ?_); kernel_rfl; kernel_rfl; (with_reducible repeat (first | exact calm_ret | refine calm_then ?_ | refine calm_in ?_ | refine calm_chk ?_ | refine calm_noGoto ?_))) | ((with_reducible refine chk_end ?_ ?_); kernel_rfl))
        go_roundg (gk - 1)
        case rel =>
          have h5 := Hki.out
          refine ⟨i + 1, by go_num, h1, by omega, fun y hy => ?_, HM.out⟩
          rw [take_next Hk.out.1] at hy
          rcases List.mem_append.1 hy with hy | hy
          · exact Hno.out y hy
          · rw [List.mem_singleton.1 hy]; exact Hk.out.2
        case measure => have := Hki.out; omega
    · obtain rfl : i = L.length := by omega
      go_wp2_with (first | ((with_reducible refine wp_region_por ?_ ?_ ?_ ?_); kernel_rfl; kernel_rfl; (with_reducible repeat (first | exact calm_ret | refine calm_then ?_ | refine calm_in ?_ | refine calm_chk ?_ | refine calm_noGoto ?_))) | ((with_reducible refine chk_end ?_ ?_); kernel_rfl))
      go_ret
      have := Hno.out
      rw [List.take_length] at this
      exact ⟨by rw [place_no this]; rfl, HM.out⟩
end Go.Proofs.Ytmfpgghpnkmkpaa
