/- Package tumblerref24: Same, SameCounts. -/
import Derived.Test.YtcifajfmdpjfiaaDoorRlI
import Derived.Test.YtcifajfmdpjfiaaDoorRkA
namespace Go.Proofs.YtcifajfmdpjfiaaDoor
open Go.RowKit Go.Tum Go.Lib Go.Sort
set_option maxRecDepth 100000
/-- Record i of a list that reads. -/
theorem _root_.Go.Tum.Rd.rcd {w : World} {F : Nat → Prop} {A : Option Addr} {c n : Nat} {l : List Rcd} (h : Rd w F 4 (.slice A n c) n (rcs l)) (hn : l.length = n) {i : Nat} {x : Rcd} (hx : l[i]? = some x) :
    ∃ b off, A = some ⟨b, off, none⟩ ∧ F b ∧ w.cell? ⟨b, off + i * 4, none⟩ = some (ks x.1) ∧ w.cell? ⟨b, off + i * 4 + 1, none⟩ = some (.int .i64 x.2.1) ∧ w.cell? ⟨b, off + i * 4 + 2, none⟩ = some (.int .u64 x.2.2.1) ∧ w.cell? ⟨b, off + i * 4 + 3, none⟩ = some (.int .i64 x.2.2.2) := by
  subst hn
  obtain ⟨hi, _⟩ := List.getElem?_eq_some_iff.1 hx
  obtain ⟨b, off, c', e, hF, hc⟩ := h.cells (by omega)
  injection e with e
  have hg : ∀ r, r < 4 → w.cell? ⟨b, off + (i * 4 + r), none⟩ = (rc x)[r]? := fun r hr => by
    rw [hc _ (by omega), rcs_get l i r hr, hx]; rfl
  exact ⟨b, off, e, hF, hg 0 (by decide), hg 1 (by decide), hg 2 (by decide), hg 3 (by decide)⟩
theorem cc_get (l : List Cnt) (i r : Nat) (hr : r < 5) : (ccs l)[i * 5 + r]? = (l[i]?).bind fun x => (cc x)[r]? := flatMap_get cc_len l i r hr
/-- Count i of a list that reads. -/
theorem _root_.Go.Tum.Rd.cnt {w : World} {F : Nat → Prop} {A : Option Addr} {c n : Nat} {l : List Cnt} (h : Rd w F 5 (.slice A n c) n (ccs l)) (hn : l.length = n) {i : Nat} {x : Cnt} (hx : l[i]? = some x) :
    ∃ b off, A = some ⟨b, off, none⟩ ∧ F b ∧ w.cell? ⟨b, off + i * 5, none⟩ = some (ks x.1) ∧ w.cell? ⟨b, off + i * 5 + 1, none⟩ = some (.bool x.2.1) ∧ w.cell? ⟨b, off + i * 5 + 2, none⟩ = some (.int .i64 (x.2.2.1 : Int)) ∧ w.cell? ⟨b, off + i * 5 + 3, none⟩ = some (.int .i64 (x.2.2.2.1 : Int)) ∧ w.cell? ⟨b, off + i * 5 + 4, none⟩ = some (.int .i64 (x.2.2.2.2 : Int)) := by
  subst hn
  obtain ⟨hi, _⟩ := List.getElem?_eq_some_iff.1 hx
  obtain ⟨b, off, c', e, hF, hc⟩ := h.cells (by omega)
  injection e with e
  have hg : ∀ r, r < 5 → w.cell? ⟨b, off + (i * 5 + r), none⟩ = (cc x)[r]? := fun r hr => by
    rw [hc _ (by omega), cc_get l i r hr, hx]; rfl
  exact ⟨b, off, e, hF, hg 0 (by decide), hg 1 (by decide), hg 2 (by decide), hg 3 (by decide), hg 4 (by decide)⟩
/-- A count's numbers, as they may be. -/
def toI (x : Cnt) : CntI := (x.1, x.2.1, x.2.2.1, x.2.2.2.1, x.2.2.2.2)
theorem toI_iff (x y : Cnt) : toI x = toI y ↔ x = y := by
  obtain ⟨a, b, c, d, e⟩ := x
  obtain ⟨a', b', c', d', e'⟩ := y
  simp [toI]
  intro _ _
  omega
theorem toI_dec (x y : Cnt) : decide (toI x = toI y) = decide (x = y) := by simp [toI_iff]
set_option maxHeartbeats 1600000 in
theorem sameR_K (w : World) (F G : Nat → Prop) (v u : Value) (a b : List Rcd) (ha : Rd w F 4 v a.length (rcs a)) (hb : Rd w G 4 u b.length (rcs b)) (hF : ∀ k, F k → k < w.heap.size) (hG : ∀ k, G k → k < w.heap.size) :
    Calls Tryd.prog 15 #[v, u] w (Ret fun r w' => r = .bool (decide (a = b)) ∧ Mods No w w') := by
  obtain ⟨A, c, rfl, hac, hac2⟩ := ha.form
  obtain ⟨B, e, rfl, hbc, hbc2⟩ := hb.form
  have ha' := fun (w' : World) (hm : Mods No w w') => ha.same (hm.same fun k hk => ⟨hF k hk, fun e => e⟩)
  have hb' := fun (w' : World) (hm : Mods No w w') => hb.same (hm.same fun k hk => ⟨hG k hk, fun e => e⟩)
  clear hF hG
  have hsm : a.length ≤ 9223372036854775807 := by unfold maxLen at hac2; omega
  have Hha := Lib.hid ha
  clear ha
  have Hhb := Lib.hid hb
  clear hb
  have Hha' := Lib.hid ha'
  clear ha'
  have Hhb' := Lib.hid hb'
  clear hb'
  go_enter Tryd.func15, Tryd.ntmps15
  by_cases hl : a.length = b.length
  · have hl' : ((a.length : Int) == (b.length : Int)) = true := by simp [hl]
    have Hl := Lib.hid hl
    clear hl
    go_wp2_with (first | ((with_reducible refine wp_region_por ?_ ?_ ?_ ?_); kernel_rfl; kernel_rfl; (with_reducible repeat (first | exact calm_ret | refine calm_then ?_ | refine calm_in ?_ | refine calm_chk ?_ | refine calm_noGoto ?_))) | ((with_reducible refine chk_end ?_ ?_); kernel_rfl))
    go_loopg [5] a.length (fun k v5 wr => ∃ i : Nat, v5 = .int .i64 i ∧ i ≤ a.length ∧ k + i = a.length ∧ a.take i = b.take i ∧ Mods No w wr)
    case atStart => exact ⟨0, rfl, Nat.zero_le _, rfl, rfl, Mods.refl _ _⟩
    case round =>
      obtain ⟨i, rfl, hi, hki, hab, hm⟩ := hrel
      have Hki := Lib.hid hki
      have Hab := Lib.hid hab
      have HM := Lib.hid hm
      clear hki hab hm
      rcases Nat.lt_or_ge i a.length with h1 | h1
      · have h2 : i < b.length := by have := Hl.out; omega
        obtain ⟨x, hx⟩ := lt_get h1
        obtain ⟨y, hy⟩ := lt_get h2
        obtain ⟨b1, o1, rfl, _, x0, x1, x2, x3⟩ := (Hha'.out _ HM.out).rcd rfl hx
        obtain ⟨b2, o2, rfl, _, y0, y1, y2, y3⟩ := (Hhb'.out _ HM.out).rcd rfl hy
        have hne := fun w => rec_neq x y w; unfold rv at hne; unfold ks at x0 y0 hne
        by_cases hxy : x = y
        · have h3 : decide (x = y) = true := (by simp [hxy]); rw [h3] at hne; clear h3
          have Hxy := Lib.hid (And.intro hx (And.intro hy hxy))
          clear hx hy hxy
          go_wp2
          go_quiet (fail)
          go_wp2
          go_roundg (gk - 1)
          case rel =>
            have h5 := Hki.out
            refine ⟨i + 1, by go_num, h1, by omega, ?_, by have := HM.out; repeat (first | exact this | apply Mods.drew | apply Mods.drewN)⟩
            obtain ⟨e1, e2, e3⟩ := Hxy.out
            rw [take_nx e1, take_nx e2, e3, Hab.out]
          case measure => have := Hki.out; omega
        · have h3 : decide (x = y) = false := (by simp [hxy]); rw [h3] at hne; clear h3
          have Hxy := Lib.hid (And.intro hx (And.intro hy hxy))
          clear hx hy hxy
          go_wp2
          go_quiet (fail)
          go_wp2
          go_ret
          obtain ⟨e1, e2, e3⟩ := Hxy.out
          refine ⟨by rw [decide_eq_false (take_ne e1 e2 e3)]; rfl, by have := HM.out; repeat (first | exact this | apply Mods.drew | apply Mods.drewN)⟩
      · obtain rfl : i = a.length := by omega
        go_wp2_with (first | ((with_reducible refine wp_region_por ?_ ?_ ?_ ?_); kernel_rfl; kernel_rfl; (with_reducible repeat (first | exact calm_ret | refine calm_then ?_ | refine calm_in ?_ | refine calm_chk ?_ | refine calm_noGoto ?_))) | ((with_reducible refine chk_end ?_ ?_); kernel_rfl))
        go_ret
        have e1 := Hab.out
        rw [Hl.out, List.take_length, ← Hl.out, List.take_length] at e1
        exact ⟨by rw [decide_eq_true e1]; rfl, by have := HM.out; repeat (first | exact this | apply Mods.drew | apply Mods.drewN)⟩
  · have hl' : ((a.length : Int) == (b.length : Int)) = false := by simp; omega
    have Hl := Lib.hid hl
    clear hl
    go_wp2_with (first | ((with_reducible refine wp_region_por ?_ ?_ ?_ ?_); kernel_rfl; kernel_rfl; (with_reducible repeat (first | exact calm_ret | refine calm_then ?_ | refine calm_in ?_ | refine calm_chk ?_ | refine calm_noGoto ?_))) | ((with_reducible refine chk_end ?_ ?_); kernel_rfl))
    go_ret
    exact ⟨by rw [decide_eq_false (fun e => Hl.out (by rw [e]))]; rfl, Mods.refl _ _⟩
set_option maxHeartbeats 1600000 in
theorem sameC_K (w : World) (F G : Nat → Prop) (v u : Value) (a b : List Cnt) (ha : Rd w F 5 v a.length (ccs a)) (hb : Rd w G 5 u b.length (ccs b)) (hF : ∀ k, F k → k < w.heap.size) (hG : ∀ k, G k → k < w.heap.size) :
    Calls Tryd.prog 19 #[v, u] w (Ret fun r w' => r = .bool (decide (a = b)) ∧ Mods No w w') := by
  obtain ⟨A, c, rfl, hac, hac2⟩ := ha.form
  obtain ⟨B, e, rfl, hbc, hbc2⟩ := hb.form
  have ha' := fun (w' : World) (hm : Mods No w w') => ha.same (hm.same fun k hk => ⟨hF k hk, fun e => e⟩)
  have hb' := fun (w' : World) (hm : Mods No w w') => hb.same (hm.same fun k hk => ⟨hG k hk, fun e => e⟩)
  clear hF hG
  have hsm : a.length ≤ 9223372036854775807 := by unfold maxLen at hac2; omega
  have Hha := Lib.hid ha
  clear ha
  have Hhb := Lib.hid hb
  clear hb
  have Hha' := Lib.hid ha'
  clear ha'
  have Hhb' := Lib.hid hb'
  clear hb'
  go_enter Tryd.func19, Tryd.ntmps19
  by_cases hl : a.length = b.length
  · have hl' : ((a.length : Int) == (b.length : Int)) = true := by simp [hl]
    have Hl := Lib.hid hl
    clear hl
    go_wp2_with (first | ((with_reducible refine wp_region_por ?_ ?_ ?_ ?_); kernel_rfl; kernel_rfl; (with_reducible repeat (first | exact calm_ret | refine calm_then ?_ | refine calm_in ?_ | refine calm_chk ?_ | refine calm_noGoto ?_))) | ((with_reducible refine chk_end ?_ ?_); kernel_rfl))
    go_loopg [5] a.length (fun k v5 wr => ∃ i : Nat, v5 = .int .i64 i ∧ i ≤ a.length ∧ k + i = a.length ∧ a.take i = b.take i ∧ Mods No w wr)
    case atStart => exact ⟨0, rfl, Nat.zero_le _, rfl, rfl, Mods.refl _ _⟩
    case round =>
      obtain ⟨i, rfl, hi, hki, hab, hm⟩ := hrel
      have Hki := Lib.hid hki
      have Hab := Lib.hid hab
      have HM := Lib.hid hm
      clear hki hab hm
      rcases Nat.lt_or_ge i a.length with h1 | h1
      · have h2 : i < b.length := by have := Hl.out; omega
        obtain ⟨x, hx⟩ := lt_get h1
        obtain ⟨y, hy⟩ := lt_get h2
        obtain ⟨b1, o1, rfl, _, x0, x1, x2, x3, x4⟩ := (Hha'.out _ HM.out).cnt rfl hx
        obtain ⟨b2, o2, rfl, _, y0, y1, y2, y3, y4⟩ := (Hhb'.out _ HM.out).cnt rfl hy
        have hne := fun w => cnt_neq (toI x) (toI y) w; unfold cvI toI at hne; dsimp only at hne; unfold ks at x0 y0 hne
        by_cases hxy : x = y
        · have h3 : decide (toI x = toI y) = true := (by rw [toI_dec]; simp [hxy]); unfold toI at h3; rw [h3] at hne; clear h3
          have Hxy := Lib.hid (And.intro hx (And.intro hy hxy))
          clear hx hy hxy
          go_wp2
          go_quiet (fail)
          go_wp2
          go_roundg (gk - 1)
          case rel =>
            have h5 := Hki.out
            refine ⟨i + 1, by go_num, h1, by omega, ?_, by have := HM.out; repeat (first | exact this | apply Mods.drew | apply Mods.drewN)⟩
            obtain ⟨e1, e2, e3⟩ := Hxy.out
            rw [take_nx e1, take_nx e2, e3, Hab.out]
          case measure => have := Hki.out; omega
        · have h3 : decide (toI x = toI y) = false := (by rw [toI_dec]; simp [hxy]); unfold toI at h3; rw [h3] at hne; clear h3
          have Hxy := Lib.hid (And.intro hx (And.intro hy hxy))
          clear hx hy hxy
          go_wp2
          go_quiet (fail)
          go_wp2
          go_ret
          obtain ⟨e1, e2, e3⟩ := Hxy.out
          refine ⟨by rw [decide_eq_false (take_ne e1 e2 e3)]; rfl, by have := HM.out; repeat (first | exact this | apply Mods.drew | apply Mods.drewN)⟩
      · obtain rfl : i = a.length := by omega
        go_wp2_with (first | ((with_reducible refine wp_region_por ?_ ?_ ?_ ?_); kernel_rfl; kernel_rfl; (with_reducible repeat (first | exact calm_ret | refine calm_then ?_ | refine calm_in ?_ | refine calm_chk ?_ | refine calm_noGoto ?_))) | ((with_reducible refine chk_end ?_ ?_); kernel_rfl))
        go_ret
        have e1 := Hab.out
        rw [Hl.out, List.take_length, ← Hl.out, List.take_length] at e1
        exact ⟨by rw [decide_eq_true e1]; rfl, by have := HM.out; repeat (first | exact this | apply Mods.drew | apply Mods.drewN)⟩
  · have hl' : ((a.length : Int) == (b.length : Int)) = false := by simp; omega
    have Hl := Lib.hid hl
    clear hl
    go_wp2_with (first | ((with_reducible refine wp_region_por ?_ ?_ ?_ ?_); kernel_rfl; kernel_rfl; (with_reducible repeat (first | exact calm_ret | refine calm_then ?_ | refine calm_in ?_ | refine calm_chk ?_ | refine calm_noGoto ?_))) | ((with_reducible refine chk_end ?_ ?_); kernel_rfl))
    go_ret
    exact ⟨by rw [decide_eq_false (fun e => Hl.out (by rw [e]))]; rfl, Mods.refl _ _⟩
end Go.Proofs.YtcifajfmdpjfiaaDoor
