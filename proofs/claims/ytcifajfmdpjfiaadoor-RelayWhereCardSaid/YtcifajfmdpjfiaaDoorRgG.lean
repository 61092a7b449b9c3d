/- Package ring: functions handed to the library. -/
import Derived.Test.YtcifajfmdpjfiaaDoorRgF
namespace Go.Proofs.YtcifajfmdpjfiaaDoor
open Go.RowKit Go.Tum Go.Lib Go.Sort
set_option maxRecDepth 100000
/-- func(s) bool { return !node(s) } -/
theorem nodeF_K (w : World) (s : Tx) : Calls Tryd.prog 38 #[ks s] w (Ret fun v w' => v = .bool (!fitB s) ∧ Mods No w w') := by
  have hn := node_K w s
  obtain ⟨r, hr⟩ : ∃ r, r = fitB s := ⟨_, rfl⟩
  rw [← hr] at hn ⊢
  clear hr
  have Hhn := Lib.hid hn
  clear hn
  unfold ks at *
  go_enter Tryd.func38, Tryd.ntmps38
  go_wp2_with (first | (go_at_call 39; (refine ret_use (Hhn.out) ?_; rintro v w2 ⟨rfl, rfl⟩)) | ((with_reducible refine wp_region_por ?_ ?_ ?_ ?_); kernel_rfl; kernel_rfl; (with_reducible repeat (first | exact calm_ret | refine calm_then ?_ | refine calm_in ?_ | refine calm_chk ?_ | refine calm_noGoto ?_))) | ((with_reducible refine chk_end ?_ ?_); kernel_rfl))
  go_ret
  exact ⟨rfl, by repeat (first | exact Mods.refl _ _ | apply Mods.alloc | apply Mods.drew)⟩
def cmpAt (a h : Nat) : Int := if a < h then -1 else if h < a then 1 else 0
/-- func(p, h) int: p.At against h -/
theorem at_K (w : World) (p : Plc) (h : Nat) : Calls Tryd.prog 47 #[.agg #[.int .u64 (p.1 : Int), ks p.2], .int .u64 (h : Int)] w (Ret fun v w' => v = .int .i64 (cmpAt p.1 h) ∧ Mods No w w') := by
  unfold ks at *
  by_cases h1 : p.1 < h
  · have h1' : decide (p.1 < h) = true := decide_eq_true h1
    have He := Lib.hid (show cmpAt p.1 h = -1 from if_pos h1)
    clear h1
    go_enter Tryd.func47, Tryd.ntmps47
    go_wp2_with (first | ((with_reducible refine wp_region_por ?_ ?_ ?_ ?_); kernel_rfl; kernel_rfl; (with_reducible repeat (first | exact calm_ret | refine calm_then ?_ | refine calm_in ?_ | refine calm_chk ?_ | refine calm_noGoto ?_))) | ((with_reducible refine chk_end ?_ ?_); kernel_rfl))
    go_ret
    exact ⟨by rw [He.out]; rfl, by repeat (first | exact Mods.refl _ _ | apply Mods.alloc | apply Mods.drew)⟩
  · have h1' : decide (p.1 < h) = false := decide_eq_false h1
    by_cases h2 : h < p.1
    · have h2' : decide (h < p.1) = true := decide_eq_true h2
      have He := Lib.hid (show cmpAt p.1 h = 1 from (if_neg h1).trans (if_pos h2))
      clear h1 h2
      go_enter Tryd.func47, Tryd.ntmps47
      go_wp2_with (first | ((with_reducible refine wp_region_por ?_ ?_ ?_ ?_); kernel_rfl; kernel_rfl; (with_reducible repeat (first | exact calm_ret | refine calm_then ?_ | refine calm_in ?_ | refine calm_chk ?_ | refine calm_noGoto ?_))) | ((with_reducible refine chk_end ?_ ?_); kernel_rfl))
      go_ret
      exact ⟨by rw [He.out]; rfl, by repeat (first | exact Mods.refl _ _ | apply Mods.alloc | apply Mods.drew)⟩
    · have h2' : decide (h < p.1) = false := decide_eq_false h2
      have He := Lib.hid (show cmpAt p.1 h = 0 from (if_neg h1).trans (if_neg h2))
      clear h1 h2
      go_enter Tryd.func47, Tryd.ntmps47
      go_wp2_with (first | ((with_reducible refine wp_region_por ?_ ?_ ?_ ?_); kernel_rfl; kernel_rfl; (with_reducible repeat (first | exact calm_ret | refine calm_then ?_ | refine calm_in ?_ | refine calm_chk ?_ | refine calm_noGoto ?_))) | ((with_reducible refine chk_end ?_ ?_); kernel_rfl))
      go_ret
      exact ⟨by rw [He.out]; rfl, by repeat (first | exact Mods.refl _ _ | apply Mods.alloc | apply Mods.drew)⟩
def idx {α : Type} (p : α → Bool) (L : List α) : Int := match L.findIdx? p with | some i => (i : Int) | none => -1
theorem idx_no {α : Type} {p : α → Bool} {L : List α} (h : ∀ x ∈ L, p x = false) : idx p L = -1 := by
  unfold idx
  rw [List.findIdx?_eq_none_iff.2 h]
theorem idx_at {α : Type} {p : α → Bool} {L : List α} {i : Nat} {x : α} (hx : L[i]? = some x) (e : p x = true) (h : ∀ y ∈ L.take i, p y = false) : idx p L = i := by
  have : L.findIdx? p = some i := by
    rw [List.findIdx?_eq_some_iff_getElem]
    obtain ⟨h1, h2⟩ := List.getElem?_eq_some_iff.1 hx
    refine ⟨h1, by rw [h2]; exact e, fun j hj => ?_⟩
    have : L[j] ∈ L.take i := by rw [List.mem_take_iff_getElem]; exact ⟨j, by omega, rfl⟩
    simp [h _ this]
  unfold idx
  rw [this]
set_option maxHeartbeats 1600000 in
theorem idxT_K (w : World) (F : Nat → Prop) (v : Value) (L : List Tx) (p : Tx → Bool) (hr : Rd w F 1 v L.length (List.map ks L)) (hF : ∀ g, F g → g < w.heap.size) (hs : L.length ≤ 65536)
    (hp : ∀ w', Mods No w w' → ∀ x : Tx, Calls Tryd.prog 38 #[ks x] w' (Ret fun r w2 => r = .bool (p x) ∧ Mods No w' w2)) :
    Calls Tryd.prog 52 #[v, .func (.func 38) #[] #[]] w (Ret fun r w' => r = .int .i64 (idx p L) ∧ Mods No w w') := by
  obtain ⟨A, c, rfl, hac, hac2⟩ := hr.form
  have hr' := fun (w' : World) (hm : Mods No w w') => hr.same (hm.same fun k hk => ⟨hF k hk, fun e => e⟩)
  clear hF
  have Hhr := Lib.hid hr
  clear hr
  have Hhr' := Lib.hid hr'
  clear hr'
  have Hhp := Lib.hid hp
  clear hp
  unfold ks at *
  go_enter Tryd.func52, Tryd.ntmps52
  go_wp2_with (first | ((with_reducible refine wp_region_por ?_ ?_ ?_ ?_); kernel_rfl; kernel_rfl; (with_reducible repeat (first | exact calm_ret | refine calm_then ?_ | refine calm_in ?_ | refine calm_chk ?_ | refine calm_noGoto ?_))) | ((with_reducible refine chk_end ?_ ?_); kernel_rfl))
  go_loopg [8] L.length (fun k v8 wr => ∃ i : Nat, v8 = .int .i64 i ∧ i ≤ L.length ∧ k + i = L.length ∧ (∀ y ∈ L.take i, p y = false) ∧ Mods No w wr)
  case atStart => exact ⟨0, rfl, Nat.zero_le _, rfl, fun y hy => by simp at hy, Mods.refl _ _⟩
  case round =>
    obtain ⟨i, rfl, hi, hki, hno, hm⟩ := hrel
    have Hki := Lib.hid hki
    have HM := Lib.hid hm
    have Hhno := Lib.hid hno
    clear hno
    clear hki hm
    rcases Nat.lt_or_ge i L.length with h1 | h1
    · obtain ⟨x, hx⟩ := lt_get h1
      obtain ⟨b1, o1, rfl, _, x0⟩ := (Hhr'.out _ HM.out).tx rfl hx
      unfold ks at x0
      have hpc := Hhp.out wr HM.out x
      obtain ⟨r, hr⟩ : ∃ r, p x = r := ⟨_, rfl⟩
      rw [hr] at hpc
      have HX := Lib.hid (And.intro hx hr)
      clear hx hr
      have Hhpc := Lib.hid hpc
      clear hpc
      cases r with
      | true =>
        go_wp2_with (first | (go_at_call 38; (refine ret_use (Hhpc.out) ?_; rintro u w2 ⟨rfl, hm2⟩; have HM2 := Lib.hid (HM.out.trans hm2 fun _ _ e => e); clear hm2)) | ((with_reducible refine wp_region_por ?_ ?_ ?_ ?_); kernel_rfl; kernel_rfl; (with_reducible repeat (first | exact calm_ret | refine calm_then ?_ | refine calm_in ?_ | refine calm_chk ?_ | refine calm_noGoto ?_))) | ((with_reducible refine chk_end ?_ ?_); kernel_rfl))
        go_ret
        exact ⟨by rw [idx_at HX.out.1 HX.out.2 Hhno.out]; rfl, HM2.out⟩
      | false =>
        go_wp2_with (first | (go_at_call 38; (refine ret_use (Hhpc.out) ?_; rintro u w2 ⟨rfl, hm2⟩; have HM2 := Lib.hid (HM.out.trans hm2 fun _ _ e => e); clear hm2)) | ((with_reducible refine wp_region_por ?_ ?_ ?_ ?_); kernel_rfl; kernel_rfl; (with_reducible repeat (first | exact calm_ret | refine calm_then ?_ | refine calm_in ?_ | refine calm_chk ?_ | refine calm_noGoto ?_))) | ((with_reducible refine chk_end ?_ ?_); kernel_rfl))
        go_roundg (gk - 1)
        case rel =>
          have := Hki.out
          refine ⟨i + 1, by go_num, h1, by omega, fun y hy => ?_, HM2.out⟩
          rw [take_nx HX.out.1] at hy
          rcases List.mem_append.1 hy with hy | hy
          · exact Hhno.out y hy
          · rw [List.mem_singleton.1 hy]; exact HX.out.2
        case measure => have := Hki.out; omega
    · obtain rfl : i = L.length := by omega
      go_wp2_with (first | ((with_reducible refine wp_region_por ?_ ?_ ?_ ?_); kernel_rfl; kernel_rfl; (with_reducible repeat (first | exact calm_ret | refine calm_then ?_ | refine calm_in ?_ | refine calm_chk ?_ | refine calm_noGoto ?_))) | ((with_reducible refine chk_end ?_ ?_); kernel_rfl))
      go_ret
      have := Hhno.out
      rw [List.take_length] at this
      exact ⟨by rw [idx_no this]; rfl, HM.out⟩
end Go.Proofs.YtcifajfmdpjfiaaDoor
