/- The law SinkNamed, walked. -/
import Derived.Test.YtmfpgghpnkmkpaaDoorSinkX
namespace Go.Proofs.YtmfpgghpnkmkpaaDoor
open Go.RowKit Go.Tum
theorem up_at {l : List Int} (h : l.Pairwise (· < ·)) {i : Nat} {x y : Int} (hx : l[i]? = some x) (hy : l[i + 1]? = some y) : x < y := by
  obtain ⟨h1, rfl⟩ := List.getElem?_eq_some_iff.1 hx
  obtain ⟨h2, rfl⟩ := List.getElem?_eq_some_iff.1 hy
  exact List.pairwise_iff_getElem.1 h i (i + 1) h1 h2 (Nat.lt_succ_self i)
theorem failed_at {cs : List ConnS} (h : ∀ c ∈ cs.dropLast, c.failed = true) {i : Nat} {c : ConnS} (hi : i + 1 < cs.length) (hc : cs[i]? = some c) : c.failed = true := by
  refine h c ?_
  obtain ⟨h1, rfl⟩ := List.getElem?_eq_some_iff.1 hc
  have h2 : i < cs.dropLast.length := by rw [List.length_dropLast]; omega
  rw [show cs[i] = cs.dropLast[i] by rw [List.getElem_dropLast]]
  exact List.getElem_mem h2
set_option maxHeartbeats 6400000 in
set_option maxRecDepth 100000 in
theorem sinkNamed_K (w : World) (ea : Addr) (hg : w.cell? ⟨0, 0, none⟩ = some (.iface 94 (.pointer (some ea)))) (pv lv : Value) (plan : Plan) (L : List (Value × List UInt8))
    (hp : Rd w (OldOf w) 2 pv plan.length (planCells plan)) (hl : Rd w (OldOf w) 1 lv L.length (L.map (·.1))) (hr : ∀ a ∈ L, Rd w (OldOf w) 1 a.1 a.2.length (vbs a.2))
    (np : plan.length ≤ 1048576) (nl : L.length ≤ 1048576) (nw : (L.map fun a => a.2.length + 1).sum ≤ 1048576) :
    Calls Tryd.prog 6 #[pv, lv] w (Ret fun v w' => v = .bool true ∧ Mods No w w') := by
  have hpl := played_K w ea hg pv lv plan L _ hp hl hr np nl nw rfl
  have hN := named plan (L.map (·.2)) L.length (by simp)
  generalize after plan (L.map (·.2)) L.length = s at hpl hN
  obtain ⟨Ap, cp, rfl, _, _⟩ := hp.form
  obtain ⟨Al, cl, rfl, _, _⟩ := hl.form
  have hcount := hN.count
  have hcn := hN.conns
  have hne : (((s.whole.length : Int) + s.lost.length) != L.length) = false := by
    rw [← Int.natCast_add, hcount]; simp
  have hgt : decide (L.length < s.conns.length) = false := decide_eq_false (by omega)
  have nwh : s.whole.length ≤ 1048576 := by omega
  have nlo : s.lost.length ≤ 1048576 := by omega
  have Hhp := Lib.hid hp
  clear hp
  have Hhl := Lib.hid hl
  clear hl
  have Hhr := Lib.hid hr
  clear hr
  have Hhpl := Lib.hid hpl
  clear hpl
  have HhN := Lib.hid hN
  clear hN
  have Hhcount := Lib.hid hcount
  clear hcount
  have Hhcn := Lib.hid hcn
  clear hcn
  have Hnp := Lib.hid np
  clear np
  have Hnw := Lib.hid nw
  clear nw
  clear hg
  go_enter Tryd.func6, Tryd.ntmps6
  go_wp2_with (first | (go_at_call 17; go_loud (refine ret_use (Hhpl.out) ?_; rintro v w1 ⟨Ac, cc, Aw, cw, A3, c3, bvs, rfl, hrep, hm⟩; have Hrep := Lib.hid hrep; have HM1 := Lib.hid hm; clear hrep hm)) | ((with_reducible refine wp_region_por ?_ ?_ ?_ ?_); kernel_rfl; kernel_rfl; (with_reducible repeat (first | exact calm_ret | refine calm_then ?_ | refine calm_in ?_ | refine calm_chk ?_ | refine calm_noGoto ?_))) | ((with_reducible refine chk_end ?_ ?_); kernel_rfl))
  have kx := Cells.new w1 38 #[.slice Ac s.conns.length cc, .slice Aw s.whole.length cw, .slice A3 s.lost.length c3, .int .i64 s.writes]
  have mx := HM1.out.alloc (.cells #[.slice Ac s.conns.length cc, .slice Aw s.whole.length cw, .slice A3 s.lost.length c3, .int .i64 s.writes] 38)
  have rx := Hrep.out.keep (fun gg hg => hg.2) ((Mods.refl No w1).alloc (.cells #[.slice Ac s.conns.length cc, .slice Aw s.whole.length cw, .slice A3 s.lost.length c3, .int .i64 s.writes] 38))
  generalize hW : w1.alloc (.cells #[.slice Ac s.conns.length cc, .slice Aw s.whole.length cw, .slice A3 s.lost.length c3, .int .i64 s.writes] 38) = W at kx mx rx ⊢
  generalize hkd : w1.heap.size = kd at kx ⊢
  have hold : ∀ W', Mods No W W' → Rd W' (OldOf w) 1 (.slice Al L.length cl) L.length (L.map (·.1)) := fun W' hm => Hhl.out.old (mx.trans hm fun _ _ e => e)
  have Hkx := Lib.hid kx
  clear kx
  have Hmx := Lib.hid mx
  clear mx
  have Hrx := Lib.hid rx
  clear rx
  have HhW := Lib.hid hW
  clear hW
  have Hhkd := Lib.hid hkd
  clear hkd
  have Hhold := Lib.hid hold
  clear hold
  go_loopg [7] (L.length + 1) (fun k v7 wr => ∃ i, v7 = .int .i64 (i : Nat) ∧ k + i = L.length + 1 ∧ i ≤ L.length ∧ Mods No W wr)
  case atStart => exact ⟨0, rfl, rfl, Nat.zero_le _, Mods.refl _ _⟩
  case round =>
    obtain ⟨i, rfl, hk, hi, hm0⟩ := hrel
    have hkr := Hkx.out.mods hm0 (fun e => e)
    have bc1 := hkr.at_ 1 rfl
    have bc2 := hkr.at_ 2 rfl
    have hrr := Hrx.out.keep (fun gg hg => Nat.lt_of_lt_of_le hg.2 (by rw [← HhW.out]; simp)) hm0
    rcases Nat.lt_or_ge i L.length with hlt | hge
    · have hlt' : decide (i < L.length) = true := decide_eq_true hlt
      obtain ⟨⟨bv, b⟩, ha⟩ : ∃ a, L[i]? = some a := ⟨_, List.getElem?_eq_getElem hlt⟩
      obtain ⟨g0, o0, y0, e0, hg0, hx⟩ := (Hhold.out _ hm0).at1 (i := i) hlt
      injection e0 with e0 _ e0'
      subst e0 e0'
      have x0 : wr.cell? ⟨g0, o0 + i, none⟩ = some bv := by rw [hx]; simp [ha]
      obtain ⟨Ab, cb, hbf, _, _⟩ := (Hhr.out _ (List.mem_of_getElem? ha)).form
      dsimp only at hbf
      subst hbf
      have hai : (L.map (·.2))[i]? = some b := by simp [ha]
      have hone := HhN.out.one i hlt
      have hcw := fun W' hm => has_K W' _ (.slice Aw s.whole.length cw) s.whole i (hrr.whole.same (hm : Same _ wr W')) (by omega)
      have hcl := fun W' hm => has_K W' _ (.slice A3 s.lost.length c3) s.lost i (hrr.lost.same (hm : Same _ wr W')) (by omega)
      have HM := Lib.hid hm0
      have HKr := Lib.hid hkr
      clear hx ha hm0 hkr hrr
      rcases hone with ⟨o1, o2⟩ | ⟨o1, o2, o3⟩
      · rcases Nat.eq_zero_or_pos b.length with hz | hz
        · have hz' : ((b.length : Int) == 0) = true := by simp [hz]
          have od1 := decide_eq_true o1
          have od2 := decide_eq_false o2
          clear o1 o2
          have Hhcw := Lib.hid hcw
          clear hcw
          have Hhcl := Lib.hid hcl
          clear hcl
          have Hhai := Lib.hid hai
          clear hai
          go_wp2_with (first | ((with_reducible refine wp_region_one 7 (fun g => g = kd) [5] 3 ?_ ?_ ?_ ?_ ?_); kernel_rfl; kernel_rfl; kernel_rfl; (with_reducible repeat (first | exact calm_ret | refine calm_then ?_ | refine calm_in ?_ | refine calm_chk ?_ | refine calm_noGoto ?_)); simp only [List.drop_succ_cons, List.drop_zero, List.take_succ_cons, List.take_zero]) | (with_reducible refine segEnd ?_) | (refine And.intro (Keep.one (S := No) ⟨rfl, rfl, rfl, Nat.le_refl _, fun _ _ _ => rfl⟩ (Cells.drew HKr.out) (fun e => e)) ?_) | ((with_reducible refine chkM_end (fun g => g = kd) ?_ [.pointer (some ⟨kd, 2, none⟩)] ?_ ?_ ?_); kernel_rfl; kernel_rfl; (intro v hv x hx; simp only [List.mem_cons, List.not_mem_nil, or_false] at hv; subst hv; (injection hx with hx; injection hx with hx; subst hx; simp))) | (go_at_call 19; (fail_if_success have := HQ); go_loud (refine ret_use (Hhcw.out _ (by intro _ _; rfl)) ?_; rintro v _ ⟨rfl, d1, rfl⟩; have HQ := Lib.hid True.intro; rw [od1])) | (go_at_call 19; go_loud (refine ret_use (Hhcl.out _ (by intro _ _; rfl)) ?_; rintro v _ ⟨rfl, d2, rfl⟩; rw [od2])) | ((with_reducible refine wp_region_por ?_ ?_ ?_ ?_); kernel_rfl; kernel_rfl; (with_reducible repeat (first | exact calm_ret | refine calm_then ?_ | refine calm_in ?_ | refine calm_chk ?_ | refine calm_noGoto ?_))) | ((with_reducible refine chk_end ?_ ?_); kernel_rfl))
          go_roundg (L.length - i)
          case rel => exact ⟨i + 1, by go_num, by omega, by omega, by repeat (first | exact HM.out | apply Mods.drew | apply Mods.drewN)⟩
          case measure => omega
        · have hz' : ((b.length : Int) == 0) = false := by rw [beq_eq_false_iff_ne]; omega
          have od1 := decide_eq_true o1
          have od2 := decide_eq_false o2
          clear o1 o2
          have Hhcw := Lib.hid hcw
          clear hcw
          have Hhcl := Lib.hid hcl
          clear hcl
          have Hhai := Lib.hid hai
          clear hai
          go_wp2_with (first | ((with_reducible refine wp_region_one 7 (fun g => g = kd) [5] 3 ?_ ?_ ?_ ?_ ?_); kernel_rfl; kernel_rfl; kernel_rfl; (with_reducible repeat (first | exact calm_ret | refine calm_then ?_ | refine calm_in ?_ | refine calm_chk ?_ | refine calm_noGoto ?_)); simp only [List.drop_succ_cons, List.drop_zero, List.take_succ_cons, List.take_zero]) | (with_reducible refine segEnd ?_) | (refine And.intro (Keep.one (S := No) ⟨rfl, rfl, rfl, Nat.le_refl _, fun _ _ _ => rfl⟩ (Cells.drew HKr.out) (fun e => e)) ?_) | ((with_reducible refine chkM_end (fun g => g = kd) ?_ [.pointer (some ⟨kd, 2, none⟩)] ?_ ?_ ?_); kernel_rfl; kernel_rfl; (intro v hv x hx; simp only [List.mem_cons, List.not_mem_nil, or_false] at hv; subst hv; (injection hx with hx; injection hx with hx; subst hx; simp))) | (go_at_call 19; (fail_if_success have := HQ); go_loud (refine ret_use (Hhcw.out _ (by intro _ _; rfl)) ?_; rintro v _ ⟨rfl, d1, rfl⟩; have HQ := Lib.hid True.intro; rw [od1])) | (go_at_call 19; go_loud (refine ret_use (Hhcl.out _ (by intro _ _; rfl)) ?_; rintro v _ ⟨rfl, d2, rfl⟩; rw [od2])) | ((with_reducible refine wp_region_por ?_ ?_ ?_ ?_); kernel_rfl; kernel_rfl; (with_reducible repeat (first | exact calm_ret | refine calm_then ?_ | refine calm_in ?_ | refine calm_chk ?_ | refine calm_noGoto ?_))) | ((with_reducible refine chk_end ?_ ?_); kernel_rfl))
          go_roundg (L.length - i)
          case rel => exact ⟨i + 1, by go_num, by omega, by omega, by repeat (first | exact HM.out | apply Mods.drew | apply Mods.drewN)⟩
          case measure => omega
      · have hz := o3 b hai
        have hz' : ((b.length : Int) == 0) = false := by simpa using hz
        have od1 := decide_eq_false o1
        have od2 := decide_eq_true o2
        clear o1 o2 o3
        have Hhcw := Lib.hid hcw
        clear hcw
        have Hhcl := Lib.hid hcl
        clear hcl
        have Hhai := Lib.hid hai
        clear hai
        go_wp2_with (first | ((with_reducible refine wp_region_one 7 (fun g => g = kd) [5] 3 ?_ ?_ ?_ ?_ ?_); kernel_rfl; kernel_rfl; kernel_rfl; (with_reducible repeat (first | exact calm_ret | refine calm_then ?_ | refine calm_in ?_ | refine calm_chk ?_ | refine calm_noGoto ?_)); simp only [List.drop_succ_cons, List.drop_zero, List.take_succ_cons, List.take_zero]) | (with_reducible refine segEnd ?_) | (refine And.intro (Keep.one (S := No) ⟨rfl, rfl, rfl, Nat.le_refl _, fun _ _ _ => rfl⟩ (Cells.drew HKr.out) (fun e => e)) ?_) | ((with_reducible refine chkM_end (fun g => g = kd) ?_ [.pointer (some ⟨kd, 2, none⟩)] ?_ ?_ ?_); kernel_rfl; kernel_rfl; (intro v hv x hx; simp only [List.mem_cons, List.not_mem_nil, or_false] at hv; subst hv; (injection hx with hx; injection hx with hx; subst hx; simp))) | (go_at_call 19; (fail_if_success have := HQ); go_loud (refine ret_use (Hhcw.out _ (by intro _ _; rfl)) ?_; rintro v _ ⟨rfl, d1, rfl⟩; have HQ := Lib.hid True.intro; rw [od1])) | (go_at_call 19; go_loud (refine ret_use (Hhcl.out _ (by intro _ _; rfl)) ?_; rintro v _ ⟨rfl, d2, rfl⟩; rw [od2])) | ((with_reducible refine wp_region_por ?_ ?_ ?_ ?_); kernel_rfl; kernel_rfl; (with_reducible repeat (first | exact calm_ret | refine calm_then ?_ | refine calm_in ?_ | refine calm_chk ?_ | refine calm_noGoto ?_))) | ((with_reducible refine chk_end ?_ ?_); kernel_rfl))
        go_roundg (L.length - i)
        case rel => exact ⟨i + 1, by go_num, by omega, by omega, by repeat (first | exact HM.out | apply Mods.drew | apply Mods.drewN)⟩
        case measure => omega
    · have hlt' : decide (i < L.length) = false := decide_eq_false (by omega)
      have HM := Lib.hid hm0
      clear hm0 hkr hrr
      go_wp2_with (first | ((with_reducible refine wp_region_por ?_ ?_ ?_ ?_); kernel_rfl; kernel_rfl; (with_reducible repeat (first | exact calm_ret | refine calm_then ?_ | refine calm_in ?_ | refine calm_chk ?_ | refine calm_noGoto ?_))) | ((with_reducible refine chk_end ?_ ?_); kernel_rfl))
      go_loopg [8] (s.whole.length + 1) (fun k v wr => ∃ m, v = .int .i64 ((m + 1 : Nat) : Int) ∧ k + m = s.whole.length + 1 ∧ m ≤ s.whole.length ∧ Mods No W wr)
      case atStart => exact ⟨0, rfl, rfl, Nat.zero_le _, by repeat (first | exact HM.out | apply Mods.drew | apply Mods.drewN)⟩
      case round =>
        obtain ⟨m, rfl, hk, hi, hm0⟩ := hrel
        have hkr := Hkx.out.mods hm0 (fun e => e)
        have bc1 := hkr.at_ 1 rfl
        have hrr := (Hrx.out.keep (fun gg hg => Nat.lt_of_lt_of_le hg.2 (by rw [← HhW.out]; simp)) hm0).whole
        have HM2 := Lib.hid hm0
        clear hm0 hkr
        rcases Nat.lt_or_ge (m + 1) s.whole.length with hlt | hge
        · have hlt' : decide (m + 1 < s.whole.length) = true := decide_eq_true hlt
          have hlt2 : m < s.whole.length := by omega
          obtain ⟨x, hx⟩ : ∃ x, s.whole[m]? = some x := ⟨_, List.getElem?_eq_getElem hlt2⟩
          obtain ⟨y, hy⟩ : ∃ y, s.whole[m + 1]? = some y := ⟨_, List.getElem?_eq_getElem hlt⟩
          have hxy := up_at HhN.out.wup hx hy
          have hxy' : decide (y ≤ x) = false := decide_eq_false (by omega)
          obtain ⟨g1, o1, c1, e1, _, h1⟩ := hrr.at1 (i := m) hlt2
          obtain ⟨g2, o2, c2, e2, _, h2⟩ := hrr.at1 (i := m + 1) hlt
          injection e1 with e1 _ e1'
          subst e1 e1'
          injection e2 with e2 _ e2'
          injection e2 with e2
          injection e2 with e2 e3 _
          subst e2 e3
          have y0 : wr.cell? ⟨g1, o1 + m, none⟩ = some (.int .i64 x) := by rw [h1]; simp [vis, hx]
          have y1 : wr.cell? ⟨g1, o1 + (m + 1), none⟩ = some (.int .i64 y) := by rw [h2]; simp [vis, hy]
          have hsub : (((m + 1 : Nat) : Int) - 1) = (m : Int) := by omega
          clear h1 h2 hx hy hrr hxy e2'
          go_wp2_with (first | ((with_reducible refine wp_region_por ?_ ?_ ?_ ?_); kernel_rfl; kernel_rfl; (with_reducible repeat (first | exact calm_ret | refine calm_then ?_ | refine calm_in ?_ | refine calm_chk ?_ | refine calm_noGoto ?_))) | ((with_reducible refine chk_end ?_ ?_); kernel_rfl))
          go_roundg (s.whole.length - m)
          case rel => exact ⟨m + 1, by go_num, by omega, by omega, by repeat (first | exact HM2.out | apply Mods.drew | apply Mods.drewN)⟩
          case measure => omega
        · have hlt' : decide (m + 1 < s.whole.length) = false := decide_eq_false (by omega)
          clear hrr
          go_wp2_with (first | ((with_reducible refine wp_region_por ?_ ?_ ?_ ?_); kernel_rfl; kernel_rfl; (with_reducible repeat (first | exact calm_ret | refine calm_then ?_ | refine calm_in ?_ | refine calm_chk ?_ | refine calm_noGoto ?_))) | ((with_reducible refine chk_end ?_ ?_); kernel_rfl))
          go_loopg [9] (s.lost.length + 1) (fun k v wr => ∃ m, v = .int .i64 ((m + 1 : Nat) : Int) ∧ k + m = s.lost.length + 1 ∧ m ≤ s.lost.length ∧ Mods No W wr)
          case atStart => exact ⟨0, rfl, rfl, Nat.zero_le _, by repeat (first | exact HM2.out | apply Mods.drew | apply Mods.drewN)⟩
          case round =>
            obtain ⟨m, rfl, hk, hi, hm0⟩ := hrel
            have hkr := Hkx.out.mods hm0 (fun e => e)
            have bc1 := hkr.at_ 2 rfl
            have hrr := (Hrx.out.keep (fun gg hg => Nat.lt_of_lt_of_le hg.2 (by rw [← HhW.out]; simp)) hm0).lost
            have HM3 := Lib.hid hm0
            clear hm0 hkr
            rcases Nat.lt_or_ge (m + 1) s.lost.length with hlt | hge
            · have hlt' : decide (m + 1 < s.lost.length) = true := decide_eq_true hlt
              have hlt2 : m < s.lost.length := by omega
              obtain ⟨x, hx⟩ : ∃ x, s.lost[m]? = some x := ⟨_, List.getElem?_eq_getElem hlt2⟩
              obtain ⟨y, hy⟩ : ∃ y, s.lost[m + 1]? = some y := ⟨_, List.getElem?_eq_getElem hlt⟩
              have hxy := up_at HhN.out.lup hx hy
              have hxy' : decide (y ≤ x) = false := decide_eq_false (by omega)
              obtain ⟨g1, o1, c1, e1, _, h1⟩ := hrr.at1 (i := m) hlt2
              obtain ⟨g2, o2, c2, e2, _, h2⟩ := hrr.at1 (i := m + 1) hlt
              injection e1 with e1 _ e1'
              subst e1 e1'
              injection e2 with e2 _ e2'
              injection e2 with e2
              injection e2 with e2 e3 _
              subst e2 e3
              have y0 : wr.cell? ⟨g1, o1 + m, none⟩ = some (.int .i64 x) := by rw [h1]; simp [vis, hx]
              have y1 : wr.cell? ⟨g1, o1 + (m + 1), none⟩ = some (.int .i64 y) := by rw [h2]; simp [vis, hy]
              have hsub : (((m + 1 : Nat) : Int) - 1) = (m : Int) := by omega
              clear h1 h2 hx hy hrr hxy e2'
              go_wp2_with (first | ((with_reducible refine wp_region_por ?_ ?_ ?_ ?_); kernel_rfl; kernel_rfl; (with_reducible repeat (first | exact calm_ret | refine calm_then ?_ | refine calm_in ?_ | refine calm_chk ?_ | refine calm_noGoto ?_))) | ((with_reducible refine chk_end ?_ ?_); kernel_rfl))
              go_roundg (s.lost.length - m)
              case rel => exact ⟨m + 1, by go_num, by omega, by omega, by repeat (first | exact HM3.out | apply Mods.drew | apply Mods.drewN)⟩
              case measure => omega
            · have hlt' : decide (m + 1 < s.lost.length) = false := decide_eq_false (by omega)
              clear hrr
              go_wp2_with (first | ((with_reducible refine wp_region_por ?_ ?_ ?_ ?_); kernel_rfl; kernel_rfl; (with_reducible repeat (first | exact calm_ret | refine calm_then ?_ | refine calm_in ?_ | refine calm_chk ?_ | refine calm_noGoto ?_))) | ((with_reducible refine chk_end ?_ ?_); kernel_rfl))
              go_loopg [10] (s.conns.length + 1) (fun k v wr => ∃ m, v = .int .i64 (m : Nat) ∧ k + m = s.conns.length + 1 ∧ m ≤ s.conns.length ∧ Mods No W wr)
              case atStart => exact ⟨0, rfl, rfl, Nat.zero_le _, by repeat (first | exact HM3.out | apply Mods.drew | apply Mods.drewN)⟩
              case round =>
                obtain ⟨m, rfl, hk, hi, hm0⟩ := hrel
                have hkr := Hkx.out.mods hm0 (fun e => e)
                have bc1 := hkr.at_ 0 rfl
                have hrr := Hrx.out.keep (fun gg hg => Nat.lt_of_lt_of_le hg.2 (by rw [← HhW.out]; simp)) hm0
                have hcl := Hhcn.out
                have HM4 := Lib.hid hm0
                clear hm0 hkr
                rcases Nat.lt_or_ge (m + 1) s.conns.length with hlt | hge
                · have hlt' : decide (m + 1 < s.conns.length) = true := decide_eq_true hlt
                  have hlt1 : decide ((m : Int) + 1 < (s.conns.length : Int)) = true := decide_eq_true (by omega)
                  have hlt2 : m < s.conns.length := by omega
                  obtain ⟨x, hx⟩ : ∃ x, s.conns[m]? = some x := ⟨_, List.getElem?_eq_getElem hlt2⟩
                  obtain ⟨bv, hbv⟩ : ∃ bv, bvs[m]? = some bv := ⟨_, List.getElem?_eq_getElem (by rw [hrr.len]; exact hlt2)⟩
                  have hf := failed_at HhN.out.failed hlt hx
                  obtain ⟨g1, o1, c1, e1, _, h1⟩ := hrr.conns.cells (by omega)
                  injection e1 with e1 _ e1'
                  subst e1 e1'
                  have y1 : wr.cell? ⟨g1, o1 + m * 2 + 1, none⟩ = some (.bool true) := by rw [Nat.add_assoc, h1 _ (by omega), (conCells_at bvs s.conns m bv x hbv hx).2, hf]
                  clear h1 hx hrr hf hbv
                  go_wp2_with (first | ((with_reducible refine wp_region_por ?_ ?_ ?_ ?_); kernel_rfl; kernel_rfl; (with_reducible repeat (first | exact calm_ret | refine calm_then ?_ | refine calm_in ?_ | refine calm_chk ?_ | refine calm_noGoto ?_))) | ((with_reducible refine chk_end ?_ ?_); kernel_rfl))
                  go_roundg (s.conns.length - m)
                  case rel => exact ⟨m + 1, by go_num, by omega, by omega, by repeat (first | exact HM4.out | apply Mods.drew | apply Mods.drewN)⟩
                  case measure => omega
                · have hlt' : decide (m + 1 < s.conns.length) = false := decide_eq_false (by omega)
                  have hlt1 : decide ((m : Int) + 1 < (s.conns.length : Int)) = false := decide_eq_false (by omega)
                  clear hrr
                  go_wp2_with (first | ((with_reducible refine wp_region_por ?_ ?_ ?_ ?_); kernel_rfl; kernel_rfl; (with_reducible repeat (first | exact calm_ret | refine calm_then ?_ | refine calm_in ?_ | refine calm_chk ?_ | refine calm_noGoto ?_))) | ((with_reducible refine chk_end ?_ ?_); kernel_rfl))
                  go_ret
                  exact ⟨rfl, Hmx.out.trans (by repeat (first | exact HM4.out | apply Mods.drew | apply Mods.drewN)) (fun _ _ e => e)⟩
end Go.Proofs.YtmfpgghpnkmkpaaDoor
