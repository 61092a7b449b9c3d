/- The reference's choice, and its opening of a connection. -/
import Derived.Test.YtmfpgghpnkmkpaaDoorSinkK
import Derived.Test.YtmfpgghpnkmkpaaDoorSinkJ
namespace Go.Proofs.YtmfpgghpnkmkpaaDoor
open Go.RowKit Go.Tum
set_option maxHeartbeats 800000 in
set_option maxRecDepth 100000 in
theorem choice_any (w : World) (q n wr : Nat) (A : Option Addr) (cp : Nat) (s1 s2 s3 s5 s6 : Value) (plan : Plan) (G : Nat → Prop) (hq : Cells w q 41 #[.slice A plan.length cp, s1, s2, s3, .int .i64 wr, s5, s6]) (hpl : Rd w G 2 (.slice A plan.length cp) plan.length (planCells plan))
    (hG : ∀ g, G g → g ≠ q) (h1 : plan.length ≤ 1000000000) (h2 : n ≤ 1000000000) (h4 : wr ≤ 1000000000000) :
    Calls Tryd.prog 30 #[(.pointer (some ⟨q, 0, none⟩)), .int .i64 n] w (Ret fun v w' => v = .tuple #[.int .i64 (pick plan wr n).1, .bool (pick plan wr n).2] ∧ ∃ d, w' = (w.setCell ⟨q, 4, none⟩ (.int .i64 (wr + 1 : Nat))).drewN d) := by
  have q0 : w.cell? ⟨q, 0, none⟩ = some (.slice A plan.length cp) := hq.at_ 0 rfl
  have q4 : w.cell? ⟨q, 4, none⟩ = some (.int .i64 wr) := hq.at_ 4 rfl
  have f4 := hq.frozen 4
  cases hpw : plan[wr]? with
  | none =>
    have hpk : pick plan wr n = (n, false) := by simp [pick, hpw]
    have hlt : decide (plan.length ≤ wr) = true := by
      have := List.getElem?_eq_none_iff.1 hpw
      simp; omega
    rw [hpk]
    have Hhpk := Lib.hid hpk
    clear hpk
    have Hhpw := Lib.hid hpw
    clear hpw
    have Hhpl := Lib.hid hpl
    clear hpl
    have Hhq := Lib.hid hq
    clear hq
    go_enter Tryd.func30, Tryd.ntmps30
    go_wp2_with (first | ((with_reducible refine wp_region_por ?_ ?_ ?_ ?_); kernel_rfl; kernel_rfl; (with_reducible repeat (first | exact calm_ret | refine calm_then ?_ | refine calm_in ?_ | refine calm_chk ?_ | refine calm_noGoto ?_))) | ((with_reducible refine chk_end ?_ ?_); kernel_rfl))
    go_ret2
    exact ⟨rfl, 0, rfl⟩
  | some x =>
    obtain ⟨ct, fa⟩ := x
    have hwl : wr < plan.length := (List.getElem?_eq_some_iff.1 hpw).1
    have hpk : pick plan wr n = (min ct.toNat n, fa) := by simp [pick, hpw]
    have hlt : decide (plan.length ≤ wr) = false := by simp; omega
    obtain ⟨ab, ao, c', e, hab, hpc'⟩ := hpl.cells (by omega)
    injection e with e1 _ e2
    subst e1
    subst e2
    have c0 : w.cell? ⟨ab, ao + wr * 2, none⟩ = some (.int .i64 ct) := by rw [hpc' _ (by omega)]; exact (planCells_at plan wr ct fa hpw).1
    have c1 : w.cell? ⟨ab, ao + wr * 2 + 1, none⟩ = some (.bool fa) := by rw [Nat.add_assoc, hpc' _ (by omega)]; exact (planCells_at plan wr ct fa hpw).2
    have hne := hG ab hab
    rw [hpk]
    dsimp only
    have Hhpk := Lib.hid hpk
    clear hpk
    have Hhpw := Lib.hid hpw
    clear hpw
    have Hhpl := Lib.hid hpl
    clear hpl
    have Hhq := Lib.hid hq
    clear hq
    have Hhpc' := Lib.hid hpc'
    clear hpc'
    go_enter Tryd.func30, Tryd.ntmps30
    rcases Int.lt_or_le ct 0 with hct | hct
    · have hct' : decide (ct < 0) = true := decide_eq_true hct
      go_wp2_with (first | ((with_reducible refine wp_region_por ?_ ?_ ?_ ?_); kernel_rfl; kernel_rfl; (with_reducible repeat (first | exact calm_ret | refine calm_then ?_ | refine calm_in ?_ | refine calm_chk ?_ | refine calm_noGoto ?_))) | ((with_reducible refine chk_end ?_ ?_); kernel_rfl))
      all_goals
        go_ret2
        refine ⟨?_, 1, rfl⟩
        refine congrArg (fun z : Int => Value.tuple #[.int .i64 z, .bool fa]) ?_
        first
        | omega
        | (simp_all; omega)
    · have hct' : ¬ ct < 0 := by omega
      go_wp2_with (first | ((with_reducible refine wp_region_por ?_ ?_ ?_ ?_); kernel_rfl; kernel_rfl; (with_reducible repeat (first | exact calm_ret | refine calm_then ?_ | refine calm_in ?_ | refine calm_chk ?_ | refine calm_noGoto ?_))) | ((with_reducible refine chk_end ?_ ?_); kernel_rfl))
      all_goals
        go_ret2
        refine ⟨?_, 1, rfl⟩
        refine congrArg (fun z : Int => Value.tuple #[.int .i64 z, .bool fa]) ?_
        first
        | omega
        | (simp_all; omega)
/-- A connection is opened, where the last one is not open. -/
theorem ref_open (w : World) (q : Nat) (pv : Value) (s : SinkS) (F : Nat → Prop) (col : Nat → Nat) (cv wv lv : Value) (bvs : List Value) (hr : RefK w q col pv s cv wv lv bvs) (hF : ∀ g, g < w.heap.size → col g ≠ 0 → F g) :
    ∃ A c, cv = .slice A s.conns.length c ∧ (∀ o, Own (w.alloc o) (fun g => cv.ownBlock = some g) 54 2 cv s.conns.length (conCells bvs s.conns)) ∧
    ∀ o v1 w3, Own w3 (fun k => cv.ownBlock = some k ∨ k = w.heap.size + 1) 54 2 v1 (s.conns.length + 1) (conCells bvs s.conns ++ [.slice none 0 0, .bool false]) → Mods (fun k => cv.ownBlock = some k) (w.alloc o) w3 → (∀ g, v1.ownBlock = some g → g < w3.heap.size) →
      w3.cell? ⟨q, 1, none⟩ = some cv ∧ w3.frozen? ⟨q, 1, none⟩ = false ∧ RefS (w3.setCell ⟨q, 1, none⟩ v1) q pv { s with conns := s.conns ++ [⟨[], false⟩] } (Ext F w.heap.size) ∧ Mods F w (w3.setCell ⟨q, 1, none⟩ v1) := by
  obtain ⟨A, c, hcv, _, _⟩ := hr.rep.conns.form
  have hst := rep_step w w col s cv wv lv (.slice none 0 0) bvs ⟨[], false⟩ q 1 41 _ (by decide) hr.hdr hr.colq hr.rep (Own.nil _ _ _ _) (Mods.refl _ _)
  refine ⟨A, c, hcv, hst.1, fun o v1 w3 hown hmod hlt => ?_⟩
  obtain ⟨h1, col', h2, h3, h4, h5, h6⟩ := hst.2 o v1 w3 hown hmod hlt
  have hFq : F q := hF q hr.hdr.lt (by rw [hr.colq]; decide)
  refine ⟨h1.at_ 1 rfl, h1.frozen 1, ⟨col', v1, wv, lv, _, ⟨by simpa using h1.set_ 1 v1, h2, h3⟩, fun g hg hc => ?_⟩, h6.mono fun g hg e => ?_⟩
  · rcases h4 g hc with ⟨e1, e2⟩ | e
    · exact .inl (hF g e1 e2)
    · exact .inr e
  · rcases e with e | e
    · exact e ▸ hFq
    · exact hF g hg (by rw [hr.rep.conns.2 g e]; decide)
theorem ref_writes (w : World) (q : Nat) (pv : Value) (s : SinkS) (F : Nat → Prop) (col : Nat → Nat) (cv wv lv : Value) (bvs : List Value) (hr : RefK w q col pv s cv wv lv bvs) (hF : ∀ g, g < w.heap.size → col g ≠ 0 → F g) (nw d : Nat) :
    ∃ col', RefK ((w.setCell ⟨q, 4, none⟩ (.int .i64 nw)).drewN d) q col' pv { s with writes := nw } cv wv lv bvs ∧ (∀ g, g < ((w.setCell ⟨q, 4, none⟩ (.int .i64 nw)).drewN d).heap.size → col' g ≠ 0 → F g) ∧ Mods F w ((w.setCell ⟨q, 4, none⟩ (.int .i64 nw)).drewN d) := by
  have hm : Mods (fun g => g = q) w ((w.setCell ⟨q, 4, none⟩ (.int .i64 nw)).drewN d) := ((Mods.refl (fun g => g = q) w).setCell ⟨q, 4, none⟩ (.int .i64 nw) fun _ => rfl).drewN d
  have hk := hr.rep.keep (L := 0) hm fun g _ e => by rw [e, hr.colq]; decide
  refine ⟨recol w.heap.size col 0, ⟨?_, by rw [recol_old hr.hdr.lt]; exact hr.colq, ⟨hk.len, hk.conns, hk.each, hk.whole, hk.lost⟩⟩, fun g hg hc => ?_, hm.mono fun g hg e => hF g hg (by rw [e, hr.colq]; decide)⟩
  · simpa using (hr.hdr.set_ 4 (.int .i64 nw)).drewN d
  · rcases Nat.lt_or_ge g w.heap.size with h1 | h1
    · rw [recol_old h1] at hc
      exact hF g h1 hc
    · rw [recol_new h1] at hc
      exact absurd rfl hc
end Go.Proofs.YtmfpgghpnkmkpaaDoor
