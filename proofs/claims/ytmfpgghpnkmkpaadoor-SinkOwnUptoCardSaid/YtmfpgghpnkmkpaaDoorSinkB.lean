/- (*Sink).write: one write. -/
import Derived.Test.YtmfpgghpnkmkpaaDoorSinkA
namespace Go.Proofs.YtmfpgghpnkmkpaaDoor
open Go.RowKit Go.Tum
/-- What a write of b on the connection k leaves, its bytes and its answer being N and fa. -/
def WriteEnd (w w' : World) (p k : Nat) (s0 s1 s2 s3 s4 s5 s6 : Value) (wr : Nat) (acc : List UInt8) (fl : Bool) (bv : Value) : Prop :=
  Cells w' p 46 #[s0, s1, s2, s3, s4, s5, s6, .int .i64 (wr + 1 : Nat)] ∧
  (∃ bv', Cells w' k 70 #[bv', .bool fl] ∧ Own w' (fun g => bv.ownBlock = some g ∨ (w.heap.size ≤ g ∧ g < w'.heap.size)) 5 1 bv' acc.length (vbs acc)) ∧
  Mods (fun g => g = p ∨ g = k ∨ bv.ownBlock = some g) w w'
set_option maxHeartbeats 800000 in
set_option maxRecDepth 100000 in
theorem write_any (w : World) (p k wr : Nat) (s0 s1 s2 s3 s4 s5 s6 bv bs ev : Value) (fl : Bool) (acc b : List UInt8) (plan : Plan) (F G H : Nat → Prop)
    (hp : Cells w p 46 #[s0, s1, s2, s3, s4, s5, s6, .int .i64 wr]) (hk : Cells w k 70 #[bv, .bool fl]) (ho : Own w F 5 1 bv acc.length (vbs acc)) (hg : w.cell? ⟨0, 0, none⟩ = some ev)
    (hpl : Rd w G 2 s1 plan.length (planCells plan)) (hG : ∀ g, G g → g < w.heap.size) (hb : Rd w H 1 bs b.length (vbs b)) (hH : ∀ g, H g → g < w.heap.size ∧ g ≠ p ∧ g ≠ k ∧ bv.ownBlock ≠ some g)
    (hz : p ≠ 0 ∧ k ≠ 0 ∧ bv.ownBlock ≠ some 0) (h1 : plan.length ≤ 1000000000) (h2 : b.length ≤ 1000000000) (h3 : acc.length ≤ 1000000000) (h4 : wr ≤ 1000000000000) :
    Calls Tryd.prog 28 #[(.pointer (some ⟨p, 0, none⟩)), (.pointer (some ⟨k, 0, none⟩)), bs] w (Ret fun v w' => v = .tuple #[.int .i64 (pick plan wr b.length).1, if (pick plan wr b.length).2 then ev else .nilIface] ∧
      WriteEnd w w' p k s0 s1 s2 s3 s4 s5 s6 wr (acc ++ b.take (pick plan wr b.length).1) fl bv) := by
  obtain ⟨Ap, cp, rfl, hpc, hpm⟩ := hpl.form
  clear hpm
  obtain ⟨Ab, cb, rfl, hbc, hbm⟩ := hb.form
  clear hbm
  have q1 : w.cell? ⟨p, 1, none⟩ = some (.slice Ap plan.length cp) := hp.at_ 1 rfl
  have q7 : w.cell? ⟨p, 7, none⟩ = some (.int .i64 wr) := hp.at_ 7 rfl
  have f7 := hp.frozen 7
  have lp := hp.lt
  have lk := hk.lt
  have hkp := hk.ne_ hp (by decide)
  have lg := World.block_lt_of_cell? w _ hg
  obtain ⟨A, c, rfl, hnc, hcm⟩ := ho.form
  have k0 : w.cell? ⟨k, 0, none⟩ = some (.slice A acc.length c) := hk.at_ 0 rfl
  have kf := hk.frozen 0
  have hbp : (Value.slice A acc.length c).ownBlock ≠ some p := ho.ne_cells hp (by decide)
  have hbk : (Value.slice A acc.length c).ownBlock ≠ some k := ho.ne_cells hk (by decide)
  -- what the append leaves, and what is stored
  have hend : ∀ (X : Array Value) (ys : List UInt8) (w1 : World) (v1 : Value), Own w1 (fun g => (Value.slice A acc.length c).ownBlock = some g ∨ g = w.heap.size + 1) 5 1 v1 (acc.length + ys.length) (vbs acc ++ vbs ys) →
      Mods (fun g => (Value.slice A acc.length c).ownBlock = some g) ((w.setCell ⟨p, 7, none⟩ (.int .i64 ((wr : Int) + 1))).alloc (.cells X 60)) w1 → (∀ g, v1.ownBlock = some g → g < w1.heap.size) →
      (∀ d, WriteEnd w ((w1.setCell ⟨k, 0, none⟩ v1).drewN d) p k s0 (.slice Ap plan.length cp) s2 s3 s4 s5 s6 wr (acc ++ ys) fl (.slice A acc.length c)) ∧ w1.cell? ⟨k, 0, none⟩ = some (.slice A acc.length c) ∧ w1.frozen? ⟨k, 0, none⟩ = false ∧ w1.cell? ⟨0, 0, none⟩ = some ev ∧ Cells w1 w.heap.size 60 X ∧ ∃ A1 c1, v1 = .slice A1 (acc.length + ys.length) c1 := by
    intro X ys w1 v1 hown hmod hlt
    have hpW : Cells w1 p 46 #[s0, .slice Ap plan.length cp, s2, s3, s4, s5, s6, .int .i64 (wr + 1 : Nat)] := by
      have := (hp.set_ 7 (.int .i64 ((wr : Int) + 1))).alloc (.cells X 60)
      exact Cells.mods (by simpa using this) hmod hbp
    have hkW : Cells w1 k 70 #[.slice A acc.length c, .bool fl] := ((hk.far (p := ⟨p, 7, none⟩) hkp _).alloc _).mods hmod hbk
    have hn1 : ∀ g, v1.ownBlock = some g → g ≠ k := fun g hg e => hown.ne_cells hkW (by decide) (e ▸ hg)
    have hg1 : w1.cell? ⟨0, 0, none⟩ = some ev := by
      have e1 := hmod.block 0 (by simp [World.setCell]) hz.2.2
      exact (World.cell?_of_block (w := w) (w' := w1) (a := ⟨0, 0, none⟩) (e1.trans ((Below.heap_alloc _ _ _ (by simpa [World.setCell] using lg)).trans (Below.heap_setCell _ _ _ _ (fun e => hz.1 e.symm))))).trans hg
    obtain ⟨A1, c1, hv1, _⟩ := hown.form
    have hX : Cells w1 w.heap.size 60 X := by
      have h7 : Cells ((w.setCell ⟨p, 7, none⟩ (.int .i64 ((wr : Int) + 1))).alloc (.cells X 60)) w.heap.size 60 X := by simpa [World.setCell] using Cells.new (w.setCell ⟨p, 7, none⟩ (.int .i64 ((wr : Int) + 1))) 60 X
      exact h7.mods hmod fun e => by have := ho.lt _ e; omega
    have hlen : (acc ++ ys).length = acc.length + ys.length := by simp
    refine ⟨fun d => ⟨((hpW.far (p := ⟨k, 0, none⟩) (fun e => hkp e.symm) v1).drewN d), ⟨v1, by simpa using (hkW.set_ 0 v1).drewN d, ?_⟩, ?_⟩, hkW.at_ 0 rfl, hkW.frozen 0, hg1, hX, A1, c1, hv1⟩
    · have h5 : Own (w1.setCell ⟨k, 0, none⟩ v1) _ _ _ _ _ _ := hown.tight.same (Same.setCell w1 ⟨k, 0, none⟩ v1 (fun e => hn1 k e rfl))
      have h6 := h5.same (Same.drewN _ _ d)
      rw [hlen]
      refine ⟨by simpa [vbs] using h6.1, fun g hg => ?_⟩
      rcases hown.2 g hg with e | e
      · exact .inl e
      · exact .inr ⟨by omega, by simpa [World.setCell, World.drewN] using hlt g hg⟩
    · exact (((((Mods.refl (fun g => g = p ∨ g = k ∨ (Value.slice A acc.length c).ownBlock = some g) w).setCell ⟨p, 7, none⟩ _ (fun _ => .inl rfl)).alloc _).trans hmod (fun k _ e => .inr (.inr e))).setCell ⟨k, 0, none⟩ v1 (fun _ => .inr (.inl rfl))).drewN d
  have hrd : ∀ (X : Array Value) (ys : List UInt8) (N : Nat), ys = b.take N ∧ N ≤ b.length → Own (((w.setCell ⟨p, 7, none⟩ (.int .i64 ((wr : Int) + 1))).alloc (.cells X 60))) (fun g => (Value.slice A acc.length c).ownBlock = some g) 5 1 (.slice A acc.length c) acc.length (vbs acc) ∧
      Rd (((w.setCell ⟨p, 7, none⟩ (.int .i64 ((wr : Int) + 1))).alloc (.cells X 60))) H 1 (.slice Ab N cb) N (vbs ys) := by
    rintro X ys N ⟨rfl, hN⟩
    refine ⟨(ho.tight.same (Same.setCell w ⟨p, 7, none⟩ _ (fun e => hbp e))).same (Same.alloc _ _ fun k hk => by have := ho.lt k hk; simpa [World.setCell] using this), ?_⟩
    have := ((hb.take hN).same (Same.setCell w ⟨p, 7, none⟩ (.int .i64 ((wr : Int) + 1)) (fun e => (hH p e).2.1 rfl))).same (Same.alloc _ (.cells X 60) fun k hk => by have := (hH k hk).1; simpa [World.setCell] using this)
    simpa [vbs, List.map_take] using this
  clear hnc hcm hpc
  cases hq : plan[wr]? with
  | none =>
    have hpk : pick plan wr b.length = (b.length, false) := by simp [pick, hq]
    have hN : b.length ≤ b.length := Nat.le_refl _
    have hN' : (b.length : Int) ≤ cb := by omega
    have hlt : decide (wr < plan.length) = false := by
      have := List.getElem?_eq_none_iff.1 hq
      simp; omega
    have hys : b = b.take b.length ∧ b.length ≤ b.length := ⟨by simp, hN⟩
    clear hN
    rw [hpk]
    dsimp only
    have Hhys := Lib.hid hys
    clear hys
    have Hho := Lib.hid ho
    clear ho
    have Hhp := Lib.hid hp
    clear hp
    have Hhk := Lib.hid hk
    clear hk
    have Hhpl := Lib.hid hpl
    clear hpl
    have Hhb := Lib.hid hb
    clear hb
    have Hhend := Lib.hid hend
    clear hend
    have Hhrd := Lib.hid hrd
    clear hrd
    have Hhz := Lib.hid hz
    clear hz
    have HhG := Lib.hid hG
    clear hG
    have HhH := Lib.hid hH
    clear hH
    have Hhq := Lib.hid hq
    clear hq
    have Hhpk := Lib.hid hpk
    clear hpk
    have Hhbp := Lib.hid hbp
    clear hbp
    have Hhbk := Lib.hid hbk
    clear hbk
    go_enter Tryd.func28, Tryd.ntmps28
    go_wp2_with (first | (at_builtin; refine wpList_append _ rfl (.tmp 50) (.tmp 53) 30 rfl 5 (.int .u8 0) 1 1 Tryd.underlying30 infoU8 rfl (by decide) (F := fun g => (Value.slice A acc.length c).ownBlock = some g) (n := acc.length) (xs := vbs acc) (by rfl) (Hhrd.out _ (b) (b.length) Hhys.out).1 (G := H) (y := .slice Ab (b.length) cb) (m := b.length) (news := vbs (b)) (by rfl) (Hhrd.out _ (b) (b.length) Hhys.out).2 (vbs_one _) (by omega) (by decide) ?c4) | ((with_reducible refine wp_region_por ?_ ?_ ?_ ?_); kernel_rfl; kernel_rfl; (with_reducible repeat (first | exact calm_ret | refine calm_then ?_ | refine calm_in ?_ | refine calm_chk ?_ | refine calm_noGoto ?_))) | ((with_reducible refine chk_end ?_ ?_); kernel_rfl))
    case c4 =>
      intro v1 w1 hown hmod hlt
      obtain ⟨he, g0, g1, g2, hX, A1, c1, rfl⟩ := Hhend.out _ (b) w1 v1 hown ⟨hmod.os, hmod.tape, hmod.output, hmod.size, hmod.block⟩ hlt
      have g3 : w1.cell? ⟨w.heap.size, 1, none⟩ = some (.bool false) := hX.at_ 1 rfl
      have hk0 := Hhz.out.2.1
      have hk1 := hk0.symm
      clear hown hmod hlt hX q1 q7 f7 lp hkp lg k0 kf
      have Hhe := Lib.hid he
      clear he
      go_wp2_with (first | ((with_reducible refine wp_region_por ?_ ?_ ?_ ?_); kernel_rfl; kernel_rfl; (with_reducible repeat (first | exact calm_ret | refine calm_then ?_ | refine calm_in ?_ | refine calm_chk ?_ | refine calm_noGoto ?_))) | ((with_reducible refine chk_end ?_ ?_); kernel_rfl))
      go_ret2
      have he' := Hhe.out
      refine ⟨rfl, ?_⟩
      simpa only [List.take_length, World.drewN_zero] using he' 0
  | some x =>
    obtain ⟨ct, fa⟩ := x
    have hwl : wr < plan.length := (List.getElem?_eq_some_iff.1 hq).1
    have hpk : pick plan wr b.length = (min ct.toNat b.length, fa) := by simp [pick, hq]
    obtain ⟨M, hM⟩ : ∃ M : Nat, (if ct < 0 then 0 else ct) = (M : Int) := ⟨ct.toNat, by split <;> omega⟩
    have hMe : min ct.toNat b.length = min M b.length := by
      have : ct.toNat = M := by split at hM <;> omega
      rw [this]
    rw [hMe] at hpk
    obtain ⟨N, hNe⟩ : ∃ N : Nat, N = min M b.length := ⟨_, rfl⟩
    rw [← hNe] at hpk
    have hN : N ≤ b.length := by omega
    have hN' : (N : Int) ≤ cb := by omega
    have hmn : (if (b.length : Int) < (M : Int) then (b.length : Int) else (M : Int)) = (N : Int) := by split <;> omega
    have hmn' : (if b.length < M then (b.length : Int) else (M : Int)) = (N : Int) := by split <;> omega
    have hlt : decide (wr < plan.length) = true := by simp; omega
    have hys : b.take N = b.take N ∧ N ≤ b.length := ⟨rfl, hN⟩
    obtain ⟨ab, ao, c', e, hab, hpc'⟩ := hpl.cells (by omega)
    injection e with e1 _ e2
    subst e1
    subst e2
    have c0 : w.cell? ⟨ab, ao + wr * 2, none⟩ = some (.int .i64 ct) := by rw [hpc' _ (by omega)]; exact (planCells_at plan wr ct fa hq).1
    have c1 : w.cell? ⟨ab, ao + wr * 2 + 1, none⟩ = some (.bool fa) := by rw [Nat.add_assoc, hpc' _ (by omega)]; exact (planCells_at plan wr ct fa hq).2
    have lab := hG ab hab
    have hV : Value.int .i64 (if ct < 0 then 0 else ct) = .int .i64 (M : Int) := by rw [hM]
    have hV1 : Value.int .i64 (if (b.length : Int) < (M : Int) then (b.length : Int) else (M : Int)) = .int .i64 (N : Int) := by rw [hmn]
    have hV2 : Value.int .i64 (if b.length < M then (b.length : Int) else (M : Int)) = .int .i64 (N : Int) := by rw [hmn']
    clear hpc' hMe hNe hM hmn hmn'
    cases fa with
    | false =>
      rw [hpk]
      dsimp only
      have Hhys := Lib.hid hys
      clear hys
      have Hho := Lib.hid ho
      clear ho
      have Hhp := Lib.hid hp
      clear hp
      have Hhk := Lib.hid hk
      clear hk
      have Hhpl := Lib.hid hpl
      clear hpl
      have Hhb := Lib.hid hb
      clear hb
      have Hhend := Lib.hid hend
      clear hend
      have Hhrd := Lib.hid hrd
      clear hrd
      have Hhz := Lib.hid hz
      clear hz
      have HhG := Lib.hid hG
      clear hG
      have HhH := Lib.hid hH
      clear hH
      have Hhq := Lib.hid hq
      clear hq
      have Hhpk := Lib.hid hpk
      clear hpk
      have Hhbp := Lib.hid hbp
      clear hbp
      have Hhbk := Lib.hid hbk
      clear hbk
      go_enter Tryd.func28, Tryd.ntmps28
      go_wp2_with (first | (at_builtin; refine wpList_append _ rfl (.tmp 50) (.tmp 53) 30 rfl 5 (.int .u8 0) 1 1 Tryd.underlying30 infoU8 rfl (by decide) (F := fun g => (Value.slice A acc.length c).ownBlock = some g) (n := acc.length) (xs := vbs acc) (by rfl) (Hhrd.out _ (b.take N) (N) Hhys.out).1 (G := H) (y := .slice Ab (N) cb) (m := N) (news := vbs (b.take N)) (by rfl) (Hhrd.out _ (b.take N) (N) Hhys.out).2 (vbs_one _) (by omega) (by decide) ?d4) | ((with_reducible refine wp_region_por ?_ ?_ ?_ ?_); kernel_rfl; kernel_rfl; (with_reducible repeat (first | exact calm_ret | refine calm_then ?_ | refine calm_in ?_ | refine calm_chk ?_ | refine calm_noGoto ?_))) | ((with_reducible refine chk_end ?_ ?_); kernel_rfl))
      case d4 =>
        intro v1 w1 hown hmod hlt
        obtain ⟨he, g0, g1, g2, hX, A1, c1, rfl⟩ := Hhend.out _ (b.take N) w1 v1 (by simpa [Nat.min_eq_left hN] using hown) ⟨hmod.os, hmod.tape, hmod.output, hmod.size, hmod.block⟩ hlt
        have g3 : w1.cell? ⟨w.heap.size, 1, none⟩ = some (.bool false) := hX.at_ 1 rfl
        have hk0 := Hhz.out.2.1
        have hk1 := hk0.symm
        clear hown hmod hlt hX q1 q7 f7 lp hkp lg k0 kf
        have Hhe := Lib.hid he
        clear he
        go_wp2_with (first | ((with_reducible refine wp_region_por ?_ ?_ ?_ ?_); kernel_rfl; kernel_rfl; (with_reducible repeat (first | exact calm_ret | refine calm_then ?_ | refine calm_in ?_ | refine calm_chk ?_ | refine calm_noGoto ?_))) | ((with_reducible refine chk_end ?_ ?_); kernel_rfl))
        go_ret2
        have he' := Hhe.out
        refine ⟨rfl, ?_⟩
        simpa only [List.length_take, Nat.min_eq_left hN, World.drewN_zero] using he' 0
    | true =>
      rw [hpk]
      dsimp only
      have Hhys := Lib.hid hys
      clear hys
      have Hho := Lib.hid ho
      clear ho
      have Hhp := Lib.hid hp
      clear hp
      have Hhk := Lib.hid hk
      clear hk
      have Hhpl := Lib.hid hpl
      clear hpl
      have Hhb := Lib.hid hb
      clear hb
      have Hhend := Lib.hid hend
      clear hend
      have Hhrd := Lib.hid hrd
      clear hrd
      have Hhz := Lib.hid hz
      clear hz
      have HhG := Lib.hid hG
      clear hG
      have HhH := Lib.hid hH
      clear hH
      have Hhq := Lib.hid hq
      clear hq
      have Hhpk := Lib.hid hpk
      clear hpk
      have Hhbp := Lib.hid hbp
      clear hbp
      have Hhbk := Lib.hid hbk
      clear hbk
      go_enter Tryd.func28, Tryd.ntmps28
      go_wp2_with (first | (at_builtin; refine wpList_append _ rfl (.tmp 50) (.tmp 53) 30 rfl 5 (.int .u8 0) 1 1 Tryd.underlying30 infoU8 rfl (by decide) (F := fun g => (Value.slice A acc.length c).ownBlock = some g) (n := acc.length) (xs := vbs acc) (by rfl) (Hhrd.out _ (b.take N) (N) Hhys.out).1 (G := H) (y := .slice Ab (N) cb) (m := N) (news := vbs (b.take N)) (by rfl) (Hhrd.out _ (b.take N) (N) Hhys.out).2 (vbs_one _) (by omega) (by decide) ?e4) | ((with_reducible refine wp_region_por ?_ ?_ ?_ ?_); kernel_rfl; kernel_rfl; (with_reducible repeat (first | exact calm_ret | refine calm_then ?_ | refine calm_in ?_ | refine calm_chk ?_ | refine calm_noGoto ?_))) | ((with_reducible refine chk_end ?_ ?_); kernel_rfl))
      case e4 =>
        intro v1 w1 hown hmod hlt
        obtain ⟨he, g0, g1, g2, hX, A1, c1, rfl⟩ := Hhend.out _ (b.take N) w1 v1 (by simpa [Nat.min_eq_left hN] using hown) ⟨hmod.os, hmod.tape, hmod.output, hmod.size, hmod.block⟩ hlt
        have g3 : w1.cell? ⟨w.heap.size, 1, none⟩ = some (.bool true) := hX.at_ 1 rfl
        have hk0 := Hhz.out.2.1
        have hk1 := hk0.symm
        clear hown hmod hlt hX q1 q7 f7 lp hkp lg k0 kf
        have Hhe := Lib.hid he
        clear he
        go_wp2_with (first | ((with_reducible refine wp_region_por ?_ ?_ ?_ ?_); kernel_rfl; kernel_rfl; (with_reducible repeat (first | exact calm_ret | refine calm_then ?_ | refine calm_in ?_ | refine calm_chk ?_ | refine calm_noGoto ?_))) | ((with_reducible refine chk_end ?_ ?_); kernel_rfl))
        go_ret2
        have he' := Hhe.out
        refine ⟨rfl, ?_⟩
        (have h9 := he' 1; simp only [List.length_take, Nat.min_eq_left hN] at h9; exact h9)
end Go.Proofs.YtmfpgghpnkmkpaaDoor
