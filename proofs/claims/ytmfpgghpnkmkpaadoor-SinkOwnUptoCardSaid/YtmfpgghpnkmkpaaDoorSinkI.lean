/- New, Report, and the reference's New. -/
import Derived.Test.YtmfpgghpnkmkpaaDoorSinkH
import Derived.Test.YtmfpgghpnkmkpaaDoorPor4
import Derived.Deep.RegionHeld3
namespace Go.Proofs.YtmfpgghpnkmkpaaDoor
open Go.RowKit Go.Tum
set_option maxHeartbeats 400000 in
set_option maxRecDepth 100000 in
theorem new_K (w : World) (F : Nat → Prop) (pv : Value) (plan : Plan) (h : Rd w F 2 pv plan.length (planCells plan)) (hF : ∀ g, F g → g < w.heap.size) (hn : plan.length ≤ 1000000000) :
    Calls Tryd.prog 10 #[pv] w (Ret fun v w' => ∃ p, v = (.pointer (some ⟨p, 0, none⟩)) ∧ SinkK w' p plan s0 [] (fun g => w.heap.size ≤ g) ∧ Mods No w w') := by
  have hc := clone_plan w h hF (planCells_one plan) hn
  have hend : ∀ v w1, Own w1 (fun k => w.heap.size ≤ k ∧ k < w1.heap.size) 60 2 v plan.length (planCells plan) → Mods No w w1 →
      SinkK (w1.alloc (.cells #[.bool true, v, .slice none 0 0, .bool false, .int .i64 0, .slice none 0 0, .slice none 0 0, .int .i64 0] 46)) w1.heap.size plan s0 [] (fun g => w.heap.size ≤ g) ∧ Mods No w (w1.alloc (.cells #[.bool true, v, .slice none 0 0, .bool false, .int .i64 0, .slice none 0 0, .slice none 0 0, .int .i64 0] 46)) := by
    intro v w1 ho hm
    refine ⟨⟨fun g => if g = w1.heap.size then 1 else if w.heap.size ≤ g then 2 else 0, v, .slice none 0 0, .slice none 0 0, .slice none 0 0, ⟨Cells.new w1 _ _, by simp, ?_, Own.nil _ _ _ _, rfl, fun i k c h1 h2 => by simp at h1, Own.nil _ _ _ _, Own.nil _ _ _ _⟩, fun g hg hc => ?_⟩, hm.alloc _⟩
    · have h1 := ho.tight.same (Same.alloc w1 (.cells #[.bool true, v, .slice none 0 0, .bool false, .int .i64 0, .slice none 0 0, .slice none 0 0, .int .i64 0] 46) fun k hk => ho.lt k hk)
      refine ⟨h1.1, fun g hg => ?_⟩
      have := ho.2 g hg
      dsimp only at this ⊢
      rw [if_neg (by omega), if_pos this.1]
    · have := hm.size
      dsimp only at hc ⊢
      split at hc
      · omega
      · split at hc
        · assumption
        · exact absurd rfl hc
  obtain ⟨A, c, rfl, _, _⟩ := h.form
  have Hh := Lib.hid h
  clear h
  have HhF := Lib.hid hF
  clear hF
  have Hhc := Lib.hid hc
  clear hc
  have Hhend := Lib.hid hend
  clear hend
  go_enter Tryd.func10, Tryd.ntmps10
  go_wp2_with (first | (go_at_call 20; (refine ret_use (Hhc.out) ?_; rintro v w1 ⟨ho, hm⟩; obtain ⟨A1, c1, rfl, _, _⟩ := ho.form; have Hho := Lib.hid ho; clear ho; have Hhm := Lib.hid hm; clear hm)) | ((with_reducible refine wp_region_por ?_ ?_ ?_ ?_); kernel_rfl; kernel_rfl; (with_reducible repeat (first | exact calm_ret | refine calm_then ?_ | refine calm_in ?_ | refine calm_chk ?_ | refine calm_noGoto ?_))) | ((with_reducible refine chk_end ?_ ?_); kernel_rfl))
  go_ret
  obtain ⟨e1, e2⟩ := Hhend.out _ _ Hho.out Hhm.out
  exact ⟨_, rfl, e1, e2⟩
/-- The reference's sink at block q. -/
structure RefK (w : World) (q : Nat) (col : Nat → Nat) (pv : Value) (s : SinkS) (cv wv lv : Value) (bvs : List Value) : Prop where
  hdr : Cells w q 41 #[pv, cv, wv, lv, .int .i64 s.writes, .int .i64 s.last, .bool s.any]
  colq : col q = 1
  rep : RepK w col s cv wv lv bvs
def RefS (w : World) (q : Nat) (pv : Value) (s : SinkS) (F : Nat → Prop) : Prop := ∃ col cv wv lv bvs, RefK w q col pv s cv wv lv bvs ∧ ∀ g, g < w.heap.size → col g ≠ 0 → F g
set_option maxHeartbeats 400000 in
set_option maxRecDepth 100000 in
theorem refNew_K (w : World) (pv : Value) (A : Option Addr) (n c : Nat) (hpv : pv = .slice A n c) :
    Calls Tryd.prog 11 #[pv] w (Ret fun v w' => v = (.pointer (some ⟨w.heap.size, 0, none⟩)) ∧ RefS w' w.heap.size pv s0 (fun g => w.heap.size ≤ g) ∧ Mods No w w') := by
  subst hpv
  go_enter Tryd.func11, Tryd.ntmps11
  go_wp2_with (first | ((with_reducible refine wp_region_por ?_ ?_ ?_ ?_); kernel_rfl; kernel_rfl; (with_reducible repeat (first | exact calm_ret | refine calm_then ?_ | refine calm_in ?_ | refine calm_chk ?_ | refine calm_noGoto ?_))) | ((with_reducible refine chk_end ?_ ?_); kernel_rfl))
  go_ret
  refine ⟨rfl, ⟨fun g => if g = w.heap.size then 1 else 0, .slice none 0 0, .slice none 0 0, .slice none 0 0, [], ⟨Cells.new w _ _, by simp, rfl, Own.nil _ _ _ _, fun i b c h1 h2 => by simp at h1, Own.nil _ _ _ _, Own.nil _ _ _ _⟩, fun g hg hc => ?_⟩, (Mods.refl No w).alloc _⟩
  dsimp only at hc ⊢
  split at hc
  · omega
  · exact absurd rfl hc
/-- The labels that a report has before its connections are laid. -/
theorem rep_first (w W2 w3 W4 w4 W : World) (kd : Nat) (s : SinkS) (wv lv : Value) (T : TypeId) (hT : 2 ≠ T) (h0 : w.heap.size < W2.heap.size) (hkd : w.heap.size < kd)
    (hc : kd = w4.heap.size ∨ ∃ cs, Cells w4 kd T cs)
    (ho5 : Own w3 (fun k => W2.heap.size ≤ k ∧ k < w3.heap.size) 2 1 wv s.whole.length (vis s.whole)) (m2 : Mods No W2 w3)
    (m34 : Mods No w3 W4) (ho6 : Own w4 (fun k => W4.heap.size ≤ k ∧ k < w4.heap.size) 2 1 lv s.lost.length (vis s.lost)) (m4 : Mods No W4 w4) (mW : Mods (fun g => g = kd) w4 W) :
    ∃ col, col kd = 1 ∧ RepK W col { s with conns := [] } (.slice none 0 0) wv lv [] ∧ ∀ g, col g ≠ 0 → w.heap.size < g := by
  have hne : ∀ {v : Value} {n : Nat} {xs : List Value} {F : Nat → Prop}, Own w4 F 2 1 v n xs → ∀ g, v.ownBlock = some g → g ≠ kd := by
    intro v n xs F ho g hg e
    rcases hc with hc | ⟨cs, hc⟩
    · have := ho.lt g hg; omega
    · exact ho.ne_cells hc hT (e ▸ hg)
  have o5 : Own w4 (fun g => wv.ownBlock = some g) 2 1 wv s.whole.length (vis s.whole) := (ho5.tight.same (m34.same fun k hk => ⟨ho5.lt k hk, fun e => e⟩)).same (m4.same fun k hk => ⟨Nat.lt_of_lt_of_le (ho5.lt k hk) m34.size, fun e => e⟩)
  have p5 := o5.same (mW.same fun k hk => ⟨o5.lt k hk, fun e => hne o5 k hk e⟩)
  have p6 := ho6.tight.same (mW.same fun k hk => ⟨ho6.lt k hk, fun e => hne ho6 k hk e⟩)
  have hd : ∀ g, lv.ownBlock = some g → wv.ownBlock ≠ some g := fun g hg e => by
    have h1 := (ho6.2 g hg).1
    have h2 := (ho5.2 g e).2
    have := m34.size
    omega
  refine ⟨fun g => if g = kd then 1 else if wv.ownBlock = some g then 4 else if lv.ownBlock = some g then 5 else 0, by simp, ⟨rfl, Own.nil _ _ _ _, fun i b c h1 h2 => by simp at h1, ⟨p5.1, fun g hg => ?_⟩, ⟨p6.1, fun g hg => ?_⟩⟩, fun g hg => ?_⟩
  · dsimp only
    rw [if_neg (hne o5 g hg), if_pos hg]
  · dsimp only
    rw [if_neg (hne ho6 g hg), if_neg (hd g hg), if_pos hg]
  · dsimp only at hg
    split at hg
    · rename_i e; omega
    · split at hg
      · rename_i e; have := (ho5.2 g e).1; omega
      · split at hg
        · rename_i e; have := (ho6.2 g e).1; have := m34.size; have := m2.size; omega
        · exact absurd rfl hg
/-- In the midst of a report: i connections are laid. -/
structure RepMid (w : World) (s : SinkS) (kd : Nat) (wv lv : Value) (i : Nat) (wr : World) (col : Nat → Nat) (cv : Value) (bvs : List Value) : Prop where
  hdr : Cells wr kd 38 #[cv, wv, lv, .int .i64 s.writes]
  res : Cells wr w.heap.size 38 #[.slice none 0 0, .slice none 0 0, .slice none 0 0, .int .i64 0]
  colk : col kd = 1
  rep : RepK wr col { s with conns := s.conns.take i } cv wv lv bvs
  new : ∀ g, col g ≠ 0 → w.heap.size < g
  mods : Mods No w wr
/-! ### Report -/
/-- What Report hands out. -/
def RepNew (w w' : World) (s : SinkS) (v : Value) : Prop := ∃ col cv wv lv bvs, v = .agg #[cv, wv, lv, .int .i64 s.writes] ∧ RepK w' col s cv wv lv bvs ∧ (∀ g, col g ≠ 0 → w.heap.size ≤ g) ∧ Mods No w w'
end Go.Proofs.YtmfpgghpnkmkpaaDoor
