/- The reference's send. -/
import Derived.Test.YtmfpgghpnkmkpaaDoorSinkL
import Derived.Deep.LoopGhost
namespace Go.Proofs.YtmfpgghpnkmkpaaDoor
open Go.RowKit Go.Tum
/-- In the midst of a frame. -/
structure RMid (w : World) (q : Nat) (pv : Value) (plan : Plan) (s : SinkS) (F H : Nat → Prop) (R : List UInt8 × Nat × List UInt8 × Bool) (base : List ConnS) (w1 : World) (acc : List UInt8) (idle nw kf : Nat) (v1 : Value) (b1 : List UInt8) : Prop where
  ref : RefS w1 q pv { s with conns := base ++ [⟨acc, false⟩], writes := nw } (Ext F w.heap.size)
  mods : Mods F w w1
  rd : Rd w1 H 1 v1 b1.length (vbs b1)
  go : sendGo plan kf acc nw idle b1 = R
  fuel : 65 * b1.length + (64 - idle) < kf
  idle : idle < 64
  size : acc.length + b1.length ≤ 1000000000
  writes : nw + kf ≤ 1000000000000
def RInv (w : World) (q : Nat) (pv : Value) (plan : Plan) (s : SinkS) (F H : Nat → Prop) (R : List UInt8 × Nat × List UInt8 × Bool) (base : List ConnS) (k : Nat) (v1 v6 : Value) (wr : World) : Prop :=
  ∃ acc idle nw b1, v6 = .int .i64 (idle : Nat) ∧ RMid w q pv plan s F H R base wr acc idle nw k v1 b1
set_option maxHeartbeats 16000000 in
set_option maxRecDepth 100000 in
theorem refSend_K (w : World) (q : Nat) (pv : Value) (plan : Plan) (s : SinkS) (F H : Nat → Prop) (bs : Value) (b : List UInt8) (h : RefS w q pv s F) (hpv : Rd w H 2 pv plan.length (planCells plan)) (hb : Rd w H 1 bs b.length (vbs b)) (hH : ∀ g, H g → g < w.heap.size ∧ ¬ F g)
    (hplan : plan.length ≤ 1000000000) (b2 : b.length ≤ 2000000) (b3 : ∀ c ∈ s.conns, c.bytes.length ≤ 100000000) (b4 : s.writes ≤ 100000000000) (b5 : s.conns.length ≤ 1000000000) (hpos : 0 < b.length) :
    Calls Tryd.prog 23 #[(.pointer (some ⟨q, 0, none⟩)), bs] w (Ret fun v w' => v = .bool (send plan s b).2 ∧ RefS w' q pv (send plan s b).1 (Ext F w.heap.size) ∧ Mods F w w') := by
  obtain ⟨A, c, rfl, hbc, hbm⟩ := hb.form
  clear hbm
  obtain ⟨Ap, cpl, rfl, _, _⟩ := hpv.form
  obtain ⟨base, acc0, ho1, ho2, ho3, ho4⟩ := opened_snoc s.conns
  obtain ⟨R, hR⟩ : ∃ R, R = sendGo plan (fuel b) acc0 s.writes 0 b := ⟨_, rfl⟩
  have hfin : send plan s b = ({ s with conns := base ++ [⟨R.1, R.2.2.2⟩], writes := R.2.1 }, decide (R.2.2.1.length = 0)) := by
    unfold send
    rw [if_neg (by omega), ho2, ho3, ← hR]
  have h0 := h
  obtain ⟨col, cv, wv, lv, bvs, hr, hF⟩ := h
  have hq1 := hr.hdr.at_ 1 rfl
  by_cases ho : lastOpen s.conns = true
  · have he : opened s.conns = s.conns := by simp [opened, ho]
    rw [he] at ho1
    have hbase : base.length ≤ 1000000000 := by have := congrArg List.length ho1; simp at this; omega
    have hne0 : ((base.length : Int) + 1 == 0) = false := by simp; omega
    obtain ⟨g, cp, bs0, bv, rfl, hcp, rfl, hbl, k0, k1, hrest⟩ := ref_last hr hF ho1
    clear hrest hbl
    have hst : RMid w q (.slice Ap plan.length cpl) plan s F H R base w acc0 0 s.writes (fuel b) (.slice A b.length c) b := by
      have hh : s.conns = base ++ [⟨acc0, false⟩] := ho1
      have e : ({ s with conns := base ++ [⟨acc0, false⟩], writes := s.writes } : SinkS) = s := by rw [← hh]
      refine ⟨by rw [e]; exact h0.more fun g _ hg => .inl hg, Mods.refl _ _, hb, hR.symm, by unfold fuel; omega, by omega, ?_, by unfold fuel; omega⟩
      · have := b3 ⟨acc0, false⟩ (by rw [hh]; simp)
        dsimp only at this
        omega
    have Hh0 := Lib.hid h0
    clear h0
    have Hhpv := Lib.hid hpv
    clear hpv
    have Hhb := Lib.hid hb
    clear hb
    have HhH := Lib.hid hH
    clear hH
    have Hb3 := Lib.hid b3
    clear b3
    have Hho1 := Lib.hid ho1
    clear ho1
    have Hho2 := Lib.hid ho2
    clear ho2
    have Hho3 := Lib.hid ho3
    clear ho3
    have Hho4 := Lib.hid ho4
    clear ho4
    have HhR := Lib.hid hR
    clear hR
    have Hhfin := Lib.hid hfin
    clear hfin
    have Hb5 := Lib.hid b5
    clear b5
    have Hhr := Lib.hid hr
    clear hr
    have HhF := Lib.hid hF
    clear hF
    have Hhe := Lib.hid he
    clear he
    have Hhst := Lib.hid hst
    clear hst
    go_enter Tryd.func23, Tryd.ntmps23
    go_wp2_with (first | ((with_reducible refine wp_region_por ?_ ?_ ?_ ?_); kernel_rfl; kernel_rfl; (with_reducible repeat (first | exact calm_ret | refine calm_then ?_ | refine calm_in ?_ | refine calm_chk ?_ | refine calm_noGoto ?_))) | ((with_reducible refine chk_end ?_ ?_); kernel_rfl))
    clear k0 k1 hq1 hcp
    go_loopg [1, 6] (fuel b) (fun k v1 v6 wr => RInv w q (.slice Ap plan.length cpl) plan s F H R base k v1 v6 wr)
    case atStart => exact ⟨_, 0, s.writes, b, rfl, Hhst.out⟩
    case round =>
      obtain ⟨acc, idle, nw, b1, rfl, hmid⟩ := hrel
      obtain ⟨A1, c1, rfl, hbc1, hbm1⟩ := hmid.rd.form
      clear hbm1
      obtain ⟨kf, rfl⟩ : ∃ kf, kf = gk := ⟨_, rfl⟩
      obtain ⟨wq, rfl⟩ : ∃ wq, wq = wr := ⟨_, rfl⟩
      obtain ⟨f, rfl⟩ : ∃ f, kf = f + 1 := ⟨kf - 1, by have := hmid.fuel; omega⟩
      have hgo := hmid.go
      have hfu := hmid.fuel
      have hid := hmid.idle
      have hsz := hmid.size
      have hwr := hmid.writes
      unfold sendGo at hgo
      rcases Nat.eq_zero_or_pos b1.length with hz | hz
      · have hz' : decide (0 < b1.length) = false := by simpa using hz
        rw [if_pos hz] at hgo
        have href := hmid.ref
        have hmods := hmid.mods
        have Hhmid := Lib.hid hmid
        clear hmid
        have Hhgo := Lib.hid hgo
        clear hgo
        have Hhfu := Lib.hid hfu
        clear hfu
        have Hhid := Lib.hid hid
        clear hid
        have Hhsz := Lib.hid hsz
        clear hsz
        have Hhwr := Lib.hid hwr
        clear hwr
        have Hhref := Lib.hid href
        clear href
        have Hhmods := Lib.hid hmods
        clear hmods
        go_wp2_with (first | ((with_reducible refine wp_region_por ?_ ?_ ?_ ?_); kernel_rfl; kernel_rfl; (with_reducible repeat (first | exact calm_ret | refine calm_then ?_ | refine calm_in ?_ | refine calm_chk ?_ | refine calm_noGoto ?_))) | ((with_reducible refine chk_end ?_ ?_); kernel_rfl))
        go_ret
        rw [Hhfin.out, ← Hhgo.out]
        exact ⟨by simp [hz], Hhref.out, Hhmods.out⟩
      · have hz' : decide (0 < b1.length) = true := by simpa using hz
        rw [if_neg (by omega)] at hgo
        obtain ⟨col1, cv1, wv1, lv1, bvs1, hr1, hF1⟩ := hmid.ref
        have hmods := hmid.mods
        have hqne : ∀ g, H g → g ≠ q := fun g hg e => by
          rcases hF1 q hr1.hdr.lt (by rw [hr1.colq]; decide) with e1 | e1
          · exact (HhH.out g hg).2 (e ▸ e1)
          · have := (HhH.out g hg).1; omega
        have hch := choice_any wq q b1.length nw Ap cpl _ _ _ _ _ plan H hr1.hdr (Hhpv.out.same (hmods.same HhH.out)) hqne hplan (by omega) (by omega)
        have hN := pick_le plan nw b1.length
        generalize pick plan nw b1.length = pk at hch hgo hN
        obtain ⟨N, fa⟩ := pk
        dsimp only at hch hgo hN
        have hN' : (N : Int) ≤ c1 := by omega
        have hrd0 := hmid.rd
        have hrd1 : Rd wq H 1 (.slice A1 N c1) N (vbs (b1.take N)) := by have := hrd0.take (l := N) hN; simpa [vbs, List.map_take] using this
        have hrd' := hrd0.cut (k := N) (l := b1.length) hN (Nat.le_refl _)
        have hrd2 : ∀ A', ((c1 = N ∧ A' = A1) ∨ (¬ c1 = N ∧ A' = A1.map (·.add N))) → Rd wq H 1 (.slice A' (b1.length - N) (c1 - N)) (b1.drop N).length (vbs (b1.drop N)) := by
          intro A' hA'
          have e1 : (if c1 = N then A1 else Option.map (fun x => x.add (N * 1)) A1) = A' := by
            rcases hA' with ⟨e, rfl⟩ | ⟨e, rfl⟩
            · rw [if_pos e]
            · rw [if_neg e, Nat.mul_one]
          rw [e1] at hrd'
          have e2 : List.drop (N * 1) (List.take (b1.length * 1) (vbs b1)) = vbs (b1.drop N) := by rw [Nat.mul_one, Nat.mul_one, ← vbs_length b1, List.take_length]; simp [vbs, List.map_drop]
          rw [e2] at hrd'
          simpa using hrd'
        clear hrd' hrd0 hmid
        have hsame : ∀ w2, Mods (Ext F w.heap.size) wq w2 → Same H wq w2 := fun w2 hm => hm.same fun g hg => ⟨Nat.lt_of_lt_of_le (HhH.out g hg).1 hmods.size, fun e => by rcases e with e | e; exact (HhH.out g hg).2 e; (have := (HhH.out g hg).1; omega)⟩
        have hafter := fun d => ref_writes wq q _ _ _ col1 cv1 wv1 lv1 bvs1 hr1 hF1 (nw + 1) d
        have hbt : acc.length ≤ 1000000000 := by omega
        have hNb : N ≤ 1000000000 := by omega
        have hidi : (idle : Int) + 1 ≤ 64 := by omega
        have Hhrd1 := Lib.hid hrd1
        clear hrd1
        have Hhrd2 := Lib.hid hrd2
        clear hrd2
        have Hhmods := Lib.hid hmods
        clear hmods
        have Hhgo := Lib.hid hgo
        clear hgo
        have HhN := Lib.hid hN
        clear hN
        have Hhsz := Lib.hid hsz
        clear hsz
        have Hhwr := Lib.hid hwr
        clear hwr
        have Hhfu := Lib.hid hfu
        clear hfu
        have Hhsame := Lib.hid hsame
        clear hsame
        have Hhid := Lib.hid hid
        clear hid
        have Hhqne := Lib.hid hqne
        clear hqne
        have Hhch := Lib.hid hch
        clear hch
        have Hhafter := Lib.hid hafter
        clear hafter
        have Hhr1 := Lib.hid hr1
        clear hr1
        have HhF1 := Lib.hid hF1
        clear hF1
        cases fa with
        | true =>
          rcases Nat.eq_zero_or_pos N with hN0 | hN0
          · subst hN0
            go_wp2_with (first | ((with_reducible refine wp_region_one 8 (fun g => g = q) [4] 20 ?_ ?_ ?_ ?_ ?_); kernel_rfl; kernel_rfl; kernel_rfl; (with_reducible repeat (first | exact calm_ret | refine calm_then ?_ | refine calm_in ?_ | refine calm_chk ?_ | refine calm_noGoto ?_)); simp only [List.drop_succ_cons, List.drop_zero, List.take_succ_cons, List.take_zero]) | (with_reducible refine segEnd ?_) | (refine And.intro (Keep.one HMA.out HD2.out HNQ.out) ?_) | ((with_reducible refine chkM_end (fun g => g = q) ?_ [.pointer (some ⟨q, 1, none⟩)] ?_ ?_ ?_); kernel_rfl; kernel_rfl; (intro v hv x hx; simp only [List.mem_cons, List.not_mem_nil, or_false] at hv; subst hv; (injection hx with hx; injection hx with hx; subst hx; simp))) | (go_at_call 30; (refine ret_use (Hhch.out) ?_; rintro v w2 ⟨rfl, d, hw2⟩; obtain ⟨col2, hr2, hF2, hm2⟩ := Hhafter.out d; rw [← hw2] at hr2 hF2 hm2; clear hw2; obtain ⟨g, cp, bs0, bv, rfl, hcp, rfl, hbl, k0, k1, hd2, ho2, hbk, hgq, hFg, hFq, kf1, hfl, hfin8⟩ := ref_last hr2 hF2 rfl; obtain ⟨A5, c5, rfl, _, _⟩ := ho2.form; have q1 := hd2.at_ 1 rfl; have HD2 := Lib.hid hd2.drew; have HO2 := Lib.hid ho2; have HBK := Lib.hid hbk; have HF8 := Lib.hid hfin8; have HM2 := Lib.hid hm2; have HNQ := Lib.hid (show ¬ _ = some q from fun e => (hbk q e).2.1 rfl); have hqg := hgq.symm; have HR2 := Lib.hid (Hhrd1.out.same (Hhsame.out _ hm2)); clear hr2 hF2 hm2 hd2 ho2 hbk hfl hfin8 hFg hFq hbl)) | (at_builtin; (refine wpList_append _ rfl (.tmp 69) (.tmp 72) 30 rfl 5 (.int .u8 0) 1 1 Tryd.underlying30 infoU8 rfl (by decide) (F := fun k => (Value.slice A5 acc.length c5).ownBlock = some k) (n := acc.length) (xs := vbs acc) (by rfl) (HO2.out.same (Same.drew _ _)) (G := H) (y := .slice A1 0 c1) (m := 0) (news := vbs (b1.take 0)) (by rfl) (HR2.out.same (Same.drew _ _)) (vbs_one _) (by omega) (by decide) ?c4aA)) | ((with_reducible refine wp_region_por ?_ ?_ ?_ ?_); kernel_rfl; kernel_rfl; (with_reducible repeat (first | exact calm_ret | refine calm_then ?_ | refine calm_in ?_ | refine calm_chk ?_ | refine calm_noGoto ?_))) | ((with_reducible refine chk_end ?_ ?_); kernel_rfl))
            case c4aA =>
              intro v1 w3 hown hmod hlt
              have hmod' : Mods (fun k => (Value.slice A5 acc.length c5).ownBlock = some k) w2 w3 := ⟨hmod.os, hmod.tape, hmod.output, hmod.size, hmod.block⟩
              obtain ⟨e1, e2, ⟨col3, hr3, hF3⟩, hM3⟩ := HF8.out w3 v1 (b1.take 0) (by simpa [Nat.min_eq_left HhN.out] using hown) hmod' hlt
              obtain ⟨A6, c6, rfl, _, _⟩ := hown.form
              have HMA := Lib.hid hmod
              have hgn : ¬ (Value.slice A5 acc.length c5).ownBlock = some g := fun e => (HBK.out g e).2.2 rfl
              have lg := World.block_lt_of_cell? w2 _ k1
              have p1 := (World.cell?_of_block (a := ⟨g, base.length * 2 + 1, none⟩) (hmod'.block g lg hgn)).trans k1
              have pf := (World.frozen?_of_block (a := ⟨g, base.length * 2 + 1, none⟩) (hmod'.block g lg hgn)).trans kf1
              have p2 := (HD2.out.mods hmod HNQ.out).at_ 1 rfl
              clear hown hmod hlt hgn lg
              have Hhr3 := Lib.hid hr3
              clear hr3
              have HhF3 := Lib.hid hF3
              clear hF3
              have HhM3 := Lib.hid hM3
              clear hM3
              have Hhmod' := Lib.hid hmod'
              clear hmod'
              go_wp2_with (first | ((with_reducible refine wp_region_one 8 (fun g => g = q) [4] 20 ?_ ?_ ?_ ?_ ?_); kernel_rfl; kernel_rfl; kernel_rfl; (with_reducible repeat (first | exact calm_ret | refine calm_then ?_ | refine calm_in ?_ | refine calm_chk ?_ | refine calm_noGoto ?_)); simp only [List.drop_succ_cons, List.drop_zero, List.take_succ_cons, List.take_zero]) | (with_reducible refine segEnd ?_) | (refine And.intro (Keep.one HMA.out HD2.out HNQ.out) ?_) | ((with_reducible refine chkM_end (fun g => g = q) ?_ [.pointer (some ⟨q, 1, none⟩)] ?_ ?_ ?_); kernel_rfl; kernel_rfl; (intro v hv x hx; simp only [List.mem_cons, List.not_mem_nil, or_false] at hv; subst hv; (injection hx with hx; injection hx with hx; subst hx; simp))) | ((with_reducible refine wp_region_por ?_ ?_ ?_ ?_); kernel_rfl; kernel_rfl; (with_reducible repeat (first | exact calm_ret | refine calm_then ?_ | refine calm_in ?_ | refine calm_chk ?_ | refine calm_noGoto ?_))) | ((with_reducible refine chk_end ?_ ?_); kernel_rfl))
              all_goals
                have hgo := Hhgo.out
                rw [if_pos (by first | rfl | trivial)] at hgo
                obtain ⟨g', cp', bs', bv', hcv', _, _, _, _, _, _, _, _, _, _, _, _, ⟨hfR, hfM⟩, _⟩ := ref_last Hhr3.out HhF3.out rfl
                injection hcv' with hcv' _ _
                injection hcv' with hcv'
                injection hcv' with hcv' _ _
                subst hcv'
                go_ret
                rw [Hhfin.out, ← hgo]
                refine ⟨by simp [natInt_beq0], hfR.more fun k _ e => ?_, mods_ext (mods_ext (mods_ext Hhmods.out HM2.out fun g e => e) HhM3.out fun g e => e) hfM fun k e => ext_ext (Nat.le_trans Hhmods.out.size HM2.out.size) k e⟩
                exact ext_ext (Nat.le_trans Hhmods.out.size HM2.out.size) k e
          · have hN0' : decide (0 < N) = true := decide_eq_true hN0
            go_wp2_with (first | ((with_reducible refine wp_region_one 8 (fun g => g = q) [4] 20 ?_ ?_ ?_ ?_ ?_); kernel_rfl; kernel_rfl; kernel_rfl; (with_reducible repeat (first | exact calm_ret | refine calm_then ?_ | refine calm_in ?_ | refine calm_chk ?_ | refine calm_noGoto ?_)); simp only [List.drop_succ_cons, List.drop_zero, List.take_succ_cons, List.take_zero]) | (with_reducible refine segEnd ?_) | (refine And.intro (Keep.one HMA.out HD2.out HNQ.out) ?_) | ((with_reducible refine chkM_end (fun g => g = q) ?_ [.pointer (some ⟨q, 1, none⟩)] ?_ ?_ ?_); kernel_rfl; kernel_rfl; (intro v hv x hx; simp only [List.mem_cons, List.not_mem_nil, or_false] at hv; subst hv; (injection hx with hx; injection hx with hx; subst hx; simp))) | (go_at_call 30; (refine ret_use (Hhch.out) ?_; rintro v w2 ⟨rfl, d, hw2⟩; obtain ⟨col2, hr2, hF2, hm2⟩ := Hhafter.out d; rw [← hw2] at hr2 hF2 hm2; clear hw2; obtain ⟨g, cp, bs0, bv, rfl, hcp, rfl, hbl, k0, k1, hd2, ho2, hbk, hgq, hFg, hFq, kf1, hfl, hfin8⟩ := ref_last hr2 hF2 rfl; obtain ⟨A5, c5, rfl, _, _⟩ := ho2.form; have q1 := hd2.at_ 1 rfl; have HD2 := Lib.hid hd2.drew; have HO2 := Lib.hid ho2; have HBK := Lib.hid hbk; have HF8 := Lib.hid hfin8; have HM2 := Lib.hid hm2; have HNQ := Lib.hid (show ¬ _ = some q from fun e => (hbk q e).2.1 rfl); have hqg := hgq.symm; have HR2 := Lib.hid (Hhrd1.out.same (Hhsame.out _ hm2)); clear hr2 hF2 hm2 hd2 ho2 hbk hfl hfin8 hFg hFq hbl)) | (at_builtin; (refine wpList_append _ rfl (.tmp 69) (.tmp 72) 30 rfl 5 (.int .u8 0) 1 1 Tryd.underlying30 infoU8 rfl (by decide) (F := fun k => (Value.slice A5 acc.length c5).ownBlock = some k) (n := acc.length) (xs := vbs acc) (by rfl) (HO2.out.same (Same.drew _ _)) (G := H) (y := .slice A1 N c1) (m := N) (news := vbs (b1.take N)) (by rfl) (HR2.out.same (Same.drew _ _)) (vbs_one _) (by omega) (by decide) ?c4bA)) | ((with_reducible refine wp_region_por ?_ ?_ ?_ ?_); kernel_rfl; kernel_rfl; (with_reducible repeat (first | exact calm_ret | refine calm_then ?_ | refine calm_in ?_ | refine calm_chk ?_ | refine calm_noGoto ?_))) | ((with_reducible refine chk_end ?_ ?_); kernel_rfl))
            case c4bA =>
              intro v1 w3 hown hmod hlt
              have hmod' : Mods (fun k => (Value.slice A5 acc.length c5).ownBlock = some k) w2 w3 := ⟨hmod.os, hmod.tape, hmod.output, hmod.size, hmod.block⟩
              obtain ⟨e1, e2, ⟨col3, hr3, hF3⟩, hM3⟩ := HF8.out w3 v1 (b1.take N) (by simpa [Nat.min_eq_left HhN.out] using hown) hmod' hlt
              obtain ⟨A6, c6, rfl, _, _⟩ := hown.form
              have HMA := Lib.hid hmod
              have hgn : ¬ (Value.slice A5 acc.length c5).ownBlock = some g := fun e => (HBK.out g e).2.2 rfl
              have lg := World.block_lt_of_cell? w2 _ k1
              have p1 := (World.cell?_of_block (a := ⟨g, base.length * 2 + 1, none⟩) (hmod'.block g lg hgn)).trans k1
              have pf := (World.frozen?_of_block (a := ⟨g, base.length * 2 + 1, none⟩) (hmod'.block g lg hgn)).trans kf1
              have p2 := (HD2.out.mods hmod HNQ.out).at_ 1 rfl
              clear hown hmod hlt hgn lg
              have Hhr3 := Lib.hid hr3
              clear hr3
              have HhF3 := Lib.hid hF3
              clear hF3
              have HhM3 := Lib.hid hM3
              clear hM3
              have Hhmod' := Lib.hid hmod'
              clear hmod'
              go_wp2_with (first | ((with_reducible refine wp_region_one 8 (fun g => g = q) [4] 20 ?_ ?_ ?_ ?_ ?_); kernel_rfl; kernel_rfl; kernel_rfl; (with_reducible repeat (first | exact calm_ret | refine calm_then ?_ | refine calm_in ?_ | refine calm_chk ?_ | refine calm_noGoto ?_)); simp only [List.drop_succ_cons, List.drop_zero, List.take_succ_cons, List.take_zero]) | (with_reducible refine segEnd ?_) | (refine And.intro (Keep.one HMA.out HD2.out HNQ.out) ?_) | ((with_reducible refine chkM_end (fun g => g = q) ?_ [.pointer (some ⟨q, 1, none⟩)] ?_ ?_ ?_); kernel_rfl; kernel_rfl; (intro v hv x hx; simp only [List.mem_cons, List.not_mem_nil, or_false] at hv; subst hv; (injection hx with hx; injection hx with hx; subst hx; simp))) | ((with_reducible refine wp_region_por ?_ ?_ ?_ ?_); kernel_rfl; kernel_rfl; (with_reducible repeat (first | exact calm_ret | refine calm_then ?_ | refine calm_in ?_ | refine calm_chk ?_ | refine calm_noGoto ?_))) | ((with_reducible refine chk_end ?_ ?_); kernel_rfl))
              all_goals
                have hgo := Hhgo.out
                rw [if_pos (by first | rfl | trivial)] at hgo
                obtain ⟨g', cp', bs', bv', hcv', _, _, _, _, _, _, _, _, _, _, _, _, ⟨hfR, hfM⟩, _⟩ := ref_last Hhr3.out HhF3.out rfl
                injection hcv' with hcv' _ _
                injection hcv' with hcv'
                injection hcv' with hcv' _ _
                subst hcv'
                go_ret
                rw [Hhfin.out, ← hgo]
                refine ⟨by simp [natInt_beq0], hfR.more fun k _ e => ?_, mods_ext (mods_ext (mods_ext Hhmods.out HM2.out fun g e => e) HhM3.out fun g e => e) hfM fun k e => ext_ext (Nat.le_trans Hhmods.out.size HM2.out.size) k e⟩
                exact ext_ext (Nat.le_trans Hhmods.out.size HM2.out.size) k e
        | false =>
          rcases Nat.eq_zero_or_pos N with hN0 | hN0
          · subst hN0
            by_cases hl : idle + 1 = 64
            · have hl' : ((idle : Int) + 1 == 64) = true := by simp; omega
              go_wp2_with (first | ((with_reducible refine wp_region_one 8 (fun g => g = q) [4] 20 ?_ ?_ ?_ ?_ ?_); kernel_rfl; kernel_rfl; kernel_rfl; (with_reducible repeat (first | exact calm_ret | refine calm_then ?_ | refine calm_in ?_ | refine calm_chk ?_ | refine calm_noGoto ?_)); simp only [List.drop_succ_cons, List.drop_zero, List.take_succ_cons, List.take_zero]) | (with_reducible refine segEnd ?_) | (refine And.intro (Keep.one HMA.out HD2.out HNQ.out) ?_) | ((with_reducible refine chkM_end (fun g => g = q) ?_ [.pointer (some ⟨q, 1, none⟩)] ?_ ?_ ?_); kernel_rfl; kernel_rfl; (intro v hv x hx; simp only [List.mem_cons, List.not_mem_nil, or_false] at hv; subst hv; (injection hx with hx; injection hx with hx; subst hx; simp))) | (go_at_call 30; (refine ret_use (Hhch.out) ?_; rintro v w2 ⟨rfl, d, hw2⟩; obtain ⟨col2, hr2, hF2, hm2⟩ := Hhafter.out d; rw [← hw2] at hr2 hF2 hm2; clear hw2; obtain ⟨g, cp, bs0, bv, rfl, hcp, rfl, hbl, k0, k1, hd2, ho2, hbk, hgq, hFg, hFq, kf1, hfl, hfin8⟩ := ref_last hr2 hF2 rfl; obtain ⟨A5, c5, rfl, _, _⟩ := ho2.form; have q1 := hd2.at_ 1 rfl; have HD2 := Lib.hid hd2.drew; have HO2 := Lib.hid ho2; have HBK := Lib.hid hbk; have HF8 := Lib.hid hfin8; have HM2 := Lib.hid hm2; have HNQ := Lib.hid (show ¬ _ = some q from fun e => (hbk q e).2.1 rfl); have hqg := hgq.symm; have HR2 := Lib.hid (Hhrd1.out.same (Hhsame.out _ hm2)); clear hr2 hF2 hm2 hd2 ho2 hbk hfl hfin8 hFg hFq hbl)) | (at_builtin; (refine wpList_append _ rfl (.tmp 69) (.tmp 72) 30 rfl 5 (.int .u8 0) 1 1 Tryd.underlying30 infoU8 rfl (by decide) (F := fun k => (Value.slice A5 acc.length c5).ownBlock = some k) (n := acc.length) (xs := vbs acc) (by rfl) (HO2.out.same (Same.drew _ _)) (G := H) (y := .slice A1 0 c1) (m := 0) (news := vbs (b1.take 0)) (by rfl) (HR2.out.same (Same.drew _ _)) (vbs_one _) (by omega) (by decide) ?c4cA)) | ((with_reducible refine wp_region_por ?_ ?_ ?_ ?_); kernel_rfl; kernel_rfl; (with_reducible repeat (first | exact calm_ret | refine calm_then ?_ | refine calm_in ?_ | refine calm_chk ?_ | refine calm_noGoto ?_))) | ((with_reducible refine chk_end ?_ ?_); kernel_rfl))
              case c4cA =>
                intro v1 w3 hown hmod hlt
                have hmod' : Mods (fun k => (Value.slice A5 acc.length c5).ownBlock = some k) w2 w3 := ⟨hmod.os, hmod.tape, hmod.output, hmod.size, hmod.block⟩
                obtain ⟨e1, e2, ⟨col3, hr3, hF3⟩, hM3⟩ := HF8.out w3 v1 (b1.take 0) (by simpa [Nat.min_eq_left HhN.out] using hown) hmod' hlt
                obtain ⟨A6, c6, rfl, _, _⟩ := hown.form
                have HMA := Lib.hid hmod
                have hgn : ¬ (Value.slice A5 acc.length c5).ownBlock = some g := fun e => (HBK.out g e).2.2 rfl
                have lg := World.block_lt_of_cell? w2 _ k1
                have p1 := (World.cell?_of_block (a := ⟨g, base.length * 2 + 1, none⟩) (hmod'.block g lg hgn)).trans k1
                have pf := (World.frozen?_of_block (a := ⟨g, base.length * 2 + 1, none⟩) (hmod'.block g lg hgn)).trans kf1
                have p2 := (HD2.out.mods hmod HNQ.out).at_ 1 rfl
                clear hown hmod hlt hgn lg
                have Hhr3 := Lib.hid hr3
                clear hr3
                have HhF3 := Lib.hid hF3
                clear hF3
                have HhM3 := Lib.hid hM3
                clear hM3
                have Hhmod' := Lib.hid hmod'
                clear hmod'
                go_wp2_with (first | ((with_reducible refine wp_region_one 8 (fun g => g = q) [4] 20 ?_ ?_ ?_ ?_ ?_); kernel_rfl; kernel_rfl; kernel_rfl; (with_reducible repeat (first | exact calm_ret | refine calm_then ?_ | refine calm_in ?_ | refine calm_chk ?_ | refine calm_noGoto ?_)); simp only [List.drop_succ_cons, List.drop_zero, List.take_succ_cons, List.take_zero]) | (with_reducible refine segEnd ?_) | (refine And.intro (Keep.one HMA.out HD2.out HNQ.out) ?_) | ((with_reducible refine chkM_end (fun g => g = q) ?_ [.pointer (some ⟨q, 1, none⟩)] ?_ ?_ ?_); kernel_rfl; kernel_rfl; (intro v hv x hx; simp only [List.mem_cons, List.not_mem_nil, or_false] at hv; subst hv; (injection hx with hx; injection hx with hx; subst hx; simp))) | ((with_reducible refine wp_region_por ?_ ?_ ?_ ?_); kernel_rfl; kernel_rfl; (with_reducible repeat (first | exact calm_ret | refine calm_then ?_ | refine calm_in ?_ | refine calm_chk ?_ | refine calm_noGoto ?_))) | ((with_reducible refine chk_end ?_ ?_); kernel_rfl))
                all_goals
                  have hgo := Hhgo.out
                  rw [if_neg (by simp), if_neg (by omega), if_pos hl] at hgo
                  obtain ⟨g', cp', bs', bv', hcv', _, _, _, _, _, _, _, _, _, _, _, _, ⟨hfR, hfM⟩, _⟩ := ref_last Hhr3.out HhF3.out rfl
                  injection hcv' with hcv' _ _
                  injection hcv' with hcv'
                  injection hcv' with hcv' _ _
                  subst hcv'
                  go_ret
                  rw [Hhfin.out, ← hgo]
                  refine ⟨by simp [natInt_beq0], hfR.more fun k _ e => ?_, mods_ext (mods_ext (mods_ext Hhmods.out HM2.out fun g e => e) HhM3.out fun g e => e) hfM fun k e => ext_ext (Nat.le_trans Hhmods.out.size HM2.out.size) k e⟩
                  exact ext_ext (Nat.le_trans Hhmods.out.size HM2.out.size) k e
            · have hl' : ((idle : Int) + 1 == 64) = false := by simp; omega
              go_wp2_with (first | ((with_reducible refine wp_region_one 8 (fun g => g = q) [4] 20 ?_ ?_ ?_ ?_ ?_); kernel_rfl; kernel_rfl; kernel_rfl; (with_reducible repeat (first | exact calm_ret | refine calm_then ?_ | refine calm_in ?_ | refine calm_chk ?_ | refine calm_noGoto ?_)); simp only [List.drop_succ_cons, List.drop_zero, List.take_succ_cons, List.take_zero]) | (with_reducible refine segEnd ?_) | (refine And.intro (Keep.one HMA.out HD2.out HNQ.out) ?_) | ((with_reducible refine chkM_end (fun g => g = q) ?_ [.pointer (some ⟨q, 1, none⟩)] ?_ ?_ ?_); kernel_rfl; kernel_rfl; (intro v hv x hx; simp only [List.mem_cons, List.not_mem_nil, or_false] at hv; subst hv; (injection hx with hx; injection hx with hx; subst hx; simp))) | (go_at_call 30; (refine ret_use (Hhch.out) ?_; rintro v w2 ⟨rfl, d, hw2⟩; obtain ⟨col2, hr2, hF2, hm2⟩ := Hhafter.out d; rw [← hw2] at hr2 hF2 hm2; clear hw2; obtain ⟨g, cp, bs0, bv, rfl, hcp, rfl, hbl, k0, k1, hd2, ho2, hbk, hgq, hFg, hFq, kf1, hfl, hfin8⟩ := ref_last hr2 hF2 rfl; obtain ⟨A5, c5, rfl, _, _⟩ := ho2.form; have q1 := hd2.at_ 1 rfl; have HD2 := Lib.hid hd2.drew; have HO2 := Lib.hid ho2; have HBK := Lib.hid hbk; have HF8 := Lib.hid hfin8; have HM2 := Lib.hid hm2; have HNQ := Lib.hid (show ¬ _ = some q from fun e => (hbk q e).2.1 rfl); have hqg := hgq.symm; have HR2 := Lib.hid (Hhrd1.out.same (Hhsame.out _ hm2)); clear hr2 hF2 hm2 hd2 ho2 hbk hfl hfin8 hFg hFq hbl)) | (at_builtin; (refine wpList_append _ rfl (.tmp 69) (.tmp 72) 30 rfl 5 (.int .u8 0) 1 1 Tryd.underlying30 infoU8 rfl (by decide) (F := fun k => (Value.slice A5 acc.length c5).ownBlock = some k) (n := acc.length) (xs := vbs acc) (by rfl) (HO2.out.same (Same.drew _ _)) (G := H) (y := .slice A1 0 c1) (m := 0) (news := vbs (b1.take 0)) (by rfl) (HR2.out.same (Same.drew _ _)) (vbs_one _) (by omega) (by decide) ?c4dA)) | ((with_reducible refine wp_region_por ?_ ?_ ?_ ?_); kernel_rfl; kernel_rfl; (with_reducible repeat (first | exact calm_ret | refine calm_then ?_ | refine calm_in ?_ | refine calm_chk ?_ | refine calm_noGoto ?_))) | ((with_reducible refine chk_end ?_ ?_); kernel_rfl))
              case c4dA =>
                intro v1 w3 hown hmod hlt
                have hmod' : Mods (fun k => (Value.slice A5 acc.length c5).ownBlock = some k) w2 w3 := ⟨hmod.os, hmod.tape, hmod.output, hmod.size, hmod.block⟩
                obtain ⟨e1, e2, ⟨col3, hr3, hF3⟩, hM3⟩ := HF8.out w3 v1 (b1.take 0) (by simpa [Nat.min_eq_left HhN.out] using hown) hmod' hlt
                obtain ⟨A6, c6, rfl, _, _⟩ := hown.form
                have HMA := Lib.hid hmod
                have hgn : ¬ (Value.slice A5 acc.length c5).ownBlock = some g := fun e => (HBK.out g e).2.2 rfl
                have lg := World.block_lt_of_cell? w2 _ k1
                have p1 := (World.cell?_of_block (a := ⟨g, base.length * 2 + 1, none⟩) (hmod'.block g lg hgn)).trans k1
                have pf := (World.frozen?_of_block (a := ⟨g, base.length * 2 + 1, none⟩) (hmod'.block g lg hgn)).trans kf1
                have p2 := (HD2.out.mods hmod HNQ.out).at_ 1 rfl
                clear hown hmod hlt hgn lg
                have Hhr3 := Lib.hid hr3
                clear hr3
                have HhF3 := Lib.hid hF3
                clear hF3
                have HhM3 := Lib.hid hM3
                clear hM3
                have Hhmod' := Lib.hid hmod'
                clear hmod'
                go_wp2_with (first | ((with_reducible refine wp_region_one 8 (fun g => g = q) [4] 20 ?_ ?_ ?_ ?_ ?_); kernel_rfl; kernel_rfl; kernel_rfl; (with_reducible repeat (first | exact calm_ret | refine calm_then ?_ | refine calm_in ?_ | refine calm_chk ?_ | refine calm_noGoto ?_)); simp only [List.drop_succ_cons, List.drop_zero, List.take_succ_cons, List.take_zero]) | (with_reducible refine segEnd ?_) | (refine And.intro (Keep.one HMA.out HD2.out HNQ.out) ?_) | ((with_reducible refine chkM_end (fun g => g = q) ?_ [.pointer (some ⟨q, 1, none⟩)] ?_ ?_ ?_); kernel_rfl; kernel_rfl; (intro v hv x hx; simp only [List.mem_cons, List.not_mem_nil, or_false] at hv; subst hv; (injection hx with hx; injection hx with hx; subst hx; simp))) | ((with_reducible refine wp_region_por ?_ ?_ ?_ ?_); kernel_rfl; kernel_rfl; (with_reducible repeat (first | exact calm_ret | refine calm_then ?_ | refine calm_in ?_ | refine calm_chk ?_ | refine calm_noGoto ?_))) | ((with_reducible refine chk_end ?_ ?_); kernel_rfl))
                all_goals
                  have hgo := Hhgo.out
                  rw [if_neg (by simp), if_neg (by omega), if_neg hl] at hgo
                  have h1 := Hhfu.out
                  have h2 := Hhid.out
                  have h3 := Hhsz.out
                  have h4 := Hhwr.out
                  go_roundg f
                  case rel =>
                    refine ⟨_, idle + 1, nw + 1, _, by go_num, ⟨⟨col3, _, _, _, _, Hhr3.out, fun k hk hc => ext_ext (Nat.le_trans Hhmods.out.size HM2.out.size) k (HhF3.out k hk hc)⟩, mods_ext (mods_ext Hhmods.out HM2.out fun g e => e) HhM3.out fun g e => e, (Hhrd2.out _ ?_).same (Hhsame.out _ (HM2.out.trans HhM3.out fun g _ e => e)), hgo, ?_, ?_, ?_, ?_⟩⟩
                    · by_cases hc : c1 = 0
                      · exact .inl ⟨by simpa using hc, rfl⟩
                      · exact .inr ⟨by simpa using hc, by cases A1 <;> simp [Addr.add]⟩
                    · simp; omega
                    · omega
                    · simp; omega
                    · omega
                  case measure => omega
          · have hN0' : decide (0 < N) = true := decide_eq_true hN0
            go_wp2_with (first | ((with_reducible refine wp_region_one 8 (fun g => g = q) [4] 20 ?_ ?_ ?_ ?_ ?_); kernel_rfl; kernel_rfl; kernel_rfl; (with_reducible repeat (first | exact calm_ret | refine calm_then ?_ | refine calm_in ?_ | refine calm_chk ?_ | refine calm_noGoto ?_)); simp only [List.drop_succ_cons, List.drop_zero, List.take_succ_cons, List.take_zero]) | (with_reducible refine segEnd ?_) | (refine And.intro (Keep.one HMA.out HD2.out HNQ.out) ?_) | ((with_reducible refine chkM_end (fun g => g = q) ?_ [.pointer (some ⟨q, 1, none⟩)] ?_ ?_ ?_); kernel_rfl; kernel_rfl; (intro v hv x hx; simp only [List.mem_cons, List.not_mem_nil, or_false] at hv; subst hv; (injection hx with hx; injection hx with hx; subst hx; simp))) | (go_at_call 30; (refine ret_use (Hhch.out) ?_; rintro v w2 ⟨rfl, d, hw2⟩; obtain ⟨col2, hr2, hF2, hm2⟩ := Hhafter.out d; rw [← hw2] at hr2 hF2 hm2; clear hw2; obtain ⟨g, cp, bs0, bv, rfl, hcp, rfl, hbl, k0, k1, hd2, ho2, hbk, hgq, hFg, hFq, kf1, hfl, hfin8⟩ := ref_last hr2 hF2 rfl; obtain ⟨A5, c5, rfl, _, _⟩ := ho2.form; have q1 := hd2.at_ 1 rfl; have HD2 := Lib.hid hd2.drew; have HO2 := Lib.hid ho2; have HBK := Lib.hid hbk; have HF8 := Lib.hid hfin8; have HM2 := Lib.hid hm2; have HNQ := Lib.hid (show ¬ _ = some q from fun e => (hbk q e).2.1 rfl); have hqg := hgq.symm; have HR2 := Lib.hid (Hhrd1.out.same (Hhsame.out _ hm2)); clear hr2 hF2 hm2 hd2 ho2 hbk hfl hfin8 hFg hFq hbl)) | (at_builtin; (refine wpList_append _ rfl (.tmp 69) (.tmp 72) 30 rfl 5 (.int .u8 0) 1 1 Tryd.underlying30 infoU8 rfl (by decide) (F := fun k => (Value.slice A5 acc.length c5).ownBlock = some k) (n := acc.length) (xs := vbs acc) (by rfl) (HO2.out.same (Same.drew _ _)) (G := H) (y := .slice A1 N c1) (m := N) (news := vbs (b1.take N)) (by rfl) (HR2.out.same (Same.drew _ _)) (vbs_one _) (by omega) (by decide) ?c4eA)) | ((with_reducible refine wp_region_por ?_ ?_ ?_ ?_); kernel_rfl; kernel_rfl; (with_reducible repeat (first | exact calm_ret | refine calm_then ?_ | refine calm_in ?_ | refine calm_chk ?_ | refine calm_noGoto ?_))) | ((with_reducible refine chk_end ?_ ?_); kernel_rfl))
            case c4eA =>
              intro v1 w3 hown hmod hlt
              have hmod' : Mods (fun k => (Value.slice A5 acc.length c5).ownBlock = some k) w2 w3 := ⟨hmod.os, hmod.tape, hmod.output, hmod.size, hmod.block⟩
              obtain ⟨e1, e2, ⟨col3, hr3, hF3⟩, hM3⟩ := HF8.out w3 v1 (b1.take N) (by simpa [Nat.min_eq_left HhN.out] using hown) hmod' hlt
              obtain ⟨A6, c6, rfl, _, _⟩ := hown.form
              have HMA := Lib.hid hmod
              have hgn : ¬ (Value.slice A5 acc.length c5).ownBlock = some g := fun e => (HBK.out g e).2.2 rfl
              have lg := World.block_lt_of_cell? w2 _ k1
              have p1 := (World.cell?_of_block (a := ⟨g, base.length * 2 + 1, none⟩) (hmod'.block g lg hgn)).trans k1
              have pf := (World.frozen?_of_block (a := ⟨g, base.length * 2 + 1, none⟩) (hmod'.block g lg hgn)).trans kf1
              have p2 := (HD2.out.mods hmod HNQ.out).at_ 1 rfl
              clear hown hmod hlt hgn lg
              have Hhr3 := Lib.hid hr3
              clear hr3
              have HhF3 := Lib.hid hF3
              clear hF3
              have HhM3 := Lib.hid hM3
              clear hM3
              have Hhmod' := Lib.hid hmod'
              clear hmod'
              go_wp2_with (first | ((with_reducible refine wp_region_one 8 (fun g => g = q) [4] 20 ?_ ?_ ?_ ?_ ?_); kernel_rfl; kernel_rfl; kernel_rfl; (with_reducible repeat (first | exact calm_ret | refine calm_then ?_ | refine calm_in ?_ | refine calm_chk ?_ | refine calm_noGoto ?_)); simp only [List.drop_succ_cons, List.drop_zero, List.take_succ_cons, List.take_zero]) | (with_reducible refine segEnd ?_) | (refine And.intro (Keep.one HMA.out HD2.out HNQ.out) ?_) | ((with_reducible refine chkM_end (fun g => g = q) ?_ [.pointer (some ⟨q, 1, none⟩)] ?_ ?_ ?_); kernel_rfl; kernel_rfl; (intro v hv x hx; simp only [List.mem_cons, List.not_mem_nil, or_false] at hv; subst hv; (injection hx with hx; injection hx with hx; subst hx; simp))) | ((with_reducible refine wp_region_por ?_ ?_ ?_ ?_); kernel_rfl; kernel_rfl; (with_reducible repeat (first | exact calm_ret | refine calm_then ?_ | refine calm_in ?_ | refine calm_chk ?_ | refine calm_noGoto ?_))) | ((with_reducible refine chk_end ?_ ?_); kernel_rfl))
              all_goals
                have hgo := Hhgo.out
                rw [if_neg (by simp), if_pos hN0] at hgo
                have h1 := Hhfu.out
                have h3 := Hhsz.out
                have h4 := Hhwr.out
                have h5 := HhN.out
                have hl1 : (List.take N b1).length = N := by simp; omega
                go_roundg f
                case rel =>
                  refine ⟨_, 0, nw + 1, b1.drop N, rfl, ⟨⟨col3, _, _, _, _, Hhr3.out, fun k hk hc => ext_ext (Nat.le_trans Hhmods.out.size HM2.out.size) k (HhF3.out k hk hc)⟩, mods_ext (mods_ext Hhmods.out HM2.out fun g e => e) HhM3.out fun g e => e, ?_, hgo, ?_, ?_, ?_, ?_⟩⟩
                  · have hc : c1 = N ∨ ¬ c1 = N := by omega
                    rcases hc with hc | hc
                    · subst hc
                      first
                      | exact absurd rfl (by assumption)
                      | simpa using (Hhrd2.out _ (.inl ⟨rfl, rfl⟩)).same (Hhsame.out _ (HM2.out.trans HhM3.out fun g _ e => e))
                    · first
                      | exact absurd (by assumption) hc
                      | simpa using (Hhrd2.out _ (.inr ⟨hc, rfl⟩)).same (Hhsame.out _ (HM2.out.trans HhM3.out fun g _ e => e))
                  · simp; omega
                  · omega
                  · simp at h5 ⊢; omega
                  · omega
                case measure => omega
  · have he : opened s.conns = s.conns ++ [⟨[], false⟩] := by simp [opened, ho]
    rw [he] at ho1
    obtain ⟨hb0, ha0⟩ := List.append_inj' ho1 rfl
    subst hb0
    injection ha0 with ha0 _
    injection ha0 with ha0 _
    subst ha0
    have hbase : s.conns.length ≤ 1000000000 := b5
    have hbr := bvs.length
    clear hbr
    rcases Nat.eq_zero_or_pos s.conns.length with hz0 | hz0
    · obtain ⟨A7, c7, rfl, op1, op2⟩ := ref_open w q _ s F col cv wv lv bvs hr hF
      have hne0 : ((s.conns.length : Int) == 0) = true := by simp [hz0]
      have Hop1 := Lib.hid op1
      have Hop2 := Lib.hid op2
      clear op1 op2
      have Hh0 := Lib.hid h0
      clear h0
      have Hhpv := Lib.hid hpv
      clear hpv
      have Hhb := Lib.hid hb
      clear hb
      have HhH := Lib.hid hH
      clear hH
      have Hb3 := Lib.hid b3
      clear b3
      have Hho1 := Lib.hid ho1
      clear ho1
      have Hho2 := Lib.hid ho2
      clear ho2
      have Hho3 := Lib.hid ho3
      clear ho3
      have Hho4 := Lib.hid ho4
      clear ho4
      have HhR := Lib.hid hR
      clear hR
      have Hhfin := Lib.hid hfin
      clear hfin
      have Hb5 := Lib.hid b5
      clear b5
      have Hhr := Lib.hid hr
      clear hr
      have HhF := Lib.hid hF
      clear hF
      have Hhe := Lib.hid he
      clear he
      have Hhz0 := Lib.hid hz0
      clear hz0
      go_enter Tryd.func23, Tryd.ntmps23
      go_wp2_with (first | (at_builtin; (refine wpList_append _ rfl (.tmp 34) (.tmp 36) 35 rfl 54 (.agg #[.slice none 0 0, .bool false]) 2 32 Tryd.underlying35 infoConn rfl (by decide) (F := fun gg => (Value.slice A7 s.conns.length c7).ownBlock = some gg) (n := s.conns.length) (xs := conCells (bvs) s.conns) (by rfl) (Hop1.out _) (G := fun g => g = w.heap.size) (y := .slice (some ⟨w.heap.size, 0, none⟩) 1 1) (m := 1) (news := [.slice none 0 0, .bool false]) (by rfl) ?d1B (two_one rfl rfl) (by omega) (by decide) ?d4B)) | ((with_reducible refine wp_region_por ?_ ?_ ?_ ?_); kernel_rfl; kernel_rfl; (with_reducible repeat (first | exact calm_ret | refine calm_then ?_ | refine calm_in ?_ | refine calm_chk ?_ | refine calm_noGoto ?_))) | ((with_reducible refine chk_end ?_ ?_); kernel_rfl))
      case d1B => exact Rd.box _ #[.slice none 0 0, .bool false] _ (by simp) rfl (by decide)
      case d4B =>
        intro v1 w1 hown hmod hlt
        obtain ⟨e1, e2, hR1, hM1⟩ := Hop2.out _ v1 w1 hown hmod hlt
        obtain ⟨A6, c6, rfl, _, _⟩ := hown.form
        clear hown hmod hlt
        have hst : RMid w q (.slice Ap plan.length cpl) plan s F H R s.conns (w1.setCell ⟨q, 1, none⟩ _) [] 0 s.writes (fuel b) (.slice A b.length c) b :=
          ⟨hR1, hM1, Hhb.out.same (hM1.same HhH.out), HhR.out.symm, by unfold fuel; omega, by omega, by simp; omega, by unfold fuel; omega⟩
        clear hR1 hM1
        have Hhst := Lib.hid hst
        clear hst
        go_wp2_with (first | ((with_reducible refine wp_region_por ?_ ?_ ?_ ?_); kernel_rfl; kernel_rfl; (with_reducible repeat (first | exact calm_ret | refine calm_then ?_ | refine calm_in ?_ | refine calm_chk ?_ | refine calm_noGoto ?_))) | ((with_reducible refine chk_end ?_ ?_); kernel_rfl))
        go_loopg [1, 6] (fuel b) (fun k v1 v6 wr => RInv w q (.slice Ap plan.length cpl) plan s F H R s.conns k v1 v6 wr)
        case atStart => exact ⟨_, 0, s.writes, b, rfl, Hhst.out⟩
        case round =>
          obtain ⟨acc, idle, nw, b1, rfl, hmid⟩ := hrel
          obtain ⟨A1, c1, rfl, hbc1, hbm1⟩ := hmid.rd.form
          clear hbm1
          obtain ⟨kf, rfl⟩ : ∃ kf, kf = gk := ⟨_, rfl⟩
          obtain ⟨wq, rfl⟩ : ∃ wq, wq = wr := ⟨_, rfl⟩
          obtain ⟨f, rfl⟩ : ∃ f, kf = f + 1 := ⟨kf - 1, by have := hmid.fuel; omega⟩
          have hgo := hmid.go
          have hfu := hmid.fuel
          have hid := hmid.idle
          have hsz := hmid.size
          have hwr := hmid.writes
          unfold sendGo at hgo
          rcases Nat.eq_zero_or_pos b1.length with hz | hz
          · have hz' : decide (0 < b1.length) = false := by simpa using hz
            rw [if_pos hz] at hgo
            have href := hmid.ref
            have hmods := hmid.mods
            have Hhmid := Lib.hid hmid
            clear hmid
            have Hhgo := Lib.hid hgo
            clear hgo
            have Hhfu := Lib.hid hfu
            clear hfu
            have Hhid := Lib.hid hid
            clear hid
            have Hhsz := Lib.hid hsz
            clear hsz
            have Hhwr := Lib.hid hwr
            clear hwr
            have Hhref := Lib.hid href
            clear href
            have Hhmods := Lib.hid hmods
            clear hmods
            go_wp2_with (first | ((with_reducible refine wp_region_por ?_ ?_ ?_ ?_); kernel_rfl; kernel_rfl; (with_reducible repeat (first | exact calm_ret | refine calm_then ?_ | refine calm_in ?_ | refine calm_chk ?_ | refine calm_noGoto ?_))) | ((with_reducible refine chk_end ?_ ?_); kernel_rfl))
            go_ret
            rw [Hhfin.out, ← Hhgo.out]
            exact ⟨by simp [hz], Hhref.out, Hhmods.out⟩
          · have hz' : decide (0 < b1.length) = true := by simpa using hz
            rw [if_neg (by omega)] at hgo
            obtain ⟨col1, cv1, wv1, lv1, bvs1, hr1, hF1⟩ := hmid.ref
            have hmods := hmid.mods
            have hqne : ∀ g, H g → g ≠ q := fun g hg e => by
              rcases hF1 q hr1.hdr.lt (by rw [hr1.colq]; decide) with e1 | e1
              · exact (HhH.out g hg).2 (e ▸ e1)
              · have := (HhH.out g hg).1; omega
            have hch := choice_any wq q b1.length nw Ap cpl _ _ _ _ _ plan H hr1.hdr (Hhpv.out.same (hmods.same HhH.out)) hqne hplan (by omega) (by omega)
            have hN := pick_le plan nw b1.length
            generalize pick plan nw b1.length = pk at hch hgo hN
            obtain ⟨N, fa⟩ := pk
            dsimp only at hch hgo hN
            have hN' : (N : Int) ≤ c1 := by omega
            have hrd0 := hmid.rd
            have hrd1 : Rd wq H 1 (.slice A1 N c1) N (vbs (b1.take N)) := by have := hrd0.take (l := N) hN; simpa [vbs, List.map_take] using this
            have hrd' := hrd0.cut (k := N) (l := b1.length) hN (Nat.le_refl _)
            have hrd2 : ∀ A', ((c1 = N ∧ A' = A1) ∨ (¬ c1 = N ∧ A' = A1.map (·.add N))) → Rd wq H 1 (.slice A' (b1.length - N) (c1 - N)) (b1.drop N).length (vbs (b1.drop N)) := by
              intro A' hA'
              have e1 : (if c1 = N then A1 else Option.map (fun x => x.add (N * 1)) A1) = A' := by
                rcases hA' with ⟨e, rfl⟩ | ⟨e, rfl⟩
                · rw [if_pos e]
                · rw [if_neg e, Nat.mul_one]
              rw [e1] at hrd'
              have e2 : List.drop (N * 1) (List.take (b1.length * 1) (vbs b1)) = vbs (b1.drop N) := by rw [Nat.mul_one, Nat.mul_one, ← vbs_length b1, List.take_length]; simp [vbs, List.map_drop]
              rw [e2] at hrd'
              simpa using hrd'
            clear hrd' hrd0 hmid
            have hsame : ∀ w2, Mods (Ext F w.heap.size) wq w2 → Same H wq w2 := fun w2 hm => hm.same fun g hg => ⟨Nat.lt_of_lt_of_le (HhH.out g hg).1 hmods.size, fun e => by rcases e with e | e; exact (HhH.out g hg).2 e; (have := (HhH.out g hg).1; omega)⟩
            have hafter := fun d => ref_writes wq q _ _ _ col1 cv1 wv1 lv1 bvs1 hr1 hF1 (nw + 1) d
            have hbt : acc.length ≤ 1000000000 := by omega
            have hNb : N ≤ 1000000000 := by omega
            have hidi : (idle : Int) + 1 ≤ 64 := by omega
            have Hhrd1 := Lib.hid hrd1
            clear hrd1
            have Hhrd2 := Lib.hid hrd2
            clear hrd2
            have Hhmods := Lib.hid hmods
            clear hmods
            have Hhgo := Lib.hid hgo
            clear hgo
            have HhN := Lib.hid hN
            clear hN
            have Hhsz := Lib.hid hsz
            clear hsz
            have Hhwr := Lib.hid hwr
            clear hwr
            have Hhfu := Lib.hid hfu
            clear hfu
            have Hhsame := Lib.hid hsame
            clear hsame
            have Hhid := Lib.hid hid
            clear hid
            have Hhqne := Lib.hid hqne
            clear hqne
            have Hhch := Lib.hid hch
            clear hch
            have Hhafter := Lib.hid hafter
            clear hafter
            have Hhr1 := Lib.hid hr1
            clear hr1
            have HhF1 := Lib.hid hF1
            clear hF1
            cases fa with
            | true =>
              rcases Nat.eq_zero_or_pos N with hN0 | hN0
              · subst hN0
                go_wp2_with (first | ((with_reducible refine wp_region_one 8 (fun g => g = q) [4] 20 ?_ ?_ ?_ ?_ ?_); kernel_rfl; kernel_rfl; kernel_rfl; (with_reducible repeat (first | exact calm_ret | refine calm_then ?_ | refine calm_in ?_ | refine calm_chk ?_ | refine calm_noGoto ?_)); simp only [List.drop_succ_cons, List.drop_zero, List.take_succ_cons, List.take_zero]) | (with_reducible refine segEnd ?_) | (refine And.intro (Keep.one HMA.out HD2.out HNQ.out) ?_) | ((with_reducible refine chkM_end (fun g => g = q) ?_ [.pointer (some ⟨q, 1, none⟩)] ?_ ?_ ?_); kernel_rfl; kernel_rfl; (intro v hv x hx; simp only [List.mem_cons, List.not_mem_nil, or_false] at hv; subst hv; (injection hx with hx; injection hx with hx; subst hx; simp))) | (go_at_call 30; (refine ret_use (Hhch.out) ?_; rintro v w2 ⟨rfl, d, hw2⟩; obtain ⟨col2, hr2, hF2, hm2⟩ := Hhafter.out d; rw [← hw2] at hr2 hF2 hm2; clear hw2; obtain ⟨g, cp, bs0, bv, rfl, hcp, rfl, hbl, k0, k1, hd2, ho2, hbk, hgq, hFg, hFq, kf1, hfl, hfin8⟩ := ref_last hr2 hF2 rfl; obtain ⟨A5, c5, rfl, _, _⟩ := ho2.form; have q1 := hd2.at_ 1 rfl; have HD2 := Lib.hid hd2.drew; have HO2 := Lib.hid ho2; have HBK := Lib.hid hbk; have HF8 := Lib.hid hfin8; have HM2 := Lib.hid hm2; have HNQ := Lib.hid (show ¬ _ = some q from fun e => (hbk q e).2.1 rfl); have hqg := hgq.symm; have HR2 := Lib.hid (Hhrd1.out.same (Hhsame.out _ hm2)); clear hr2 hF2 hm2 hd2 ho2 hbk hfl hfin8 hFg hFq hbl)) | (at_builtin; (refine wpList_append _ rfl (.tmp 69) (.tmp 72) 30 rfl 5 (.int .u8 0) 1 1 Tryd.underlying30 infoU8 rfl (by decide) (F := fun k => (Value.slice A5 acc.length c5).ownBlock = some k) (n := acc.length) (xs := vbs acc) (by rfl) (HO2.out.same (Same.drew _ _)) (G := H) (y := .slice A1 0 c1) (m := 0) (news := vbs (b1.take 0)) (by rfl) (HR2.out.same (Same.drew _ _)) (vbs_one _) (by omega) (by decide) ?c4aB)) | ((with_reducible refine wp_region_por ?_ ?_ ?_ ?_); kernel_rfl; kernel_rfl; (with_reducible repeat (first | exact calm_ret | refine calm_then ?_ | refine calm_in ?_ | refine calm_chk ?_ | refine calm_noGoto ?_))) | ((with_reducible refine chk_end ?_ ?_); kernel_rfl))
                case c4aB =>
                  intro v1 w3 hown hmod hlt
                  have hmod' : Mods (fun k => (Value.slice A5 acc.length c5).ownBlock = some k) w2 w3 := ⟨hmod.os, hmod.tape, hmod.output, hmod.size, hmod.block⟩
                  obtain ⟨e1, e2, ⟨col3, hr3, hF3⟩, hM3⟩ := HF8.out w3 v1 (b1.take 0) (by simpa [Nat.min_eq_left HhN.out] using hown) hmod' hlt
                  obtain ⟨A6, c6, rfl, _, _⟩ := hown.form
                  have HMA := Lib.hid hmod
                  have hgn : ¬ (Value.slice A5 acc.length c5).ownBlock = some g := fun e => (HBK.out g e).2.2 rfl
                  have lg := World.block_lt_of_cell? w2 _ k1
                  have p1 := (World.cell?_of_block (a := ⟨g, s.conns.length * 2 + 1, none⟩) (hmod'.block g lg hgn)).trans k1
                  have pf := (World.frozen?_of_block (a := ⟨g, s.conns.length * 2 + 1, none⟩) (hmod'.block g lg hgn)).trans kf1
                  have p2 := (HD2.out.mods hmod HNQ.out).at_ 1 rfl
                  clear hown hmod hlt hgn lg
                  have Hhr3 := Lib.hid hr3
                  clear hr3
                  have HhF3 := Lib.hid hF3
                  clear hF3
                  have HhM3 := Lib.hid hM3
                  clear hM3
                  have Hhmod' := Lib.hid hmod'
                  clear hmod'
                  go_wp2_with (first | ((with_reducible refine wp_region_one 8 (fun g => g = q) [4] 20 ?_ ?_ ?_ ?_ ?_); kernel_rfl; kernel_rfl; kernel_rfl; (with_reducible repeat (first | exact calm_ret | refine calm_then ?_ | refine calm_in ?_ | refine calm_chk ?_ | refine calm_noGoto ?_)); simp only [List.drop_succ_cons, List.drop_zero, List.take_succ_cons, List.take_zero]) | (with_reducible refine segEnd ?_) | (refine And.intro (Keep.one HMA.out HD2.out HNQ.out) ?_) | ((with_reducible refine chkM_end (fun g => g = q) ?_ [.pointer (some ⟨q, 1, none⟩)] ?_ ?_ ?_); kernel_rfl; kernel_rfl; (intro v hv x hx; simp only [List.mem_cons, List.not_mem_nil, or_false] at hv; subst hv; (injection hx with hx; injection hx with hx; subst hx; simp))) | ((with_reducible refine wp_region_por ?_ ?_ ?_ ?_); kernel_rfl; kernel_rfl; (with_reducible repeat (first | exact calm_ret | refine calm_then ?_ | refine calm_in ?_ | refine calm_chk ?_ | refine calm_noGoto ?_))) | ((with_reducible refine chk_end ?_ ?_); kernel_rfl))
                  all_goals
                    have hgo := Hhgo.out
                    rw [if_pos (by first | rfl | trivial)] at hgo
                    obtain ⟨g', cp', bs', bv', hcv', _, _, _, _, _, _, _, _, _, _, _, _, ⟨hfR, hfM⟩, _⟩ := ref_last Hhr3.out HhF3.out rfl
                    injection hcv' with hcv' _ _
                    injection hcv' with hcv'
                    injection hcv' with hcv' _ _
                    subst hcv'
                    go_ret
                    rw [Hhfin.out, ← hgo]
                    refine ⟨by simp [natInt_beq0], hfR.more fun k _ e => ?_, mods_ext (mods_ext (mods_ext Hhmods.out HM2.out fun g e => e) HhM3.out fun g e => e) hfM fun k e => ext_ext (Nat.le_trans Hhmods.out.size HM2.out.size) k e⟩
                    exact ext_ext (Nat.le_trans Hhmods.out.size HM2.out.size) k e
              · have hN0' : decide (0 < N) = true := decide_eq_true hN0
                go_wp2_with (first | ((with_reducible refine wp_region_one 8 (fun g => g = q) [4] 20 ?_ ?_ ?_ ?_ ?_); kernel_rfl; kernel_rfl; kernel_rfl; (with_reducible repeat (first | exact calm_ret | refine calm_then ?_ | refine calm_in ?_ | refine calm_chk ?_ | refine calm_noGoto ?_)); simp only [List.drop_succ_cons, List.drop_zero, List.take_succ_cons, List.take_zero]) | (with_reducible refine segEnd ?_) | (refine And.intro (Keep.one HMA.out HD2.out HNQ.out) ?_) | ((with_reducible refine chkM_end (fun g => g = q) ?_ [.pointer (some ⟨q, 1, none⟩)] ?_ ?_ ?_); kernel_rfl; kernel_rfl; (intro v hv x hx; simp only [List.mem_cons, List.not_mem_nil, or_false] at hv; subst hv; (injection hx with hx; injection hx with hx; subst hx; simp))) | (go_at_call 30; (refine ret_use (Hhch.out) ?_; rintro v w2 ⟨rfl, d, hw2⟩; obtain ⟨col2, hr2, hF2, hm2⟩ := Hhafter.out d; rw [← hw2] at hr2 hF2 hm2; clear hw2; obtain ⟨g, cp, bs0, bv, rfl, hcp, rfl, hbl, k0, k1, hd2, ho2, hbk, hgq, hFg, hFq, kf1, hfl, hfin8⟩ := ref_last hr2 hF2 rfl; obtain ⟨A5, c5, rfl, _, _⟩ := ho2.form; have q1 := hd2.at_ 1 rfl; have HD2 := Lib.hid hd2.drew; have HO2 := Lib.hid ho2; have HBK := Lib.hid hbk; have HF8 := Lib.hid hfin8; have HM2 := Lib.hid hm2; have HNQ := Lib.hid (show ¬ _ = some q from fun e => (hbk q e).2.1 rfl); have hqg := hgq.symm; have HR2 := Lib.hid (Hhrd1.out.same (Hhsame.out _ hm2)); clear hr2 hF2 hm2 hd2 ho2 hbk hfl hfin8 hFg hFq hbl)) | (at_builtin; (refine wpList_append _ rfl (.tmp 69) (.tmp 72) 30 rfl 5 (.int .u8 0) 1 1 Tryd.underlying30 infoU8 rfl (by decide) (F := fun k => (Value.slice A5 acc.length c5).ownBlock = some k) (n := acc.length) (xs := vbs acc) (by rfl) (HO2.out.same (Same.drew _ _)) (G := H) (y := .slice A1 N c1) (m := N) (news := vbs (b1.take N)) (by rfl) (HR2.out.same (Same.drew _ _)) (vbs_one _) (by omega) (by decide) ?c4bB)) | ((with_reducible refine wp_region_por ?_ ?_ ?_ ?_); kernel_rfl; kernel_rfl; (with_reducible repeat (first | exact calm_ret | refine calm_then ?_ | refine calm_in ?_ | refine calm_chk ?_ | refine calm_noGoto ?_))) | ((with_reducible refine chk_end ?_ ?_); kernel_rfl))
                case c4bB =>
                  intro v1 w3 hown hmod hlt
                  have hmod' : Mods (fun k => (Value.slice A5 acc.length c5).ownBlock = some k) w2 w3 := ⟨hmod.os, hmod.tape, hmod.output, hmod.size, hmod.block⟩
                  obtain ⟨e1, e2, ⟨col3, hr3, hF3⟩, hM3⟩ := HF8.out w3 v1 (b1.take N) (by simpa [Nat.min_eq_left HhN.out] using hown) hmod' hlt
                  obtain ⟨A6, c6, rfl, _, _⟩ := hown.form
                  have HMA := Lib.hid hmod
                  have hgn : ¬ (Value.slice A5 acc.length c5).ownBlock = some g := fun e => (HBK.out g e).2.2 rfl
                  have lg := World.block_lt_of_cell? w2 _ k1
                  have p1 := (World.cell?_of_block (a := ⟨g, s.conns.length * 2 + 1, none⟩) (hmod'.block g lg hgn)).trans k1
                  have pf := (World.frozen?_of_block (a := ⟨g, s.conns.length * 2 + 1, none⟩) (hmod'.block g lg hgn)).trans kf1
                  have p2 := (HD2.out.mods hmod HNQ.out).at_ 1 rfl
                  clear hown hmod hlt hgn lg
                  have Hhr3 := Lib.hid hr3
                  clear hr3
                  have HhF3 := Lib.hid hF3
                  clear hF3
                  have HhM3 := Lib.hid hM3
                  clear hM3
                  have Hhmod' := Lib.hid hmod'
                  clear hmod'
                  go_wp2_with (first | ((with_reducible refine wp_region_one 8 (fun g => g = q) [4] 20 ?_ ?_ ?_ ?_ ?_); kernel_rfl; kernel_rfl; kernel_rfl; (with_reducible repeat (first | exact calm_ret | refine calm_then ?_ | refine calm_in ?_ | refine calm_chk ?_ | refine calm_noGoto ?_)); simp only [List.drop_succ_cons, List.drop_zero, List.take_succ_cons, List.take_zero]) | (with_reducible refine segEnd ?_) | (refine And.intro (Keep.one HMA.out HD2.out HNQ.out) ?_) | ((with_reducible refine chkM_end (fun g => g = q) ?_ [.pointer (some ⟨q, 1, none⟩)] ?_ ?_ ?_); kernel_rfl; kernel_rfl; (intro v hv x hx; simp only [List.mem_cons, List.not_mem_nil, or_false] at hv; subst hv; (injection hx with hx; injection hx with hx; subst hx; simp))) | ((with_reducible refine wp_region_por ?_ ?_ ?_ ?_); kernel_rfl; kernel_rfl; (with_reducible repeat (first | exact calm_ret | refine calm_then ?_ | refine calm_in ?_ | refine calm_chk ?_ | refine calm_noGoto ?_))) | ((with_reducible refine chk_end ?_ ?_); kernel_rfl))
                  all_goals
                    have hgo := Hhgo.out
                    rw [if_pos (by first | rfl | trivial)] at hgo
                    obtain ⟨g', cp', bs', bv', hcv', _, _, _, _, _, _, _, _, _, _, _, _, ⟨hfR, hfM⟩, _⟩ := ref_last Hhr3.out HhF3.out rfl
                    injection hcv' with hcv' _ _
                    injection hcv' with hcv'
                    injection hcv' with hcv' _ _
                    subst hcv'
                    go_ret
                    rw [Hhfin.out, ← hgo]
                    refine ⟨by simp [natInt_beq0], hfR.more fun k _ e => ?_, mods_ext (mods_ext (mods_ext Hhmods.out HM2.out fun g e => e) HhM3.out fun g e => e) hfM fun k e => ext_ext (Nat.le_trans Hhmods.out.size HM2.out.size) k e⟩
                    exact ext_ext (Nat.le_trans Hhmods.out.size HM2.out.size) k e
            | false =>
              rcases Nat.eq_zero_or_pos N with hN0 | hN0
              · subst hN0
                by_cases hl : idle + 1 = 64
                · have hl' : ((idle : Int) + 1 == 64) = true := by simp; omega
                  go_wp2_with (first | ((with_reducible refine wp_region_one 8 (fun g => g = q) [4] 20 ?_ ?_ ?_ ?_ ?_); kernel_rfl; kernel_rfl; kernel_rfl; (with_reducible repeat (first | exact calm_ret | refine calm_then ?_ | refine calm_in ?_ | refine calm_chk ?_ | refine calm_noGoto ?_)); simp only [List.drop_succ_cons, List.drop_zero, List.take_succ_cons, List.take_zero]) | (with_reducible refine segEnd ?_) | (refine And.intro (Keep.one HMA.out HD2.out HNQ.out) ?_) | ((with_reducible refine chkM_end (fun g => g = q) ?_ [.pointer (some ⟨q, 1, none⟩)] ?_ ?_ ?_); kernel_rfl; kernel_rfl; (intro v hv x hx; simp only [List.mem_cons, List.not_mem_nil, or_false] at hv; subst hv; (injection hx with hx; injection hx with hx; subst hx; simp))) | (go_at_call 30; (refine ret_use (Hhch.out) ?_; rintro v w2 ⟨rfl, d, hw2⟩; obtain ⟨col2, hr2, hF2, hm2⟩ := Hhafter.out d; rw [← hw2] at hr2 hF2 hm2; clear hw2; obtain ⟨g, cp, bs0, bv, rfl, hcp, rfl, hbl, k0, k1, hd2, ho2, hbk, hgq, hFg, hFq, kf1, hfl, hfin8⟩ := ref_last hr2 hF2 rfl; obtain ⟨A5, c5, rfl, _, _⟩ := ho2.form; have q1 := hd2.at_ 1 rfl; have HD2 := Lib.hid hd2.drew; have HO2 := Lib.hid ho2; have HBK := Lib.hid hbk; have HF8 := Lib.hid hfin8; have HM2 := Lib.hid hm2; have HNQ := Lib.hid (show ¬ _ = some q from fun e => (hbk q e).2.1 rfl); have hqg := hgq.symm; have HR2 := Lib.hid (Hhrd1.out.same (Hhsame.out _ hm2)); clear hr2 hF2 hm2 hd2 ho2 hbk hfl hfin8 hFg hFq hbl)) | (at_builtin; (refine wpList_append _ rfl (.tmp 69) (.tmp 72) 30 rfl 5 (.int .u8 0) 1 1 Tryd.underlying30 infoU8 rfl (by decide) (F := fun k => (Value.slice A5 acc.length c5).ownBlock = some k) (n := acc.length) (xs := vbs acc) (by rfl) (HO2.out.same (Same.drew _ _)) (G := H) (y := .slice A1 0 c1) (m := 0) (news := vbs (b1.take 0)) (by rfl) (HR2.out.same (Same.drew _ _)) (vbs_one _) (by omega) (by decide) ?c4cB)) | ((with_reducible refine wp_region_por ?_ ?_ ?_ ?_); kernel_rfl; kernel_rfl; (with_reducible repeat (first | exact calm_ret | refine calm_then ?_ | refine calm_in ?_ | refine calm_chk ?_ | refine calm_noGoto ?_))) | ((with_reducible refine chk_end ?_ ?_); kernel_rfl))
                  case c4cB =>
                    intro v1 w3 hown hmod hlt
                    have hmod' : Mods (fun k => (Value.slice A5 acc.length c5).ownBlock = some k) w2 w3 := ⟨hmod.os, hmod.tape, hmod.output, hmod.size, hmod.block⟩
                    obtain ⟨e1, e2, ⟨col3, hr3, hF3⟩, hM3⟩ := HF8.out w3 v1 (b1.take 0) (by simpa [Nat.min_eq_left HhN.out] using hown) hmod' hlt
                    obtain ⟨A6, c6, rfl, _, _⟩ := hown.form
                    have HMA := Lib.hid hmod
                    have hgn : ¬ (Value.slice A5 acc.length c5).ownBlock = some g := fun e => (HBK.out g e).2.2 rfl
                    have lg := World.block_lt_of_cell? w2 _ k1
                    have p1 := (World.cell?_of_block (a := ⟨g, s.conns.length * 2 + 1, none⟩) (hmod'.block g lg hgn)).trans k1
                    have pf := (World.frozen?_of_block (a := ⟨g, s.conns.length * 2 + 1, none⟩) (hmod'.block g lg hgn)).trans kf1
                    have p2 := (HD2.out.mods hmod HNQ.out).at_ 1 rfl
                    clear hown hmod hlt hgn lg
                    have Hhr3 := Lib.hid hr3
                    clear hr3
                    have HhF3 := Lib.hid hF3
                    clear hF3
                    have HhM3 := Lib.hid hM3
                    clear hM3
                    have Hhmod' := Lib.hid hmod'
                    clear hmod'
                    go_wp2_with (first | ((with_reducible refine wp_region_one 8 (fun g => g = q) [4] 20 ?_ ?_ ?_ ?_ ?_); kernel_rfl; kernel_rfl; kernel_rfl; (with_reducible repeat (first | exact calm_ret | refine calm_then ?_ | refine calm_in ?_ | refine calm_chk ?_ | refine calm_noGoto ?_)); simp only [List.drop_succ_cons, List.drop_zero, List.take_succ_cons, List.take_zero]) | (with_reducible refine segEnd ?_) | (refine And.intro (Keep.one HMA.out HD2.out HNQ.out) ?_) | ((with_reducible refine chkM_end (fun g => g = q) ?_ [.pointer (some ⟨q, 1, none⟩)] ?_ ?_ ?_); kernel_rfl; kernel_rfl; (intro v hv x hx; simp only [List.mem_cons, List.not_mem_nil, or_false] at hv; subst hv; (injection hx with hx; injection hx with hx; subst hx; simp))) | ((with_reducible refine wp_region_por ?_ ?_ ?_ ?_); kernel_rfl; kernel_rfl; (with_reducible repeat (first | exact calm_ret | refine calm_then ?_ | refine calm_in ?_ | refine calm_chk ?_ | refine calm_noGoto ?_))) | ((with_reducible refine chk_end ?_ ?_); kernel_rfl))
                    all_goals
                      have hgo := Hhgo.out
                      rw [if_neg (by simp), if_neg (by omega), if_pos hl] at hgo
                      obtain ⟨g', cp', bs', bv', hcv', _, _, _, _, _, _, _, _, _, _, _, _, ⟨hfR, hfM⟩, _⟩ := ref_last Hhr3.out HhF3.out rfl
                      injection hcv' with hcv' _ _
                      injection hcv' with hcv'
                      injection hcv' with hcv' _ _
                      subst hcv'
                      go_ret
                      rw [Hhfin.out, ← hgo]
                      refine ⟨by simp [natInt_beq0], hfR.more fun k _ e => ?_, mods_ext (mods_ext (mods_ext Hhmods.out HM2.out fun g e => e) HhM3.out fun g e => e) hfM fun k e => ext_ext (Nat.le_trans Hhmods.out.size HM2.out.size) k e⟩
                      exact ext_ext (Nat.le_trans Hhmods.out.size HM2.out.size) k e
                · have hl' : ((idle : Int) + 1 == 64) = false := by simp; omega
                  go_wp2_with (first | ((with_reducible refine wp_region_one 8 (fun g => g = q) [4] 20 ?_ ?_ ?_ ?_ ?_); kernel_rfl; kernel_rfl; kernel_rfl; (with_reducible repeat (first | exact calm_ret | refine calm_then ?_ | refine calm_in ?_ | refine calm_chk ?_ | refine calm_noGoto ?_)); simp only [List.drop_succ_cons, List.drop_zero, List.take_succ_cons, List.take_zero]) | (with_reducible refine segEnd ?_) | (refine And.intro (Keep.one HMA.out HD2.out HNQ.out) ?_) | ((with_reducible refine chkM_end (fun g => g = q) ?_ [.pointer (some ⟨q, 1, none⟩)] ?_ ?_ ?_); kernel_rfl; kernel_rfl; (intro v hv x hx; simp only [List.mem_cons, List.not_mem_nil, or_false] at hv; subst hv; (injection hx with hx; injection hx with hx; subst hx; simp))) | (go_at_call 30; (refine ret_use (Hhch.out) ?_; rintro v w2 ⟨rfl, d, hw2⟩; obtain ⟨col2, hr2, hF2, hm2⟩ := Hhafter.out d; rw [← hw2] at hr2 hF2 hm2; clear hw2; obtain ⟨g, cp, bs0, bv, rfl, hcp, rfl, hbl, k0, k1, hd2, ho2, hbk, hgq, hFg, hFq, kf1, hfl, hfin8⟩ := ref_last hr2 hF2 rfl; obtain ⟨A5, c5, rfl, _, _⟩ := ho2.form; have q1 := hd2.at_ 1 rfl; have HD2 := Lib.hid hd2.drew; have HO2 := Lib.hid ho2; have HBK := Lib.hid hbk; have HF8 := Lib.hid hfin8; have HM2 := Lib.hid hm2; have HNQ := Lib.hid (show ¬ _ = some q from fun e => (hbk q e).2.1 rfl); have hqg := hgq.symm; have HR2 := Lib.hid (Hhrd1.out.same (Hhsame.out _ hm2)); clear hr2 hF2 hm2 hd2 ho2 hbk hfl hfin8 hFg hFq hbl)) | (at_builtin; (refine wpList_append _ rfl (.tmp 69) (.tmp 72) 30 rfl 5 (.int .u8 0) 1 1 Tryd.underlying30 infoU8 rfl (by decide) (F := fun k => (Value.slice A5 acc.length c5).ownBlock = some k) (n := acc.length) (xs := vbs acc) (by rfl) (HO2.out.same (Same.drew _ _)) (G := H) (y := .slice A1 0 c1) (m := 0) (news := vbs (b1.take 0)) (by rfl) (HR2.out.same (Same.drew _ _)) (vbs_one _) (by omega) (by decide) ?c4dB)) | ((with_reducible refine wp_region_por ?_ ?_ ?_ ?_); kernel_rfl; kernel_rfl; (with_reducible repeat (first | exact calm_ret | refine calm_then ?_ | refine calm_in ?_ | refine calm_chk ?_ | refine calm_noGoto ?_))) | ((with_reducible refine chk_end ?_ ?_); kernel_rfl))
                  case c4dB =>
                    intro v1 w3 hown hmod hlt
                    have hmod' : Mods (fun k => (Value.slice A5 acc.length c5).ownBlock = some k) w2 w3 := ⟨hmod.os, hmod.tape, hmod.output, hmod.size, hmod.block⟩
                    obtain ⟨e1, e2, ⟨col3, hr3, hF3⟩, hM3⟩ := HF8.out w3 v1 (b1.take 0) (by simpa [Nat.min_eq_left HhN.out] using hown) hmod' hlt
                    obtain ⟨A6, c6, rfl, _, _⟩ := hown.form
                    have HMA := Lib.hid hmod
                    have hgn : ¬ (Value.slice A5 acc.length c5).ownBlock = some g := fun e => (HBK.out g e).2.2 rfl
                    have lg := World.block_lt_of_cell? w2 _ k1
                    have p1 := (World.cell?_of_block (a := ⟨g, s.conns.length * 2 + 1, none⟩) (hmod'.block g lg hgn)).trans k1
                    have pf := (World.frozen?_of_block (a := ⟨g, s.conns.length * 2 + 1, none⟩) (hmod'.block g lg hgn)).trans kf1
                    have p2 := (HD2.out.mods hmod HNQ.out).at_ 1 rfl
                    clear hown hmod hlt hgn lg
                    have Hhr3 := Lib.hid hr3
                    clear hr3
                    have HhF3 := Lib.hid hF3
                    clear hF3
                    have HhM3 := Lib.hid hM3
                    clear hM3
                    have Hhmod' := Lib.hid hmod'
                    clear hmod'
                    go_wp2_with (first | ((with_reducible refine wp_region_one 8 (fun g => g = q) [4] 20 ?_ ?_ ?_ ?_ ?_); kernel_rfl; kernel_rfl; kernel_rfl; (with_reducible repeat (first | exact calm_ret | refine calm_then ?_ | refine calm_in ?_ | refine calm_chk ?_ | refine calm_noGoto ?_)); simp only [List.drop_succ_cons, List.drop_zero, List.take_succ_cons, List.take_zero]) | (with_reducible refine segEnd ?_) | (refine And.intro (Keep.one HMA.out HD2.out HNQ.out) ?_) | ((with_reducible refine chkM_end (fun g => g = q) ?_ [.pointer (some ⟨q, 1, none⟩)] ?_ ?_ ?_); kernel_rfl; kernel_rfl; (intro v hv x hx; simp only [List.mem_cons, List.not_mem_nil, or_false] at hv; subst hv; (injection hx with hx; injection hx with hx; subst hx; simp))) | ((with_reducible refine wp_region_por ?_ ?_ ?_ ?_); kernel_rfl; kernel_rfl; (with_reducible repeat (first | exact calm_ret | refine calm_then ?_ | refine calm_in ?_ | refine calm_chk ?_ | refine calm_noGoto ?_))) | ((with_reducible refine chk_end ?_ ?_); kernel_rfl))
                    all_goals
                      have hgo := Hhgo.out
                      rw [if_neg (by simp), if_neg (by omega), if_neg hl] at hgo
                      have h1 := Hhfu.out
                      have h2 := Hhid.out
                      have h3 := Hhsz.out
                      have h4 := Hhwr.out
                      go_roundg f
                      case rel =>
                        refine ⟨_, idle + 1, nw + 1, _, by go_num, ⟨⟨col3, _, _, _, _, Hhr3.out, fun k hk hc => ext_ext (Nat.le_trans Hhmods.out.size HM2.out.size) k (HhF3.out k hk hc)⟩, mods_ext (mods_ext Hhmods.out HM2.out fun g e => e) HhM3.out fun g e => e, (Hhrd2.out _ ?_).same (Hhsame.out _ (HM2.out.trans HhM3.out fun g _ e => e)), hgo, ?_, ?_, ?_, ?_⟩⟩
                        · by_cases hc : c1 = 0
                          · exact .inl ⟨by simpa using hc, rfl⟩
                          · exact .inr ⟨by simpa using hc, by cases A1 <;> simp [Addr.add]⟩
                        · simp; omega
                        · omega
                        · simp; omega
                        · omega
                      case measure => omega
              · have hN0' : decide (0 < N) = true := decide_eq_true hN0
                go_wp2_with (first | ((with_reducible refine wp_region_one 8 (fun g => g = q) [4] 20 ?_ ?_ ?_ ?_ ?_); kernel_rfl; kernel_rfl; kernel_rfl; (with_reducible repeat (first | exact calm_ret | refine calm_then ?_ | refine calm_in ?_ | refine calm_chk ?_ | refine calm_noGoto ?_)); simp only [List.drop_succ_cons, List.drop_zero, List.take_succ_cons, List.take_zero]) | (with_reducible refine segEnd ?_) | (refine And.intro (Keep.one HMA.out HD2.out HNQ.out) ?_) | ((with_reducible refine chkM_end (fun g => g = q) ?_ [.pointer (some ⟨q, 1, none⟩)] ?_ ?_ ?_); kernel_rfl; kernel_rfl; (intro v hv x hx; simp only [List.mem_cons, List.not_mem_nil, or_false] at hv; subst hv; (injection hx with hx; injection hx with hx; subst hx; simp))) | (go_at_call 30; (refine ret_use (Hhch.out) ?_; rintro v w2 ⟨rfl, d, hw2⟩; obtain ⟨col2, hr2, hF2, hm2⟩ := Hhafter.out d; rw [← hw2] at hr2 hF2 hm2; clear hw2; obtain ⟨g, cp, bs0, bv, rfl, hcp, rfl, hbl, k0, k1, hd2, ho2, hbk, hgq, hFg, hFq, kf1, hfl, hfin8⟩ := ref_last hr2 hF2 rfl; obtain ⟨A5, c5, rfl, _, _⟩ := ho2.form; have q1 := hd2.at_ 1 rfl; have HD2 := Lib.hid hd2.drew; have HO2 := Lib.hid ho2; have HBK := Lib.hid hbk; have HF8 := Lib.hid hfin8; have HM2 := Lib.hid hm2; have HNQ := Lib.hid (show ¬ _ = some q from fun e => (hbk q e).2.1 rfl); have hqg := hgq.symm; have HR2 := Lib.hid (Hhrd1.out.same (Hhsame.out _ hm2)); clear hr2 hF2 hm2 hd2 ho2 hbk hfl hfin8 hFg hFq hbl)) | (at_builtin; (refine wpList_append _ rfl (.tmp 69) (.tmp 72) 30 rfl 5 (.int .u8 0) 1 1 Tryd.underlying30 infoU8 rfl (by decide) (F := fun k => (Value.slice A5 acc.length c5).ownBlock = some k) (n := acc.length) (xs := vbs acc) (by rfl) (HO2.out.same (Same.drew _ _)) (G := H) (y := .slice A1 N c1) (m := N) (news := vbs (b1.take N)) (by rfl) (HR2.out.same (Same.drew _ _)) (vbs_one _) (by omega) (by decide) ?c4eB)) | ((with_reducible refine wp_region_por ?_ ?_ ?_ ?_); kernel_rfl; kernel_rfl; (with_reducible repeat (first | exact calm_ret | refine calm_then ?_ | refine calm_in ?_ | refine calm_chk ?_ | refine calm_noGoto ?_))) | ((with_reducible refine chk_end ?_ ?_); kernel_rfl))
                case c4eB =>
                  intro v1 w3 hown hmod hlt
                  have hmod' : Mods (fun k => (Value.slice A5 acc.length c5).ownBlock = some k) w2 w3 := ⟨hmod.os, hmod.tape, hmod.output, hmod.size, hmod.block⟩
                  obtain ⟨e1, e2, ⟨col3, hr3, hF3⟩, hM3⟩ := HF8.out w3 v1 (b1.take N) (by simpa [Nat.min_eq_left HhN.out] using hown) hmod' hlt
                  obtain ⟨A6, c6, rfl, _, _⟩ := hown.form
                  have HMA := Lib.hid hmod
                  have hgn : ¬ (Value.slice A5 acc.length c5).ownBlock = some g := fun e => (HBK.out g e).2.2 rfl
                  have lg := World.block_lt_of_cell? w2 _ k1
                  have p1 := (World.cell?_of_block (a := ⟨g, s.conns.length * 2 + 1, none⟩) (hmod'.block g lg hgn)).trans k1
                  have pf := (World.frozen?_of_block (a := ⟨g, s.conns.length * 2 + 1, none⟩) (hmod'.block g lg hgn)).trans kf1
                  have p2 := (HD2.out.mods hmod HNQ.out).at_ 1 rfl
                  clear hown hmod hlt hgn lg
                  have Hhr3 := Lib.hid hr3
                  clear hr3
                  have HhF3 := Lib.hid hF3
                  clear hF3
                  have HhM3 := Lib.hid hM3
                  clear hM3
                  have Hhmod' := Lib.hid hmod'
                  clear hmod'
                  go_wp2_with (first | ((with_reducible refine wp_region_one 8 (fun g => g = q) [4] 20 ?_ ?_ ?_ ?_ ?_); kernel_rfl; kernel_rfl; kernel_rfl; (with_reducible repeat (first | exact calm_ret | refine calm_then ?_ | refine calm_in ?_ | refine calm_chk ?_ | refine calm_noGoto ?_)); simp only [List.drop_succ_cons, List.drop_zero, List.take_succ_cons, List.take_zero]) | (with_reducible refine segEnd ?_) | (refine And.intro (Keep.one HMA.out HD2.out HNQ.out) ?_) | ((with_reducible refine chkM_end (fun g => g = q) ?_ [.pointer (some ⟨q, 1, none⟩)] ?_ ?_ ?_); kernel_rfl; kernel_rfl; (intro v hv x hx; simp only [List.mem_cons, List.not_mem_nil, or_false] at hv; subst hv; (injection hx with hx; injection hx with hx; subst hx; simp))) | ((with_reducible refine wp_region_por ?_ ?_ ?_ ?_); kernel_rfl; kernel_rfl; (with_reducible repeat (first | exact calm_ret | refine calm_then ?_ | refine calm_in ?_ | refine calm_chk ?_ | refine calm_noGoto ?_))) | ((with_reducible refine chk_end ?_ ?_); kernel_rfl))
                  all_goals
                    have hgo := Hhgo.out
                    rw [if_neg (by simp), if_pos hN0] at hgo
                    have h1 := Hhfu.out
                    have h3 := Hhsz.out
                    have h4 := Hhwr.out
                    have h5 := HhN.out
                    have hl1 : (List.take N b1).length = N := by simp; omega
                    go_roundg f
                    case rel =>
                      refine ⟨_, 0, nw + 1, b1.drop N, rfl, ⟨⟨col3, _, _, _, _, Hhr3.out, fun k hk hc => ext_ext (Nat.le_trans Hhmods.out.size HM2.out.size) k (HhF3.out k hk hc)⟩, mods_ext (mods_ext Hhmods.out HM2.out fun g e => e) HhM3.out fun g e => e, ?_, hgo, ?_, ?_, ?_, ?_⟩⟩
                      · have hc : c1 = N ∨ ¬ c1 = N := by omega
                        rcases hc with hc | hc
                        · subst hc
                          first
                          | exact absurd rfl (by assumption)
                          | simpa using (Hhrd2.out _ (.inl ⟨rfl, rfl⟩)).same (Hhsame.out _ (HM2.out.trans HhM3.out fun g _ e => e))
                        · first
                          | exact absurd (by assumption) hc
                          | simpa using (Hhrd2.out _ (.inr ⟨hc, rfl⟩)).same (Hhsame.out _ (HM2.out.trans HhM3.out fun g _ e => e))
                      · simp; omega
                      · omega
                      · simp at h5 ⊢; omega
                      · omega
                    case measure => omega
    · obtain ⟨pre, c9, hpre⟩ : ∃ pre c9, s.conns = pre ++ [c9] := by
        cases hg : s.conns.getLast? with
        | none => rw [List.getLast?_eq_none_iff] at hg; rw [hg] at hz0; simp at hz0
        | some k => obtain ⟨ys, h⟩ := List.getLast?_eq_some_iff.1 hg; exact ⟨ys, k, h⟩
      have hfl : c9.failed = true := by rw [hpre, lastOpen_snoc] at ho; simpa using ho
      have hpl : s.conns.length = pre.length + 1 := by rw [hpre]; simp
      obtain ⟨g, cp, bs0, bv, rfl, hcp, rfl, hbl, k0, k1, hrest⟩ := ref_last hr hF hpre
      rw [hfl] at k1
      clear hrest hbl k0
      obtain ⟨A7, c7, hcv7, op1, op2⟩ := ref_open w q _ s F col _ wv lv _ hr hF
      clear hcv7
      have hne0 : ((pre.length : Int) + 1 == 0) = false := by simp; omega
      have hbp : pre.length ≤ 1000000000 := by omega
      have Hop1 := Lib.hid op1
      have Hop2 := Lib.hid op2
      clear op1 op2
      have Hh0 := Lib.hid h0
      clear h0
      have Hhpv := Lib.hid hpv
      clear hpv
      have Hhb := Lib.hid hb
      clear hb
      have HhH := Lib.hid hH
      clear hH
      have Hb3 := Lib.hid b3
      clear b3
      have Hho1 := Lib.hid ho1
      clear ho1
      have Hho2 := Lib.hid ho2
      clear ho2
      have Hho3 := Lib.hid ho3
      clear ho3
      have Hho4 := Lib.hid ho4
      clear ho4
      have HhR := Lib.hid hR
      clear hR
      have Hhfin := Lib.hid hfin
      clear hfin
      have Hb5 := Lib.hid b5
      clear b5
      have Hhr := Lib.hid hr
      clear hr
      have HhF := Lib.hid hF
      clear hF
      have Hhe := Lib.hid he
      clear he
      have Hhpl := Lib.hid hpl
      clear hpl
      have Hhpre := Lib.hid hpre
      clear hpre
      have Hhfl := Lib.hid hfl
      clear hfl
      go_enter Tryd.func23, Tryd.ntmps23
      go_wp2_with (first | (at_builtin; (refine wpList_append _ rfl (.tmp 34) (.tmp 36) 35 rfl 54 (.agg #[.slice none 0 0, .bool false]) 2 32 Tryd.underlying35 infoConn rfl (by decide) (F := fun gg => (Value.slice (some ⟨g, 0, none⟩) (pre.length + 1) cp).ownBlock = some gg) (n := s.conns.length) (xs := conCells (bs0 ++ [bv]) s.conns) (by rfl) (Hop1.out _) (G := fun g => g = w.heap.size) (y := .slice (some ⟨w.heap.size, 0, none⟩) 1 1) (m := 1) (news := [.slice none 0 0, .bool false]) (by rfl) ?d1C (two_one rfl rfl) (by omega) (by decide) ?d4C)) | ((with_reducible refine wp_region_por ?_ ?_ ?_ ?_); kernel_rfl; kernel_rfl; (with_reducible repeat (first | exact calm_ret | refine calm_then ?_ | refine calm_in ?_ | refine calm_chk ?_ | refine calm_noGoto ?_))) | ((with_reducible refine chk_end ?_ ?_); kernel_rfl))
      case d1C => exact Rd.box _ #[.slice none 0 0, .bool false] _ (by simp) rfl (by decide)
      case d4C =>
        intro v1 w1 hown hmod hlt
        obtain ⟨e1, e2, hR1, hM1⟩ := Hop2.out _ v1 w1 hown hmod hlt
        obtain ⟨A6, c6, rfl, _, _⟩ := hown.form
        clear hown hmod hlt
        have hst : RMid w q (.slice Ap plan.length cpl) plan s F H R s.conns (w1.setCell ⟨q, 1, none⟩ _) [] 0 s.writes (fuel b) (.slice A b.length c) b :=
          ⟨hR1, hM1, Hhb.out.same (hM1.same HhH.out), HhR.out.symm, by unfold fuel; omega, by omega, by simp; omega, by unfold fuel; omega⟩
        clear hR1 hM1
        have Hhst := Lib.hid hst
        clear hst
        go_wp2_with (first | ((with_reducible refine wp_region_por ?_ ?_ ?_ ?_); kernel_rfl; kernel_rfl; (with_reducible repeat (first | exact calm_ret | refine calm_then ?_ | refine calm_in ?_ | refine calm_chk ?_ | refine calm_noGoto ?_))) | ((with_reducible refine chk_end ?_ ?_); kernel_rfl))
        have e5 : ((pre.length : Int) + 1 + 1) = (s.conns.length : Int) + 1 := by have := Hhpl.out; omega
        rw [e5]
        clear hne0 k1 hcp hq1
        go_loopg [1, 6] (fuel b) (fun k v1 v6 wr => RInv w q (.slice Ap plan.length cpl) plan s F H R s.conns k v1 v6 wr)
        case atStart => exact ⟨_, 0, s.writes, b, rfl, Hhst.out⟩
        case round =>
          obtain ⟨acc, idle, nw, b1, rfl, hmid⟩ := hrel
          obtain ⟨A1, c1, rfl, hbc1, hbm1⟩ := hmid.rd.form
          clear hbm1
          obtain ⟨kf, rfl⟩ : ∃ kf, kf = gk := ⟨_, rfl⟩
          obtain ⟨wq, rfl⟩ : ∃ wq, wq = wr := ⟨_, rfl⟩
          obtain ⟨f, rfl⟩ : ∃ f, kf = f + 1 := ⟨kf - 1, by have := hmid.fuel; omega⟩
          have hgo := hmid.go
          have hfu := hmid.fuel
          have hid := hmid.idle
          have hsz := hmid.size
          have hwr := hmid.writes
          unfold sendGo at hgo
          rcases Nat.eq_zero_or_pos b1.length with hz | hz
          · have hz' : decide (0 < b1.length) = false := by simpa using hz
            rw [if_pos hz] at hgo
            have href := hmid.ref
            have hmods := hmid.mods
            have Hhmid := Lib.hid hmid
            clear hmid
            have Hhgo := Lib.hid hgo
            clear hgo
            have Hhfu := Lib.hid hfu
            clear hfu
            have Hhid := Lib.hid hid
            clear hid
            have Hhsz := Lib.hid hsz
            clear hsz
            have Hhwr := Lib.hid hwr
            clear hwr
            have Hhref := Lib.hid href
            clear href
            have Hhmods := Lib.hid hmods
            clear hmods
            go_wp2_with (first | ((with_reducible refine wp_region_por ?_ ?_ ?_ ?_); kernel_rfl; kernel_rfl; (with_reducible repeat (first | exact calm_ret | refine calm_then ?_ | refine calm_in ?_ | refine calm_chk ?_ | refine calm_noGoto ?_))) | ((with_reducible refine chk_end ?_ ?_); kernel_rfl))
            go_ret
            rw [Hhfin.out, ← Hhgo.out]
            exact ⟨by simp [hz], Hhref.out, Hhmods.out⟩
          · have hz' : decide (0 < b1.length) = true := by simpa using hz
            rw [if_neg (by omega)] at hgo
            obtain ⟨col1, cv1, wv1, lv1, bvs1, hr1, hF1⟩ := hmid.ref
            have hmods := hmid.mods
            have hqne : ∀ g, H g → g ≠ q := fun g hg e => by
              rcases hF1 q hr1.hdr.lt (by rw [hr1.colq]; decide) with e1 | e1
              · exact (HhH.out g hg).2 (e ▸ e1)
              · have := (HhH.out g hg).1; omega
            have hch := choice_any wq q b1.length nw Ap cpl _ _ _ _ _ plan H hr1.hdr (Hhpv.out.same (hmods.same HhH.out)) hqne hplan (by omega) (by omega)
            have hN := pick_le plan nw b1.length
            generalize pick plan nw b1.length = pk at hch hgo hN
            obtain ⟨N, fa⟩ := pk
            dsimp only at hch hgo hN
            have hN' : (N : Int) ≤ c1 := by omega
            have hrd0 := hmid.rd
            have hrd1 : Rd wq H 1 (.slice A1 N c1) N (vbs (b1.take N)) := by have := hrd0.take (l := N) hN; simpa [vbs, List.map_take] using this
            have hrd' := hrd0.cut (k := N) (l := b1.length) hN (Nat.le_refl _)
            have hrd2 : ∀ A', ((c1 = N ∧ A' = A1) ∨ (¬ c1 = N ∧ A' = A1.map (·.add N))) → Rd wq H 1 (.slice A' (b1.length - N) (c1 - N)) (b1.drop N).length (vbs (b1.drop N)) := by
              intro A' hA'
              have e1 : (if c1 = N then A1 else Option.map (fun x => x.add (N * 1)) A1) = A' := by
                rcases hA' with ⟨e, rfl⟩ | ⟨e, rfl⟩
                · rw [if_pos e]
                · rw [if_neg e, Nat.mul_one]
              rw [e1] at hrd'
              have e2 : List.drop (N * 1) (List.take (b1.length * 1) (vbs b1)) = vbs (b1.drop N) := by rw [Nat.mul_one, Nat.mul_one, ← vbs_length b1, List.take_length]; simp [vbs, List.map_drop]
              rw [e2] at hrd'
              simpa using hrd'
            clear hrd' hrd0 hmid
            have hsame : ∀ w2, Mods (Ext F w.heap.size) wq w2 → Same H wq w2 := fun w2 hm => hm.same fun g hg => ⟨Nat.lt_of_lt_of_le (HhH.out g hg).1 hmods.size, fun e => by rcases e with e | e; exact (HhH.out g hg).2 e; (have := (HhH.out g hg).1; omega)⟩
            have hafter := fun d => ref_writes wq q _ _ _ col1 cv1 wv1 lv1 bvs1 hr1 hF1 (nw + 1) d
            have hbt : acc.length ≤ 1000000000 := by omega
            have hNb : N ≤ 1000000000 := by omega
            have hidi : (idle : Int) + 1 ≤ 64 := by omega
            have Hhrd1 := Lib.hid hrd1
            clear hrd1
            have Hhrd2 := Lib.hid hrd2
            clear hrd2
            have Hhmods := Lib.hid hmods
            clear hmods
            have Hhgo := Lib.hid hgo
            clear hgo
            have HhN := Lib.hid hN
            clear hN
            have Hhsz := Lib.hid hsz
            clear hsz
            have Hhwr := Lib.hid hwr
            clear hwr
            have Hhfu := Lib.hid hfu
            clear hfu
            have Hhsame := Lib.hid hsame
            clear hsame
            have Hhid := Lib.hid hid
            clear hid
            have Hhqne := Lib.hid hqne
            clear hqne
            have Hhch := Lib.hid hch
            clear hch
            have Hhafter := Lib.hid hafter
            clear hafter
            have Hhr1 := Lib.hid hr1
            clear hr1
            have HhF1 := Lib.hid hF1
            clear hF1
            cases fa with
            | true =>
              rcases Nat.eq_zero_or_pos N with hN0 | hN0
              · subst hN0
                go_wp2_with (first | ((with_reducible refine wp_region_one 8 (fun g => g = q) [4] 20 ?_ ?_ ?_ ?_ ?_); kernel_rfl; kernel_rfl; kernel_rfl; (with_reducible repeat (first | exact calm_ret | refine calm_then ?_ | refine calm_in ?_ | refine calm_chk ?_ | refine calm_noGoto ?_)); simp only [List.drop_succ_cons, List.drop_zero, List.take_succ_cons, List.take_zero]) | (with_reducible refine segEnd ?_) | (refine And.intro (Keep.one HMA.out HD2.out HNQ.out) ?_) | ((with_reducible refine chkM_end (fun g => g = q) ?_ [.pointer (some ⟨q, 1, none⟩)] ?_ ?_ ?_); kernel_rfl; kernel_rfl; (intro v hv x hx; simp only [List.mem_cons, List.not_mem_nil, or_false] at hv; subst hv; (injection hx with hx; injection hx with hx; subst hx; simp))) | (go_at_call 30; (refine ret_use (Hhch.out) ?_; rintro v w2 ⟨rfl, d, hw2⟩; obtain ⟨col2, hr2, hF2, hm2⟩ := Hhafter.out d; rw [← hw2] at hr2 hF2 hm2; clear hw2; obtain ⟨g, cp, bs0, bv, rfl, hcp, rfl, hbl, k0, k1, hd2, ho2, hbk, hgq, hFg, hFq, kf1, hfl, hfin8⟩ := ref_last hr2 hF2 rfl; obtain ⟨A5, c5, rfl, _, _⟩ := ho2.form; have q1 := hd2.at_ 1 rfl; have HD2 := Lib.hid hd2.drew; have HO2 := Lib.hid ho2; have HBK := Lib.hid hbk; have HF8 := Lib.hid hfin8; have HM2 := Lib.hid hm2; have HNQ := Lib.hid (show ¬ _ = some q from fun e => (hbk q e).2.1 rfl); have hqg := hgq.symm; have HR2 := Lib.hid (Hhrd1.out.same (Hhsame.out _ hm2)); clear hr2 hF2 hm2 hd2 ho2 hbk hfl hfin8 hFg hFq hbl)) | (at_builtin; (refine wpList_append _ rfl (.tmp 69) (.tmp 72) 30 rfl 5 (.int .u8 0) 1 1 Tryd.underlying30 infoU8 rfl (by decide) (F := fun k => (Value.slice A5 acc.length c5).ownBlock = some k) (n := acc.length) (xs := vbs acc) (by rfl) (HO2.out.same (Same.drew _ _)) (G := H) (y := .slice A1 0 c1) (m := 0) (news := vbs (b1.take 0)) (by rfl) (HR2.out.same (Same.drew _ _)) (vbs_one _) (by omega) (by decide) ?c4aC)) | ((with_reducible refine wp_region_por ?_ ?_ ?_ ?_); kernel_rfl; kernel_rfl; (with_reducible repeat (first | exact calm_ret | refine calm_then ?_ | refine calm_in ?_ | refine calm_chk ?_ | refine calm_noGoto ?_))) | ((with_reducible refine chk_end ?_ ?_); kernel_rfl))
                case c4aC =>
                  intro v1 w3 hown hmod hlt
                  have hmod' : Mods (fun k => (Value.slice A5 acc.length c5).ownBlock = some k) w2 w3 := ⟨hmod.os, hmod.tape, hmod.output, hmod.size, hmod.block⟩
                  obtain ⟨e1, e2, ⟨col3, hr3, hF3⟩, hM3⟩ := HF8.out w3 v1 (b1.take 0) (by simpa [Nat.min_eq_left HhN.out] using hown) hmod' hlt
                  obtain ⟨A6, c6, rfl, _, _⟩ := hown.form
                  have HMA := Lib.hid hmod
                  have hgn : ¬ (Value.slice A5 acc.length c5).ownBlock = some g := fun e => (HBK.out g e).2.2 rfl
                  have lg := World.block_lt_of_cell? w2 _ k1
                  have p1 := (World.cell?_of_block (a := ⟨g, s.conns.length * 2 + 1, none⟩) (hmod'.block g lg hgn)).trans k1
                  have pf := (World.frozen?_of_block (a := ⟨g, s.conns.length * 2 + 1, none⟩) (hmod'.block g lg hgn)).trans kf1
                  have p2 := (HD2.out.mods hmod HNQ.out).at_ 1 rfl
                  clear hown hmod hlt hgn lg
                  have Hhr3 := Lib.hid hr3
                  clear hr3
                  have HhF3 := Lib.hid hF3
                  clear hF3
                  have HhM3 := Lib.hid hM3
                  clear hM3
                  have Hhmod' := Lib.hid hmod'
                  clear hmod'
                  go_wp2_with (first | ((with_reducible refine wp_region_one 8 (fun g => g = q) [4] 20 ?_ ?_ ?_ ?_ ?_); kernel_rfl; kernel_rfl; kernel_rfl; (with_reducible repeat (first | exact calm_ret | refine calm_then ?_ | refine calm_in ?_ | refine calm_chk ?_ | refine calm_noGoto ?_)); simp only [List.drop_succ_cons, List.drop_zero, List.take_succ_cons, List.take_zero]) | (with_reducible refine segEnd ?_) | (refine And.intro (Keep.one HMA.out HD2.out HNQ.out) ?_) | ((with_reducible refine chkM_end (fun g => g = q) ?_ [.pointer (some ⟨q, 1, none⟩)] ?_ ?_ ?_); kernel_rfl; kernel_rfl; (intro v hv x hx; simp only [List.mem_cons, List.not_mem_nil, or_false] at hv; subst hv; (injection hx with hx; injection hx with hx; subst hx; simp))) | ((with_reducible refine wp_region_por ?_ ?_ ?_ ?_); kernel_rfl; kernel_rfl; (with_reducible repeat (first | exact calm_ret | refine calm_then ?_ | refine calm_in ?_ | refine calm_chk ?_ | refine calm_noGoto ?_))) | ((with_reducible refine chk_end ?_ ?_); kernel_rfl))
                  all_goals
                    have hgo := Hhgo.out
                    rw [if_pos (by first | rfl | trivial)] at hgo
                    obtain ⟨g', cp', bs', bv', hcv', _, _, _, _, _, _, _, _, _, _, _, _, ⟨hfR, hfM⟩, _⟩ := ref_last Hhr3.out HhF3.out rfl
                    injection hcv' with hcv' _ _
                    injection hcv' with hcv'
                    injection hcv' with hcv' _ _
                    subst hcv'
                    go_ret
                    rw [Hhfin.out, ← hgo]
                    refine ⟨by simp [natInt_beq0], hfR.more fun k _ e => ?_, mods_ext (mods_ext (mods_ext Hhmods.out HM2.out fun g e => e) HhM3.out fun g e => e) hfM fun k e => ext_ext (Nat.le_trans Hhmods.out.size HM2.out.size) k e⟩
                    exact ext_ext (Nat.le_trans Hhmods.out.size HM2.out.size) k e
              · have hN0' : decide (0 < N) = true := decide_eq_true hN0
                go_wp2_with (first | ((with_reducible refine wp_region_one 8 (fun g => g = q) [4] 20 ?_ ?_ ?_ ?_ ?_); kernel_rfl; kernel_rfl; kernel_rfl; (with_reducible repeat (first | exact calm_ret | refine calm_then ?_ | refine calm_in ?_ | refine calm_chk ?_ | refine calm_noGoto ?_)); simp only [List.drop_succ_cons, List.drop_zero, List.take_succ_cons, List.take_zero]) | (with_reducible refine segEnd ?_) | (refine And.intro (Keep.one HMA.out HD2.out HNQ.out) ?_) | ((with_reducible refine chkM_end (fun g => g = q) ?_ [.pointer (some ⟨q, 1, none⟩)] ?_ ?_ ?_); kernel_rfl; kernel_rfl; (intro v hv x hx; simp only [List.mem_cons, List.not_mem_nil, or_false] at hv; subst hv; (injection hx with hx; injection hx with hx; subst hx; simp))) | (go_at_call 30; (refine ret_use (Hhch.out) ?_; rintro v w2 ⟨rfl, d, hw2⟩; obtain ⟨col2, hr2, hF2, hm2⟩ := Hhafter.out d; rw [← hw2] at hr2 hF2 hm2; clear hw2; obtain ⟨g, cp, bs0, bv, rfl, hcp, rfl, hbl, k0, k1, hd2, ho2, hbk, hgq, hFg, hFq, kf1, hfl, hfin8⟩ := ref_last hr2 hF2 rfl; obtain ⟨A5, c5, rfl, _, _⟩ := ho2.form; have q1 := hd2.at_ 1 rfl; have HD2 := Lib.hid hd2.drew; have HO2 := Lib.hid ho2; have HBK := Lib.hid hbk; have HF8 := Lib.hid hfin8; have HM2 := Lib.hid hm2; have HNQ := Lib.hid (show ¬ _ = some q from fun e => (hbk q e).2.1 rfl); have hqg := hgq.symm; have HR2 := Lib.hid (Hhrd1.out.same (Hhsame.out _ hm2)); clear hr2 hF2 hm2 hd2 ho2 hbk hfl hfin8 hFg hFq hbl)) | (at_builtin; (refine wpList_append _ rfl (.tmp 69) (.tmp 72) 30 rfl 5 (.int .u8 0) 1 1 Tryd.underlying30 infoU8 rfl (by decide) (F := fun k => (Value.slice A5 acc.length c5).ownBlock = some k) (n := acc.length) (xs := vbs acc) (by rfl) (HO2.out.same (Same.drew _ _)) (G := H) (y := .slice A1 N c1) (m := N) (news := vbs (b1.take N)) (by rfl) (HR2.out.same (Same.drew _ _)) (vbs_one _) (by omega) (by decide) ?c4bC)) | ((with_reducible refine wp_region_por ?_ ?_ ?_ ?_); kernel_rfl; kernel_rfl; (with_reducible repeat (first | exact calm_ret | refine calm_then ?_ | refine calm_in ?_ | refine calm_chk ?_ | refine calm_noGoto ?_))) | ((with_reducible refine chk_end ?_ ?_); kernel_rfl))
                case c4bC =>
                  intro v1 w3 hown hmod hlt
                  have hmod' : Mods (fun k => (Value.slice A5 acc.length c5).ownBlock = some k) w2 w3 := ⟨hmod.os, hmod.tape, hmod.output, hmod.size, hmod.block⟩
                  obtain ⟨e1, e2, ⟨col3, hr3, hF3⟩, hM3⟩ := HF8.out w3 v1 (b1.take N) (by simpa [Nat.min_eq_left HhN.out] using hown) hmod' hlt
                  obtain ⟨A6, c6, rfl, _, _⟩ := hown.form
                  have HMA := Lib.hid hmod
                  have hgn : ¬ (Value.slice A5 acc.length c5).ownBlock = some g := fun e => (HBK.out g e).2.2 rfl
                  have lg := World.block_lt_of_cell? w2 _ k1
                  have p1 := (World.cell?_of_block (a := ⟨g, s.conns.length * 2 + 1, none⟩) (hmod'.block g lg hgn)).trans k1
                  have pf := (World.frozen?_of_block (a := ⟨g, s.conns.length * 2 + 1, none⟩) (hmod'.block g lg hgn)).trans kf1
                  have p2 := (HD2.out.mods hmod HNQ.out).at_ 1 rfl
                  clear hown hmod hlt hgn lg
                  have Hhr3 := Lib.hid hr3
                  clear hr3
                  have HhF3 := Lib.hid hF3
                  clear hF3
                  have HhM3 := Lib.hid hM3
                  clear hM3
                  have Hhmod' := Lib.hid hmod'
                  clear hmod'
                  go_wp2_with (first | ((with_reducible refine wp_region_one 8 (fun g => g = q) [4] 20 ?_ ?_ ?_ ?_ ?_); kernel_rfl; kernel_rfl; kernel_rfl; (with_reducible repeat (first | exact calm_ret | refine calm_then ?_ | refine calm_in ?_ | refine calm_chk ?_ | refine calm_noGoto ?_)); simp only [List.drop_succ_cons, List.drop_zero, List.take_succ_cons, List.take_zero]) | (with_reducible refine segEnd ?_) | (refine And.intro (Keep.one HMA.out HD2.out HNQ.out) ?_) | ((with_reducible refine chkM_end (fun g => g = q) ?_ [.pointer (some ⟨q, 1, none⟩)] ?_ ?_ ?_); kernel_rfl; kernel_rfl; (intro v hv x hx; simp only [List.mem_cons, List.not_mem_nil, or_false] at hv; subst hv; (injection hx with hx; injection hx with hx; subst hx; simp))) | ((with_reducible refine wp_region_por ?_ ?_ ?_ ?_); kernel_rfl; kernel_rfl; (with_reducible repeat (first | exact calm_ret | refine calm_then ?_ | refine calm_in ?_ | refine calm_chk ?_ | refine calm_noGoto ?_))) | ((with_reducible refine chk_end ?_ ?_); kernel_rfl))
                  all_goals
                    have hgo := Hhgo.out
                    rw [if_pos (by first | rfl | trivial)] at hgo
                    obtain ⟨g', cp', bs', bv', hcv', _, _, _, _, _, _, _, _, _, _, _, _, ⟨hfR, hfM⟩, _⟩ := ref_last Hhr3.out HhF3.out rfl
                    injection hcv' with hcv' _ _
                    injection hcv' with hcv'
                    injection hcv' with hcv' _ _
                    subst hcv'
                    go_ret
                    rw [Hhfin.out, ← hgo]
                    refine ⟨by simp [natInt_beq0], hfR.more fun k _ e => ?_, mods_ext (mods_ext (mods_ext Hhmods.out HM2.out fun g e => e) HhM3.out fun g e => e) hfM fun k e => ext_ext (Nat.le_trans Hhmods.out.size HM2.out.size) k e⟩
                    exact ext_ext (Nat.le_trans Hhmods.out.size HM2.out.size) k e
            | false =>
              rcases Nat.eq_zero_or_pos N with hN0 | hN0
              · subst hN0
                by_cases hl : idle + 1 = 64
                · have hl' : ((idle : Int) + 1 == 64) = true := by simp; omega
                  go_wp2_with (first | ((with_reducible refine wp_region_one 8 (fun g => g = q) [4] 20 ?_ ?_ ?_ ?_ ?_); kernel_rfl; kernel_rfl; kernel_rfl; (with_reducible repeat (first | exact calm_ret | refine calm_then ?_ | refine calm_in ?_ | refine calm_chk ?_ | refine calm_noGoto ?_)); simp only [List.drop_succ_cons, List.drop_zero, List.take_succ_cons, List.take_zero]) | (with_reducible refine segEnd ?_) | (refine And.intro (Keep.one HMA.out HD2.out HNQ.out) ?_) | ((with_reducible refine chkM_end (fun g => g = q) ?_ [.pointer (some ⟨q, 1, none⟩)] ?_ ?_ ?_); kernel_rfl; kernel_rfl; (intro v hv x hx; simp only [List.mem_cons, List.not_mem_nil, or_false] at hv; subst hv; (injection hx with hx; injection hx with hx; subst hx; simp))) | (go_at_call 30; (refine ret_use (Hhch.out) ?_; rintro v w2 ⟨rfl, d, hw2⟩; obtain ⟨col2, hr2, hF2, hm2⟩ := Hhafter.out d; rw [← hw2] at hr2 hF2 hm2; clear hw2; obtain ⟨g, cp, bs0, bv, rfl, hcp, rfl, hbl, k0, k1, hd2, ho2, hbk, hgq, hFg, hFq, kf1, hfl, hfin8⟩ := ref_last hr2 hF2 rfl; obtain ⟨A5, c5, rfl, _, _⟩ := ho2.form; have q1 := hd2.at_ 1 rfl; have HD2 := Lib.hid hd2.drew; have HO2 := Lib.hid ho2; have HBK := Lib.hid hbk; have HF8 := Lib.hid hfin8; have HM2 := Lib.hid hm2; have HNQ := Lib.hid (show ¬ _ = some q from fun e => (hbk q e).2.1 rfl); have hqg := hgq.symm; have HR2 := Lib.hid (Hhrd1.out.same (Hhsame.out _ hm2)); clear hr2 hF2 hm2 hd2 ho2 hbk hfl hfin8 hFg hFq hbl)) | (at_builtin; (refine wpList_append _ rfl (.tmp 69) (.tmp 72) 30 rfl 5 (.int .u8 0) 1 1 Tryd.underlying30 infoU8 rfl (by decide) (F := fun k => (Value.slice A5 acc.length c5).ownBlock = some k) (n := acc.length) (xs := vbs acc) (by rfl) (HO2.out.same (Same.drew _ _)) (G := H) (y := .slice A1 0 c1) (m := 0) (news := vbs (b1.take 0)) (by rfl) (HR2.out.same (Same.drew _ _)) (vbs_one _) (by omega) (by decide) ?c4cC)) | ((with_reducible refine wp_region_por ?_ ?_ ?_ ?_); kernel_rfl; kernel_rfl; (with_reducible repeat (first | exact calm_ret | refine calm_then ?_ | refine calm_in ?_ | refine calm_chk ?_ | refine calm_noGoto ?_))) | ((with_reducible refine chk_end ?_ ?_); kernel_rfl))
                  case c4cC =>
                    intro v1 w3 hown hmod hlt
                    have hmod' : Mods (fun k => (Value.slice A5 acc.length c5).ownBlock = some k) w2 w3 := ⟨hmod.os, hmod.tape, hmod.output, hmod.size, hmod.block⟩
                    obtain ⟨e1, e2, ⟨col3, hr3, hF3⟩, hM3⟩ := HF8.out w3 v1 (b1.take 0) (by simpa [Nat.min_eq_left HhN.out] using hown) hmod' hlt
                    obtain ⟨A6, c6, rfl, _, _⟩ := hown.form
                    have HMA := Lib.hid hmod
                    have hgn : ¬ (Value.slice A5 acc.length c5).ownBlock = some g := fun e => (HBK.out g e).2.2 rfl
                    have lg := World.block_lt_of_cell? w2 _ k1
                    have p1 := (World.cell?_of_block (a := ⟨g, s.conns.length * 2 + 1, none⟩) (hmod'.block g lg hgn)).trans k1
                    have pf := (World.frozen?_of_block (a := ⟨g, s.conns.length * 2 + 1, none⟩) (hmod'.block g lg hgn)).trans kf1
                    have p2 := (HD2.out.mods hmod HNQ.out).at_ 1 rfl
                    clear hown hmod hlt hgn lg
                    have Hhr3 := Lib.hid hr3
                    clear hr3
                    have HhF3 := Lib.hid hF3
                    clear hF3
                    have HhM3 := Lib.hid hM3
                    clear hM3
                    have Hhmod' := Lib.hid hmod'
                    clear hmod'
                    go_wp2_with (first | ((with_reducible refine wp_region_one 8 (fun g => g = q) [4] 20 ?_ ?_ ?_ ?_ ?_); kernel_rfl; kernel_rfl; kernel_rfl; (with_reducible repeat (first | exact calm_ret | refine calm_then ?_ | refine calm_in ?_ | refine calm_chk ?_ | refine calm_noGoto ?_)); simp only [List.drop_succ_cons, List.drop_zero, List.take_succ_cons, List.take_zero]) | (with_reducible refine segEnd ?_) | (refine And.intro (Keep.one HMA.out HD2.out HNQ.out) ?_) | ((with_reducible refine chkM_end (fun g => g = q) ?_ [.pointer (some ⟨q, 1, none⟩)] ?_ ?_ ?_); kernel_rfl; kernel_rfl; (intro v hv x hx; simp only [List.mem_cons, List.not_mem_nil, or_false] at hv; subst hv; (injection hx with hx; injection hx with hx; subst hx; simp))) | ((with_reducible refine wp_region_por ?_ ?_ ?_ ?_); kernel_rfl; kernel_rfl; (with_reducible repeat (first | exact calm_ret | refine calm_then ?_ | refine calm_in ?_ | refine calm_chk ?_ | refine calm_noGoto ?_))) | ((with_reducible refine chk_end ?_ ?_); kernel_rfl))
                    all_goals
                      have hgo := Hhgo.out
                      rw [if_neg (by simp), if_neg (by omega), if_pos hl] at hgo
                      obtain ⟨g', cp', bs', bv', hcv', _, _, _, _, _, _, _, _, _, _, _, _, ⟨hfR, hfM⟩, _⟩ := ref_last Hhr3.out HhF3.out rfl
                      injection hcv' with hcv' _ _
                      injection hcv' with hcv'
                      injection hcv' with hcv' _ _
                      subst hcv'
                      go_ret
                      rw [Hhfin.out, ← hgo]
                      refine ⟨by simp [natInt_beq0], hfR.more fun k _ e => ?_, mods_ext (mods_ext (mods_ext Hhmods.out HM2.out fun g e => e) HhM3.out fun g e => e) hfM fun k e => ext_ext (Nat.le_trans Hhmods.out.size HM2.out.size) k e⟩
                      exact ext_ext (Nat.le_trans Hhmods.out.size HM2.out.size) k e
                · have hl' : ((idle : Int) + 1 == 64) = false := by simp; omega
                  go_wp2_with (first | ((with_reducible refine wp_region_one 8 (fun g => g = q) [4] 20 ?_ ?_ ?_ ?_ ?_); kernel_rfl; kernel_rfl; kernel_rfl; (with_reducible repeat (first | exact calm_ret | refine calm_then ?_ | refine calm_in ?_ | refine calm_chk ?_ | refine calm_noGoto ?_)); simp only [List.drop_succ_cons, List.drop_zero, List.take_succ_cons, List.take_zero]) | (with_reducible refine segEnd ?_) | (refine And.intro (Keep.one HMA.out HD2.out HNQ.out) ?_) | ((with_reducible refine chkM_end (fun g => g = q) ?_ [.pointer (some ⟨q, 1, none⟩)] ?_ ?_ ?_); kernel_rfl; kernel_rfl; (intro v hv x hx; simp only [List.mem_cons, List.not_mem_nil, or_false] at hv; subst hv; (injection hx with hx; injection hx with hx; subst hx; simp))) | (go_at_call 30; (refine ret_use (Hhch.out) ?_; rintro v w2 ⟨rfl, d, hw2⟩; obtain ⟨col2, hr2, hF2, hm2⟩ := Hhafter.out d; rw [← hw2] at hr2 hF2 hm2; clear hw2; obtain ⟨g, cp, bs0, bv, rfl, hcp, rfl, hbl, k0, k1, hd2, ho2, hbk, hgq, hFg, hFq, kf1, hfl, hfin8⟩ := ref_last hr2 hF2 rfl; obtain ⟨A5, c5, rfl, _, _⟩ := ho2.form; have q1 := hd2.at_ 1 rfl; have HD2 := Lib.hid hd2.drew; have HO2 := Lib.hid ho2; have HBK := Lib.hid hbk; have HF8 := Lib.hid hfin8; have HM2 := Lib.hid hm2; have HNQ := Lib.hid (show ¬ _ = some q from fun e => (hbk q e).2.1 rfl); have hqg := hgq.symm; have HR2 := Lib.hid (Hhrd1.out.same (Hhsame.out _ hm2)); clear hr2 hF2 hm2 hd2 ho2 hbk hfl hfin8 hFg hFq hbl)) | (at_builtin; (refine wpList_append _ rfl (.tmp 69) (.tmp 72) 30 rfl 5 (.int .u8 0) 1 1 Tryd.underlying30 infoU8 rfl (by decide) (F := fun k => (Value.slice A5 acc.length c5).ownBlock = some k) (n := acc.length) (xs := vbs acc) (by rfl) (HO2.out.same (Same.drew _ _)) (G := H) (y := .slice A1 0 c1) (m := 0) (news := vbs (b1.take 0)) (by rfl) (HR2.out.same (Same.drew _ _)) (vbs_one _) (by omega) (by decide) ?c4dC)) | ((with_reducible refine wp_region_por ?_ ?_ ?_ ?_); kernel_rfl; kernel_rfl; (with_reducible repeat (first | exact calm_ret | refine calm_then ?_ | refine calm_in ?_ | refine calm_chk ?_ | refine calm_noGoto ?_))) | ((with_reducible refine chk_end ?_ ?_); kernel_rfl))
                  case c4dC =>
                    intro v1 w3 hown hmod hlt
                    have hmod' : Mods (fun k => (Value.slice A5 acc.length c5).ownBlock = some k) w2 w3 := ⟨hmod.os, hmod.tape, hmod.output, hmod.size, hmod.block⟩
                    obtain ⟨e1, e2, ⟨col3, hr3, hF3⟩, hM3⟩ := HF8.out w3 v1 (b1.take 0) (by simpa [Nat.min_eq_left HhN.out] using hown) hmod' hlt
                    obtain ⟨A6, c6, rfl, _, _⟩ := hown.form
                    have HMA := Lib.hid hmod
                    have hgn : ¬ (Value.slice A5 acc.length c5).ownBlock = some g := fun e => (HBK.out g e).2.2 rfl
                    have lg := World.block_lt_of_cell? w2 _ k1
                    have p1 := (World.cell?_of_block (a := ⟨g, s.conns.length * 2 + 1, none⟩) (hmod'.block g lg hgn)).trans k1
                    have pf := (World.frozen?_of_block (a := ⟨g, s.conns.length * 2 + 1, none⟩) (hmod'.block g lg hgn)).trans kf1
                    have p2 := (HD2.out.mods hmod HNQ.out).at_ 1 rfl
                    clear hown hmod hlt hgn lg
                    have Hhr3 := Lib.hid hr3
                    clear hr3
                    have HhF3 := Lib.hid hF3
                    clear hF3
                    have HhM3 := Lib.hid hM3
                    clear hM3
                    have Hhmod' := Lib.hid hmod'
                    clear hmod'
                    go_wp2_with (first | ((with_reducible refine wp_region_one 8 (fun g => g = q) [4] 20 ?_ ?_ ?_ ?_ ?_); kernel_rfl; kernel_rfl; kernel_rfl; (with_reducible repeat (first | exact calm_ret | refine calm_then ?_ | refine calm_in ?_ | refine calm_chk ?_ | refine calm_noGoto ?_)); simp only [List.drop_succ_cons, List.drop_zero, List.take_succ_cons, List.take_zero]) | (with_reducible refine segEnd ?_) | (refine And.intro (Keep.one HMA.out HD2.out HNQ.out) ?_) | ((with_reducible refine chkM_end (fun g => g = q) ?_ [.pointer (some ⟨q, 1, none⟩)] ?_ ?_ ?_); kernel_rfl; kernel_rfl; (intro v hv x hx; simp only [List.mem_cons, List.not_mem_nil, or_false] at hv; subst hv; (injection hx with hx; injection hx with hx; subst hx; simp))) | ((with_reducible refine wp_region_por ?_ ?_ ?_ ?_); kernel_rfl; kernel_rfl; (with_reducible repeat (first | exact calm_ret | refine calm_then ?_ | refine calm_in ?_ | refine calm_chk ?_ | refine calm_noGoto ?_))) | ((with_reducible refine chk_end ?_ ?_); kernel_rfl))
                    all_goals
                      have hgo := Hhgo.out
                      rw [if_neg (by simp), if_neg (by omega), if_neg hl] at hgo
                      have h1 := Hhfu.out
                      have h2 := Hhid.out
                      have h3 := Hhsz.out
                      have h4 := Hhwr.out
                      go_roundg f
                      case rel =>
                        refine ⟨_, idle + 1, nw + 1, _, by go_num, ⟨⟨col3, _, _, _, _, Hhr3.out, fun k hk hc => ext_ext (Nat.le_trans Hhmods.out.size HM2.out.size) k (HhF3.out k hk hc)⟩, mods_ext (mods_ext Hhmods.out HM2.out fun g e => e) HhM3.out fun g e => e, (Hhrd2.out _ ?_).same (Hhsame.out _ (HM2.out.trans HhM3.out fun g _ e => e)), hgo, ?_, ?_, ?_, ?_⟩⟩
                        · by_cases hc : c1 = 0
                          · exact .inl ⟨by simpa using hc, rfl⟩
                          · exact .inr ⟨by simpa using hc, by cases A1 <;> simp [Addr.add]⟩
                        · simp; omega
                        · omega
                        · simp; omega
                        · omega
                      case measure => omega
              · have hN0' : decide (0 < N) = true := decide_eq_true hN0
                go_wp2_with (first | ((with_reducible refine wp_region_one 8 (fun g => g = q) [4] 20 ?_ ?_ ?_ ?_ ?_); kernel_rfl; kernel_rfl; kernel_rfl; (with_reducible repeat (first | exact calm_ret | refine calm_then ?_ | refine calm_in ?_ | refine calm_chk ?_ | refine calm_noGoto ?_)); simp only [List.drop_succ_cons, List.drop_zero, List.take_succ_cons, List.take_zero]) | (with_reducible refine segEnd ?_) | (refine And.intro (Keep.one HMA.out HD2.out HNQ.out) ?_) | ((with_reducible refine chkM_end (fun g => g = q) ?_ [.pointer (some ⟨q, 1, none⟩)] ?_ ?_ ?_); kernel_rfl; kernel_rfl; (intro v hv x hx; simp only [List.mem_cons, List.not_mem_nil, or_false] at hv; subst hv; (injection hx with hx; injection hx with hx; subst hx; simp))) | (go_at_call 30; (refine ret_use (Hhch.out) ?_; rintro v w2 ⟨rfl, d, hw2⟩; obtain ⟨col2, hr2, hF2, hm2⟩ := Hhafter.out d; rw [← hw2] at hr2 hF2 hm2; clear hw2; obtain ⟨g, cp, bs0, bv, rfl, hcp, rfl, hbl, k0, k1, hd2, ho2, hbk, hgq, hFg, hFq, kf1, hfl, hfin8⟩ := ref_last hr2 hF2 rfl; obtain ⟨A5, c5, rfl, _, _⟩ := ho2.form; have q1 := hd2.at_ 1 rfl; have HD2 := Lib.hid hd2.drew; have HO2 := Lib.hid ho2; have HBK := Lib.hid hbk; have HF8 := Lib.hid hfin8; have HM2 := Lib.hid hm2; have HNQ := Lib.hid (show ¬ _ = some q from fun e => (hbk q e).2.1 rfl); have hqg := hgq.symm; have HR2 := Lib.hid (Hhrd1.out.same (Hhsame.out _ hm2)); clear hr2 hF2 hm2 hd2 ho2 hbk hfl hfin8 hFg hFq hbl)) | (at_builtin; (refine wpList_append _ rfl (.tmp 69) (.tmp 72) 30 rfl 5 (.int .u8 0) 1 1 Tryd.underlying30 infoU8 rfl (by decide) (F := fun k => (Value.slice A5 acc.length c5).ownBlock = some k) (n := acc.length) (xs := vbs acc) (by rfl) (HO2.out.same (Same.drew _ _)) (G := H) (y := .slice A1 N c1) (m := N) (news := vbs (b1.take N)) (by rfl) (HR2.out.same (Same.drew _ _)) (vbs_one _) (by omega) (by decide) ?c4eC)) | ((with_reducible refine wp_region_por ?_ ?_ ?_ ?_); kernel_rfl; kernel_rfl; (with_reducible repeat (first | exact calm_ret | refine calm_then ?_ | refine calm_in ?_ | refine calm_chk ?_ | refine calm_noGoto ?_))) | ((with_reducible refine chk_end ?_ ?_); kernel_rfl))
                case c4eC =>
                  intro v1 w3 hown hmod hlt
                  have hmod' : Mods (fun k => (Value.slice A5 acc.length c5).ownBlock = some k) w2 w3 := ⟨hmod.os, hmod.tape, hmod.output, hmod.size, hmod.block⟩
                  obtain ⟨e1, e2, ⟨col3, hr3, hF3⟩, hM3⟩ := HF8.out w3 v1 (b1.take N) (by simpa [Nat.min_eq_left HhN.out] using hown) hmod' hlt
                  obtain ⟨A6, c6, rfl, _, _⟩ := hown.form
                  have HMA := Lib.hid hmod
                  have hgn : ¬ (Value.slice A5 acc.length c5).ownBlock = some g := fun e => (HBK.out g e).2.2 rfl
                  have lg := World.block_lt_of_cell? w2 _ k1
                  have p1 := (World.cell?_of_block (a := ⟨g, s.conns.length * 2 + 1, none⟩) (hmod'.block g lg hgn)).trans k1
                  have pf := (World.frozen?_of_block (a := ⟨g, s.conns.length * 2 + 1, none⟩) (hmod'.block g lg hgn)).trans kf1
                  have p2 := (HD2.out.mods hmod HNQ.out).at_ 1 rfl
                  clear hown hmod hlt hgn lg
                  have Hhr3 := Lib.hid hr3
                  clear hr3
                  have HhF3 := Lib.hid hF3
                  clear hF3
                  have HhM3 := Lib.hid hM3
                  clear hM3
                  have Hhmod' := Lib.hid hmod'
                  clear hmod'
                  go_wp2_with (first | ((with_reducible refine wp_region_one 8 (fun g => g = q) [4] 20 ?_ ?_ ?_ ?_ ?_); kernel_rfl; kernel_rfl; kernel_rfl; (with_reducible repeat (first | exact calm_ret | refine calm_then ?_ | refine calm_in ?_ | refine calm_chk ?_ | refine calm_noGoto ?_)); simp only [List.drop_succ_cons, List.drop_zero, List.take_succ_cons, List.take_zero]) | (with_reducible refine segEnd ?_) | (refine And.intro (Keep.one HMA.out HD2.out HNQ.out) ?_) | ((with_reducible refine chkM_end (fun g => g = q) ?_ [.pointer (some ⟨q, 1, none⟩)] ?_ ?_ ?_); kernel_rfl; kernel_rfl; (intro v hv x hx; simp only [List.mem_cons, List.not_mem_nil, or_false] at hv; subst hv; (injection hx with hx; injection hx with hx; subst hx; simp))) | ((with_reducible refine wp_region_por ?_ ?_ ?_ ?_); kernel_rfl; kernel_rfl; (with_reducible repeat (first | exact calm_ret | refine calm_then ?_ | refine calm_in ?_ | refine calm_chk ?_ | refine calm_noGoto ?_))) | ((with_reducible refine chk_end ?_ ?_); kernel_rfl))
                  all_goals
                    have hgo := Hhgo.out
                    rw [if_neg (by simp), if_pos hN0] at hgo
                    have h1 := Hhfu.out
                    have h3 := Hhsz.out
                    have h4 := Hhwr.out
                    have h5 := HhN.out
                    have hl1 : (List.take N b1).length = N := by simp; omega
                    go_roundg f
                    case rel =>
                      refine ⟨_, 0, nw + 1, b1.drop N, rfl, ⟨⟨col3, _, _, _, _, Hhr3.out, fun k hk hc => ext_ext (Nat.le_trans Hhmods.out.size HM2.out.size) k (HhF3.out k hk hc)⟩, mods_ext (mods_ext Hhmods.out HM2.out fun g e => e) HhM3.out fun g e => e, ?_, hgo, ?_, ?_, ?_, ?_⟩⟩
                      · have hc : c1 = N ∨ ¬ c1 = N := by omega
                        rcases hc with hc | hc
                        · subst hc
                          first
                          | exact absurd rfl (by assumption)
                          | simpa using (Hhrd2.out _ (.inl ⟨rfl, rfl⟩)).same (Hhsame.out _ (HM2.out.trans HhM3.out fun g _ e => e))
                        · first
                          | exact absurd (by assumption) hc
                          | simpa using (Hhrd2.out _ (.inr ⟨hc, rfl⟩)).same (Hhsame.out _ (HM2.out.trans HhM3.out fun g _ e => e))
                      · simp; omega
                      · omega
                      · simp at h5 ⊢; omega
                      · omega
                    case measure => omega
end Go.Proofs.YtmfpgghpnkmkpaaDoor
