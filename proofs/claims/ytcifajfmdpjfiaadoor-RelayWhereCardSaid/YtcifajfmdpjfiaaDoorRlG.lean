/- Package relay: New. -/
import Derived.Test.YtcifajfmdpjfiaaDoorRlF
import Derived.Test.YtcifajfmdpjfiaaDoorRgT
import Derived.Deep.CutBlock
import Derived.Deep.CutRange
namespace Go.Proofs.YtcifajfmdpjfiaaDoor
open Go.RowKit Go.Tum Go.Lib Go.Sort
set_option maxRecDepth 100000
/-- What New tells of its arguments. -/
def relE (l : List Tx) (C R H : Int) : Int := if newE l C ≠ 0 then newE l C else if l.length = 0 then 240 else if R < 1 ∨ 8 < R ∨ H < 1 ∨ 65536 < H then 1 else 0
def RelNew (w w' : World) (l : List Tx) (C R H : Int) (nw : Bool) (v : Value) : Prop :=
  ∃ p, v = .tuple #[.pointer p, .int .i64 (relE l C R H)] ∧ Mods No w w' ∧ (relE l C R H ≠ 0 → p = none) ∧ (relE l C R H = 0 → ∃ rb, p = some ⟨rb, 0, none⟩ ∧ RelK w' rb C.toNat R.toNat H.toNat nw (nodesOf l) (List.replicate l.length stn0) [] (fun b => w.heap.size ≤ b))
theorem RelNew.bad {w w' : World} {l : List Tx} {C R H e : Int} {nw : Bool} (he : relE l C R H = e) (h0 : e ≠ 0) (hm : Mods No w w') : RelNew w w' l C R H nw (.tuple #[.pointer none, .int .i64 e]) := by
  subst he
  exact ⟨none, rfl, hm, fun _ => rfl, fun e => absurd e h0⟩
/-- Behind the relay's own making. -/
structure NwM (W wx : World) (q rb mb : Nat) (l : List Tx) (v u : Value) (C R H : Int) (nw : Bool) : Prop where
  cells : Cells wx rb 74 #[v, .int .i64 C, .int .i64 R, .int .i64 H, .bool nw, (.pointer (some ⟨q, 0, none⟩)), u, .slice none 0 0, .map (some mb)]
  names : Own wx (fun b => W.heap.size ≤ b) 9 1 u l.length ((nodesOf l).map ks)
  map : SMap Tryd.prog 9 3 wx mb 0 (fun _ => none)
  rbn : W.heap.size ≤ rb
  mbn : W.heap.size ≤ mb
  hm : Mods No W wx
theorem NwM.one {W w0 w2 : World} {q : Nat} {l : List Tx} {v u : Value} {C R H : Int} {nw : Bool} (hm0 : Mods No W w0) (ho : Own w2 (fun b => w0.heap.size ≤ b) 9 1 u l.length ((nodesOf l).map ks)) (hm2 : Mods No w0 w2) :
    NwM W ((w2.alloc (.map #[] 0)).alloc (.cells #[v, .int .i64 C, .int .i64 R, .int .i64 H, .bool nw, (.pointer (some ⟨q, 0, none⟩)), u, .slice none 0 0, .map (some w2.heap.size)] 74)) q (w2.heap.size + 1) w2.heap.size l v u C R H nw := by
  have hs := Nat.le_trans hm0.size hm2.size
  have hc := Cells.new (w2.alloc (.map #[] 0)) 74 #[v, .int .i64 C, .int .i64 R, .int .i64 H, .bool nw, (.pointer (some ⟨q, 0, none⟩)), u, .slice none 0 0, .map (some w2.heap.size)]
  rw [World.size_alloc] at hc
  exact ⟨hc, (Tum.Own.mods ho (((Mods.refl No w2).alloc _).alloc _) fun _ _ e => e).more fun _ e => Nat.le_trans hm0.size e, (SMap.made Tryd.prog 9 3 w2).alloc _, by omega, hs, ((hm0.trans hm2 fun _ _ e => e).alloc _).alloc _⟩
theorem NwM.two {W wa w2 : World} {q mb : Nat} {l : List Tx} {v u : Value} {C R H : Int} {nw : Bool} (hmap : SMap Tryd.prog 9 3 wa mb 0 (fun _ => none)) (hmb : W.heap.size ≤ mb) (hma : Mods No W wa) (ho : Own w2 (fun b => wa.heap.size ≤ b) 9 1 u l.length ((nodesOf l).map ks)) (hm2 : Mods No wa w2) :
    NwM W (w2.alloc (.cells #[v, .int .i64 C, .int .i64 R, .int .i64 H, .bool nw, (.pointer (some ⟨q, 0, none⟩)), u, .slice none 0 0, .map (some mb)] 74)) q w2.heap.size mb l v u C R H nw :=
  ⟨Cells.new _ _ _, (Tum.Own.mods ho ((Mods.refl No w2).alloc _) fun _ _ e => e).more fun _ e => Nat.le_trans hma.size e, (hmap.mods hm2 fun e => e).alloc _, Nat.le_trans hma.size hm2.size, hmb, (hma.trans hm2 fun _ _ e => e).alloc _⟩
theorem infoPt : (Tryd.prog.info? 79).map (fun i => (i.zero, i.size, i.bytes)) = some (some (.pointer none), 1, 8) := by kernel_rfl
/-- Between two rounds of New's loop. -/
structure NsI (W wr : World) (q rb mb : Nat) (u sv : Value) (C R H : Int) (nw : Bool) (i : Nat) (ps : List Nat) : Prop where
  cells : Cells wr rb 74 #[.slice none 0 0, .int .i64 C, .int .i64 R, .int .i64 H, .bool nw, (.pointer (some ⟨q, 0, none⟩)), u, sv, .map (some mb)]
  len : ps.length = i
  sta : Own wr (fun b => W.heap.size ≤ b) 79 1 sv i (ps.map ptr)
  each : ∀ p ∈ ps, W.heap.size ≤ p ∧ Cells wr p 83 #[.slice none 0 0, .int .i64 0, .int .i64 0]
  nd : ps.Nodup
  hm : Mods (fun b => b = rb) W wr
theorem NsI.next {W wr w3 : World} {q rb mb i : Nat} {u sv sv' : Value} {C R H : Int} {nw : Bool} {ps : List Nat} {o2 : Obj} (h : NsI W wr q rb mb u sv C R H nw i ps) (hrb : rb < W.heap.size)
    (h3 : Own w3 (fun k => sv.ownBlock = some k ∨ k = ((wr.alloc (.cells #[.slice none 0 0, .int .i64 0, .int .i64 0] 83)).alloc o2).heap.size) 79 1 sv' (i + 1) (ps.map ptr ++ [ptr wr.heap.size]))
    (hm3 : Mods (fun k => sv.ownBlock = some k) ((wr.alloc (.cells #[.slice none 0 0, .int .i64 0, .int .i64 0] 83)).alloc o2) w3) :
    NsI W (w3.setCell ⟨rb, 7, none⟩ sv') q rb mb u sv' C R H nw (i + 1) (ps ++ [wr.heap.size]) := by
  have hs := h.hm.size
  have hma : Mods No wr ((wr.alloc (.cells #[.slice none 0 0, .int .i64 0, .int .i64 0] 83)).alloc o2) := ((Mods.refl No wr).alloc _).alloc _
  have hst : Cells ((wr.alloc (.cells #[.slice none 0 0, .int .i64 0, .int .i64 0] 83)).alloc o2) wr.heap.size 83 #[.slice none 0 0, .int .i64 0, .int .i64 0] := (Cells.new wr _ _).alloc o2
  have hne : sv.ownBlock ≠ some wr.heap.size := fun e => by have := h.sta.lt _ e; omega
  have hrbs : sv.ownBlock ≠ some rb := h.sta.ne_cells h.cells (by decide)
  have hc3 := (h.cells.mods hma fun e => e).mods hm3 hrbs
  have hs3 := hst.mods hm3 hne
  have hu : sv'.ownBlock ≠ some rb := h3.ne_cells hc3 (by decide)
  have hlt : rb ≠ wr.heap.size := by omega
  refine ⟨hc3.set_ 7 sv', by rw [List.length_append, h.len]; rfl, ?_, fun p hp => ?_, ?_, ((h.hm.trans hma fun _ _ e => e.elim).trans hm3 fun k hk e => by have := h.sta.2 k e; omega).setCell _ _ fun _ => rfl⟩
  · rw [List.map_append]
    refine (h3.far (p := ⟨rb, 7, none⟩) hu sv').more fun b hb => ?_
    rcases hb with e | e
    · exact h.sta.2 b e
    · rw [World.size_alloc, World.size_alloc] at e; omega
  · rcases List.mem_append.1 hp with e | e
    · obtain ⟨e1, e2⟩ := h.each p e
      have hps : sv.ownBlock ≠ some p := h.sta.ne_cells e2 (by decide)
      exact ⟨e1, ((e2.mods hma fun e => e).mods hm3 hps).far (fun e => (h.cells.ne_ e2 (by decide)) e.symm) _⟩
    · rw [List.mem_singleton.1 e]
      exact ⟨hs, hs3.far (fun e => hlt e.symm) _⟩
  · rw [List.nodup_append]
    refine ⟨h.nd, by simp, fun a ha b hb e => ?_⟩
    rw [List.mem_singleton.1 hb] at e
    have := ((h.each a ha).2).lt
    omega
theorem rel_made {w w1 wc wr : World} {q rb mb Cn Rn Hn : Nat} {l : List Tx} {v u sv : Value} {C R H : Int} {nw : Bool} {ps : List Nat} {n1 : Nat} (hC : C = (Cn : Int)) (hRn : R = (Rn : Int)) (hHn : H = (Hn : Int)) (hw1 : Mods No w w1) (hn1 : w.heap.size ≤ n1) (hR1 : RingK w1 q Cn (nodesOf l) (fun b => n1 ≤ b))
    (hnm : NwM w1 wc q rb mb l v u C R H nw) (hns : NsI wc wr q rb mb u sv C R H nw l.length ps) (hb : 1 ≤ Rn ∧ Rn ≤ 8 ∧ 1 ≤ Hn ∧ Hn ≤ 65536) (ht : 1 < w.heap.size) :
    RelK wr rb Cn Rn Hn nw (nodesOf l) (List.replicate l.length stn0) [] (fun b => w.heap.size ≤ b) := by
  subst hC hRn hHn
  have s1 := hw1.size
  have s2 := hnm.hm.size
  have s3 := hns.hm.size
  have hrb := hnm.rbn
  have hmb := hnm.mbn
  have hmbl := hnm.map.lt
  have hmw := hnm.map.mods hns.hm (fun e => hnm.map.ne_cells hnm.cells e)
  have hlen : (nodesOf l).length = l.length := nodesOf_len l
  have hpm : ∀ p ∈ ps, p ≠ mb := fun p hp e => by have := (hns.each p hp).1; omega
  have hpr : rb ∉ ps := fun e => by have := (hns.each rb e).1; have := hnm.cells.lt; omega
  obtain ⟨col, hcol⟩ : ∃ col : Nat → Nat, col = fun b => if b < w.heap.size then 0 else if b = mb then 2 else if b ∈ ps then 3 + ps.idxOf b else 1 := ⟨_, rfl⟩
  have c1 : ∀ b, w.heap.size ≤ b → b ≠ mb → b ∉ ps → col b = 1 := fun b e1 e2 e3 => by rw [hcol]; dsimp only; rw [if_neg (by omega), if_neg e2, if_neg e3]
  have c0 : ∀ b, b < w.heap.size → col b = 0 := fun b e => by rw [hcol]; exact if_pos e
  have c3 : ∀ i p, ps[i]? = some p → col p = 3 + i := fun i p e => by
    have hm := List.mem_of_getElem? e
    have := (hns.each p hm).1
    obtain ⟨hi, e2⟩ := List.getElem?_eq_some_iff.1 e
    rw [hcol]; dsimp only
    rw [if_neg (by omega), if_neg (hpm p hm), if_pos hm, ← e2, List.Nodup.idxOf_getElem hns.nd]
  have hnames := Tum.Own.mods hnm.names hns.hm fun b e k => by
    have := hnm.names.ne_cells hnm.cells (by decide)
    rw [k] at e
    exact this e
  refine ⟨⟨hb.1, hb.2.1, hb.2.2.1, hb.2.2.2, by rw [List.length_replicate, hlen], fun s hs => by rw [List.eq_of_mem_replicate hs]; exact Nat.zero_le _, List.nodup_nil, fun s hs => (List.not_mem_nil hs).elim⟩, by omega, q, mb, col, ps, u, sv, ⟨hns.cells, c1 rb (by omega) (fun e => hnm.map.ne_cells hnm.cells e.symm) hpr, ?_, ?_, ?_, by rw [hns.len, hlen], fun i p s hp hs => ?_, ?_, ?_⟩, fun b _ e => ?_⟩
  · have r1 := hR1.bnd (G := fun b => w.heap.size ≤ b ∧ b < w1.heap.size) (fun b hb e => ⟨Nat.le_trans hn1 e, hb⟩) (fun e => by omega)
    refine ((r1.no hnm.hm).mods hns.hm fun b _ e k => by omega).bnd (fun b _ e => c1 b e.1 (by omega) fun k => by have := (hns.each b k).1; omega) fun e => ?_
    rw [c0 _ ht] at e; cases e
  · rw [hlen]
    refine ⟨hnames.1, fun b hb => c1 b (by have := hnm.names.2 b hb; omega) (fun e => ?_) fun e => ?_⟩
    · obtain ⟨cur, hc⟩ := hnames.typed b hb
      exact hmw.ne_cells hc e.symm
    · have := (hns.each b e).1; have := hnm.names.lt b hb; omega
  · rw [hlen]
    refine ⟨hns.sta.1, fun b hb => c1 b (by have := hns.sta.2 b hb; omega) (fun e => by have := hns.sta.2 b hb; omega) fun e => ?_⟩
    exact hns.sta.ne_cells (hns.each b e).2 (by decide) hb
  · have hm := List.mem_of_getElem? hp
    have he : s = stn0 := by
      have := List.mem_of_getElem? hs
      exact List.eq_of_mem_replicate this
    subst he
    exact ⟨c3 i p hp, .slice none 0 0, (hns.each p hm).2, Own.nil _ _ _ _⟩
  · rw [hcol]; dsimp only; rw [if_neg (by omega), if_pos rfl]
  · exact hmw.congr fun k => rfl
  · rcases Nat.lt_or_ge b w.heap.size with h | h
    · exact absurd (c0 b h) e
    · exact h
set_option maxHeartbeats 6400000 in
theorem relnew_K (w : World) (v : Value) (l : List Tx) (C R H : Int) (nw : Bool) (hr : Rd w (fun g => g < w.heap.size) 1 v l.length (l.map ks)) (ht : Tab w) :
    Calls Tryd.prog 10 #[.agg #[v, .int .i64 C, .int .i64 R, .int .i64 H, .bool nw]] w (Ret fun v w' => RelNew w w' l C R H nw v) := by
  have hM0 : Mods No w (w.alloc (.cells #[v, .int .i64 C, .int .i64 R, .int .i64 H, .bool nw] 26)) := (Mods.refl No w).alloc _
  have hnew := new_K _ v l C (hr.keep hM0) (ht.no hM0)
  have hbx := Cells.new w 26 #[v, .int .i64 C, .int .i64 R, .int .i64 H, .bool nw]
  obtain ⟨A, cp, rfl, _, _⟩ := hr.form
  have HBX := Lib.hid hbx
  obtain ⟨e, he⟩ : ∃ e, e = newE l C := ⟨_, rfl⟩
  by_cases h0 : e = 0
  · have he0 : newE l C = 0 := he ▸ h0
    have hok := fun w0 w' v (h : NewIs w0 w' l C v) => new_ok h he0
    clear he h0 hbx
    by_cases hz : l.length = 0
    · have He := Lib.hid (show relE l C R H = 240 by unfold relE; rw [if_neg (by simpa using he0), if_pos hz])
      have hz' : ((l.length : Int) == 0) = true := by simp [hz]
      clear he0 hz
      have HhM0 := Lib.hid hM0
      clear hM0
      have Hhnew := Lib.hid hnew
      clear hnew
      have Hhr := Lib.hid hr
      clear hr
      have Hht := Lib.hid ht
      clear ht
      have Hhok := Lib.hid hok
      clear hok
      unfold ks at *
      go_enter Tryd.func10, Tryd.ntmps10
      go_wp2_with (first | (go_at_call 27; (refine ret_use (Hhnew.out) ?_; rintro v w1 hn1; have hx1 := Hhok.out _ _ _ hn1; obtain ⟨q, rfl, hr1, hm1⟩ := hx1; have HM1 := Lib.hid (HhM0.out.trans hm1 fun _ _ e => e); have hb1 := HBX.out.mods hm1 fun e => e; have d0 := hb1.at_ 0 rfl; clear hn1 hr1 hm1 hb1)) | ((with_reducible refine wp_region_por ?_ ?_ ?_ ?_); kernel_rfl; kernel_rfl; (with_reducible repeat (first | exact calm_ret | refine calm_then ?_ | refine calm_in ?_ | refine calm_chk ?_ | refine calm_noGoto ?_))) | ((with_reducible refine chk_end ?_ ?_); kernel_rfl))
      go_ret2
      exact RelNew.bad He.out (by decide) HM1.out
    · have hz' : ((l.length : Int) == 0) = false := by simp; exact fun e => hz (by simp [e])
      by_cases hb : R < 1 ∨ 8 < R ∨ H < 1 ∨ 65536 < H
      · have He := Lib.hid (show relE l C R H = 1 by unfold relE; rw [if_neg (by simpa using he0), if_neg hz, if_pos hb])
        clear he0 hz
        have HhM0 := Lib.hid hM0
        clear hM0
        have Hhnew := Lib.hid hnew
        clear hnew
        have Hhr := Lib.hid hr
        clear hr
        have Hht := Lib.hid ht
        clear ht
        have Hhok := Lib.hid hok
        clear hok
        by_cases r1 : R < 1
        · have r1' : decide (R < 1) = true := decide_eq_true r1
          clear hb
          unfold ks at *
          go_enter Tryd.func10, Tryd.ntmps10
          go_wp2_with (first | (go_at_call 27; (refine ret_use (Hhnew.out) ?_; rintro v w1 hn1; have hx1 := Hhok.out _ _ _ hn1; obtain ⟨q, rfl, hr1, hm1⟩ := hx1; have HM1 := Lib.hid (HhM0.out.trans hm1 fun _ _ e => e); have hb1 := HBX.out.mods hm1 fun e => e; have d0 := hb1.at_ 0 rfl; have d2 := hb1.at_ 2 rfl; have d3 := hb1.at_ 3 rfl; clear hn1 hr1 hm1 hb1)) | ((with_reducible refine wp_region_por ?_ ?_ ?_ ?_); kernel_rfl; kernel_rfl; (with_reducible repeat (first | exact calm_ret | refine calm_then ?_ | refine calm_in ?_ | refine calm_chk ?_ | refine calm_noGoto ?_))) | ((with_reducible refine chk_end ?_ ?_); kernel_rfl))
          go_ret2
          exact RelNew.bad He.out (by decide) HM1.out
        · have r1' : decide (R < 1) = false := decide_eq_false r1
          by_cases r2 : 8 < R
          · have r2' : decide (8 < R) = true := decide_eq_true r2
            clear hb
            unfold ks at *
            go_enter Tryd.func10, Tryd.ntmps10
            go_wp2_with (first | (go_at_call 27; (refine ret_use (Hhnew.out) ?_; rintro v w1 hn1; have hx1 := Hhok.out _ _ _ hn1; obtain ⟨q, rfl, hr1, hm1⟩ := hx1; have HM1 := Lib.hid (HhM0.out.trans hm1 fun _ _ e => e); have hb1 := HBX.out.mods hm1 fun e => e; have d0 := hb1.at_ 0 rfl; have d2 := hb1.at_ 2 rfl; have d3 := hb1.at_ 3 rfl; clear hn1 hr1 hm1 hb1)) | ((with_reducible refine wp_region_por ?_ ?_ ?_ ?_); kernel_rfl; kernel_rfl; (with_reducible repeat (first | exact calm_ret | refine calm_then ?_ | refine calm_in ?_ | refine calm_chk ?_ | refine calm_noGoto ?_))) | ((with_reducible refine chk_end ?_ ?_); kernel_rfl))
            go_ret2
            exact RelNew.bad He.out (by decide) HM1.out
          · have r2' : decide (8 < R) = false := decide_eq_false r2
            by_cases h1 : H < 1
            · have h1' : decide (H < 1) = true := decide_eq_true h1
              clear hb
              unfold ks at *
              go_enter Tryd.func10, Tryd.ntmps10
              go_wp2_with (first | (go_at_call 27; (refine ret_use (Hhnew.out) ?_; rintro v w1 hn1; have hx1 := Hhok.out _ _ _ hn1; obtain ⟨q, rfl, hr1, hm1⟩ := hx1; have HM1 := Lib.hid (HhM0.out.trans hm1 fun _ _ e => e); have hb1 := HBX.out.mods hm1 fun e => e; have d0 := hb1.at_ 0 rfl; have d2 := hb1.at_ 2 rfl; have d3 := hb1.at_ 3 rfl; clear hn1 hr1 hm1 hb1)) | ((with_reducible refine wp_region_por ?_ ?_ ?_ ?_); kernel_rfl; kernel_rfl; (with_reducible repeat (first | exact calm_ret | refine calm_then ?_ | refine calm_in ?_ | refine calm_chk ?_ | refine calm_noGoto ?_))) | ((with_reducible refine chk_end ?_ ?_); kernel_rfl))
              go_ret2
              exact RelNew.bad He.out (by decide) HM1.out
            · have h1' : decide (H < 1) = false := decide_eq_false h1
              have h2' : decide (65536 < H) = true := decide_eq_true (by omega)
              clear hb
              unfold ks at *
              go_enter Tryd.func10, Tryd.ntmps10
              go_wp2_with (first | (go_at_call 27; (refine ret_use (Hhnew.out) ?_; rintro v w1 hn1; have hx1 := Hhok.out _ _ _ hn1; obtain ⟨q, rfl, hr1, hm1⟩ := hx1; have HM1 := Lib.hid (HhM0.out.trans hm1 fun _ _ e => e); have hb1 := HBX.out.mods hm1 fun e => e; have d0 := hb1.at_ 0 rfl; have d2 := hb1.at_ 2 rfl; have d3 := hb1.at_ 3 rfl; clear hn1 hr1 hm1 hb1)) | ((with_reducible refine wp_region_por ?_ ?_ ?_ ?_); kernel_rfl; kernel_rfl; (with_reducible repeat (first | exact calm_ret | refine calm_then ?_ | refine calm_in ?_ | refine calm_chk ?_ | refine calm_noGoto ?_))) | ((with_reducible refine chk_end ?_ ?_); kernel_rfl))
              go_ret2
              exact RelNew.bad He.out (by decide) HM1.out
      · have r1' : decide (R < 1) = false := decide_eq_false (by omega)
        have r2' : decide (8 < R) = false := decide_eq_false (by omega)
        have h1' : decide (H < 1) = false := decide_eq_false (by omega)
        have h2' : decide (65536 < H) = false := decide_eq_false (by omega)
        have He := Lib.hid (show relE l C R H = 0 by unfold relE; rw [if_neg (by simpa using he0), if_neg hz, if_neg hb])
        have Hb := Lib.hid hb
        clear he0 hz hb
        have HhM0 := Lib.hid hM0
        clear hM0
        have Hhnew := Lib.hid hnew
        clear hnew
        have Hhr := Lib.hid hr
        clear hr
        have Hht := Lib.hid ht
        clear ht
        have Hhok := Lib.hid hok
        clear hok
        unfold ks at *
        go_enter Tryd.func10, Tryd.ntmps10
        go_upto_region 8 with (first | (go_at_call 27; (refine ret_use (Hhnew.out) ?_; rintro v w1 hn1; have hx1 := Hhok.out _ _ _ hn1; obtain ⟨q, rfl, hr1, hm1⟩ := hx1; have HR1 := Lib.hid hr1; have HM1 := Lib.hid (HhM0.out.trans hm1 fun _ _ e => e); have hb1 := HBX.out.mods hm1 fun e => e; have d0 := hb1.at_ 0 rfl; have d1 := hb1.at_ 1 rfl; have d2 := hb1.at_ 2 rfl; have d3 := hb1.at_ 3 rfl; have d4 := hb1.at_ 4 rfl; have dl := hb1.lt; have HB1 := Lib.hid hb1; clear hn1 hr1 hm1 hb1)) | ((with_reducible refine wp_region_por ?_ ?_ ?_ ?_); kernel_rfl; kernel_rfl; (with_reducible repeat (first | exact calm_ret | refine calm_then ?_ | refine calm_in ?_ | refine calm_chk ?_ | refine calm_noGoto ?_))) | ((with_reducible refine chk_end ?_ ?_); kernel_rfl))
        have hno := fun w' (hm : Mods No w1 w') => nodes_K w' q C.toNat (nodesOf l) _ (HR1.out.no hm)
        rw [nodesOf_len] at hno
        have hno2 := fun w' (hm : Mods No w1 w') => ret_use (hno w' hm) (R := Ret fun v w'' => (Own w'' (fun b => w'.heap.size ≤ b) 9 1 v l.length ((nodesOf l).map ks) ∧ Mods No w' w'') ∧ Mods No w1 w'') fun v w'' h => ⟨h, hm.trans h.2 fun _ _ e => e⟩
        clear hno
        have Hhno2 := Lib.hid hno2
        clear hno2
        have hmm := @run_makeMap Tryd.prog
        go_cut [6] from 43 to 49 (fun v6 wx => ∃ (rb mb : Nat) (A2 : Option Addr) (c2 : Nat), v6 = (.pointer (some ⟨rb, 0, none⟩)) ∧ NwM w1 wx q rb mb l (.slice A l.length cp) (.slice A2 l.length c2) C R H nw)
        case first =>
          go_region_with (go_at_call 28; refine ret_use (Hhno2.out _ (by repeat (first | exact Mods.refl _ _ | apply Mods.drew | apply Mods.alloc))) ?_; rintro v w2 ⟨⟨ho2, hm2⟩, hm12⟩; have HO2 := Lib.hid ho2; have HM2 := Lib.hid hm2; have HM12 := Lib.hid hm12; have hb2 := HB1.out.mods hm12 (fun e => e); have e0 := hb2.at_ 0 rfl; have e1 := hb2.at_ 1 rfl; have e2 := hb2.at_ 2 rfl; have e3 := hb2.at_ 3 rfl; have e4 := hb2.at_ 4 rfl; have el := hb2.lt; obtain ⟨A2, c2, rfl, _, _⟩ := ho2.form; clear ho2 hm2 hm12 hb2)
          all_goals go_wp2
          all_goals go_meet
          case' rel => skip
          all_goals first
            | exact ⟨_, _, A2, c2, rfl, NwM.one (by repeat (first | exact Mods.refl _ _ | apply Mods.drew)) HO2.out HM2.out⟩
            | (refine ⟨_, _, A2, c2, rfl, NwM.two (mb := w1.heap.size) ?_ (Nat.le_refl _) ?_ HO2.out HM2.out⟩; exact SMap.made _ _ _ _; repeat (first | exact Mods.refl _ _ | apply Mods.drew | apply Mods.alloc))
        case rest =>
          obtain ⟨rb, mb, A2, c2, rfl, hnm⟩ := hcut
          have HNM := Lib.hid hnm
          have k0 := hnm.cells.at_ 0 rfl
          have k6 := hnm.cells.at_ 6 rfl
          have kf := hnm.cells.frozen 0
          have kl := hnm.cells.lt
          have hl64 : l.length ≤ 64 := by have := HR1.out.1.small; rw [nodesOf_len] at this; exact this
          clear hnm
          go_wp2_with (first | ((with_reducible refine wp_region_por ?_ ?_ ?_ ?_); kernel_rfl; kernel_rfl; (with_reducible repeat (first | exact calm_ret | refine calm_then ?_ | refine calm_in ?_ | refine calm_chk ?_ | refine calm_noGoto ?_))) | ((with_reducible refine chk_end ?_ ?_); kernel_rfl))
          have HNS := Lib.hid (show NsI wc (wc.setCell ⟨rb, 0, none⟩ (.slice none 0 0)) q rb mb (.slice A2 l.length c2) (.slice none 0 0) C R H nw 0 [] from ⟨HNM.out.cells.set_ 0 _, rfl, Own.nil _ _ _ _, fun p hp => (List.not_mem_nil hp).elim, List.nodup_nil, (Mods.refl _ wc).setCell _ _ fun _ => rfl⟩)
          clear k0 k6 kf
          go_loopg [59] l.length (fun k v59 wr => ∃ (i : Nat) (sv : Value) (ps : List Nat), v59 = .int .i64 i ∧ i ≤ l.length ∧ k + i = l.length ∧ NsI wc wr q rb mb (.slice A2 l.length c2) sv C R H nw i ps)
          case atStart => exact ⟨0, _, _, rfl, Nat.zero_le _, rfl, HNS.out⟩
          case round =>
            obtain ⟨i, sv, ps, rfl, hi, hki, hin⟩ := hrel
            have Hki := Lib.hid hki
            have Hin := Lib.hid hin
            obtain ⟨A3, c3, rfl, _, _⟩ := hin.sta.form
            have k7 := hin.cells.at_ 7 rfl
            have k7l := hin.cells.lt
            clear hki hin
            rcases Nat.lt_or_ge i l.length with h1 | h1
            · go_wp2_with (first | (at_builtin; ((refine wpList_append _ rfl (.tmp 65) (.tmp 68) 71 rfl 79 (.pointer none) 1 8 Tryd.underlying71 infoPt rfl (by decide) (F := fun b => wc.heap.size ≤ b) (n := i) (xs := ps.map ptr) (by rfl) (Tum.Own.mods Hin.out.sta (((Mods.refl No wr).alloc (.cells #[.slice none 0 0, .int .i64 0, .int .i64 0] 83)).alloc (.cells #[ptr wr.heap.size] 79)) fun _ _ e => e) (G := fun g => g = wr.heap.size + 1) (y := .slice (some ⟨wr.heap.size + 1, 0, none⟩) 1 1) (m := 1) (news := [ptr wr.heap.size]) (by rfl) (Rd.box (wr.alloc (.cells #[.slice none 0 0, .int .i64 0, .int .i64 0] 83)) #[ptr wr.heap.size] _ (by rw [World.size_alloc]) rfl (by decide)) (ptr_one [wr.heap.size]) (by omega) (by decide) ?_); intro v8 w8 hown8 hm8 _; have HN8 := Lib.hid (Hin.out.next kl hown8 hm8); have hc8 := (Hin.out.cells.mods (((Mods.refl No wr).alloc (.cells #[.slice none 0 0, .int .i64 0, .int .i64 0] 83)).alloc (.cells #[ptr wr.heap.size] 79)) fun e => e).mods hm8 (Hin.out.sta.ne_cells Hin.out.cells (by decide)); have j7 := hc8.at_ 7 rfl; have jf := hc8.frozen 7; have jl := hc8.lt; obtain ⟨A8, c8, rfl, _, _⟩ := hown8.form; clear hown8 hm8 hc8)) | ((with_reducible refine wp_region_por ?_ ?_ ?_ ?_); kernel_rfl; kernel_rfl; (with_reducible repeat (first | exact calm_ret | refine calm_then ?_ | refine calm_in ?_ | refine calm_chk ?_ | refine calm_noGoto ?_))) | ((with_reducible refine chk_end ?_ ?_); kernel_rfl))
              go_roundg (gk - 1)
              case rel => exact ⟨i + 1, _, _, by go_num, h1, by have := Hki.out; omega, HN8.out⟩
              case measure => have := Hki.out; omega
            · obtain rfl : i = l.length := by omega
              go_wp2_with (first | ((with_reducible refine wp_region_por ?_ ?_ ?_ ?_); kernel_rfl; kernel_rfl; (with_reducible repeat (first | exact calm_ret | refine calm_then ?_ | refine calm_in ?_ | refine calm_chk ?_ | refine calm_noGoto ?_))) | ((with_reducible refine chk_end ?_ ?_); kernel_rfl))
              go_ret2
              have hc1 := HR1.out.1.c1
              have hbb := Hb.out
              have hs1 := HM1.out.size
              have hrbn := HNM.out.rbn
              exact ⟨some ⟨rb, 0, none⟩, by rw [He.out]; rfl, (HM1.out.trans HNM.out.hm fun _ _ e => e).trans Hin.out.hm fun k hk e => absurd hk (by rw [e]; omega), fun e => absurd He.out e, fun _ => ⟨rb, rfl, rel_made (by omega) (by omega) (by omega) HM1.out HhM0.out.size HR1.out HNM.out Hin.out (by omega) Hht.out.lt⟩⟩
  · have he1 : (e != 0) = true := bne_iff_ne.2 h0
    have hbad := fun w0 w' v (h : NewIs w0 w' l C v) => new_bad h he h0
    have He := Lib.hid (show relE l C R H = e by unfold relE; rw [← he, if_pos h0])
    have H0 := Lib.hid h0
    clear he h0 hbx
    have HhM0 := Lib.hid hM0
    clear hM0
    have Hhnew := Lib.hid hnew
    clear hnew
    have Hhr := Lib.hid hr
    clear hr
    have Hht := Lib.hid ht
    clear ht
    have Hhbad := Lib.hid hbad
    clear hbad
    unfold ks at *
    go_enter Tryd.func10, Tryd.ntmps10
    go_wp2_with (first | (go_at_call 27; (refine ret_use (Hhnew.out) ?_; rintro v w1 hn1; have hx1 := Hhbad.out _ _ _ hn1; obtain ⟨rfl, hm1⟩ := hx1; have HM1 := Lib.hid (HhM0.out.trans hm1 fun _ _ e => e); have hb1 := HBX.out.mods hm1 fun e => e; have d0 := hb1.at_ 0 rfl; clear hn1 hm1 hb1)) | ((with_reducible refine wp_region_por ?_ ?_ ?_ ?_); kernel_rfl; kernel_rfl; (with_reducible repeat (first | exact calm_ret | refine calm_then ?_ | refine calm_in ?_ | refine calm_chk ?_ | refine calm_noGoto ?_))) | ((with_reducible refine chk_end ?_ ?_); kernel_rfl))
    go_ret2
    exact RelNew.bad He.out H0.out HM1.out
end Go.Proofs.YtcifajfmdpjfiaaDoor
