/- Package tumblerref24: New. -/
import Derived.Test.YtcifajfmdpjfiaaDoorRkB
import Derived.Test.YtcifajfmdpjfiaaDoorRfE
import Derived.Test.YtcifajfmdpjfiaaDoorMBs
namespace Go.Proofs.YtcifajfmdpjfiaaDoor
open Go.RowKit Go.Tum Go.Lib Go.Sort
set_option maxRecDepth 100000
/-- A destination's cells. -/
def destC (s : Tx) (up : Bool) (sent dropped : Nat) (lv : Value) : List Value := [ks s, .bool up, .int .i64 0, .int .i64 (sent : Int), .int .i64 (dropped : Int), lv]
def dest0 (s : Tx) : List Value := destC s true 0 0 (.slice none 0 0)
theorem dest0_len (s : Tx) : (dest0 s).length = 6 := rfl
theorem dest0_one (s : Tx) : ∀ u ∈ dest0 s, u.oneCell' = true := by
  intro u hu
  simp only [dest0, destC, List.mem_cons, List.not_mem_nil, or_false] at hu
  rcases hu with rfl | rfl | rfl | rfl | rfl | rfl <;> rfl
def dests0 (l : List Tx) : List Value := l.flatMap dest0
theorem dests0_snoc (l : List Tx) (x : Tx) : dests0 (l ++ [x]) = dests0 l ++ dest0 x := by simp [dests0]
theorem infoDs : (Tryd.prog.info? 87).map (fun i => (i.zero, i.size, i.bytes)) = some (some (.agg #[.string ⟨#[]⟩, .bool false, .int .i64 0, .int .i64 0, .int .i64 0, .slice none 0 0]), 6, 72) := by kernel_rfl
/-- What the reference's New tells. -/
def RrNewIs (w w' : World) (A : Option Addr) (n c : Nat) (l : List Tx) (C R H : Int) (nw : Bool) (v : Value) : Prop :=
  ∃ (A0 : Option Addr) (n0 c0 : Nat) (C' R' H' : Int) (nw' : Bool) (cc : Int) (A1 : Option Addr) (n1 c1 : Nat) (A2 : Option Addr) (n2 c2 : Nat) (A3 : Option Addr) (n3 c3 : Nat),
    v = .tuple #[.agg #[.slice A0 n0 c0, .int .i64 C', .int .i64 R', .int .i64 H', .bool nw', .int .i64 cc, .slice A1 n1 c1, .slice A2 n2 c2, .slice A3 n3 c3], .int .i64 (relE l C R H)] ∧ Mods No w w' ∧
    (relE l C R H = 0 → A0 = A ∧ n0 = n ∧ c0 = c ∧ C' = C ∧ R' = R ∧ H' = H ∧ nw' = nw ∧ cc = C ∧ Own w' (fun g => w.heap.size ≤ g) 9 1 (.slice A1 n1 c1) (nodesOf l).length ((nodesOf l).map ks) ∧
      Own w' (fun g => w.heap.size ≤ g) 103 2 (.slice A2 n2 c2) (placesOf C.toNat (nodesOf l)).length (plcs (placesOf C.toNat (nodesOf l))) ∧
      Own w' (fun g => w.heap.size ≤ g) 87 6 (.slice A3 n3 c3) (nodesOf l).length (dests0 (nodesOf l)))
theorem RrNewIs.bad {w w' : World} {A : Option Addr} {n c : Nat} {l : List Tx} {C R H e : Int} {nw : Bool} (he : relE l C R H = e) (h0 : e ≠ 0) (hm : Mods No w w') :
    RrNewIs w w' A n c l C R H nw (.tuple #[.agg #[.slice none 0 0, .int .i64 0, .int .i64 0, .int .i64 0, .bool false, .int .i64 0, .slice none 0 0, .slice none 0 0, .slice none 0 0], .int .i64 e]) := by
  subst he
  exact ⟨none, 0, 0, 0, 0, 0, false, 0, none, 0, 0, none, 0, 0, none, 0, 0, rfl, hm, fun e => absurd e h0⟩
/-- Between two rounds of New's loop: the destinations made so far. -/
structure RrI (w2 wr : World) (q x : Nat) (A : Option Addr) (n c : Nat) (C R H : Int) (nw : Bool) (N : List Tx) (sn sp : Value) (i : Nat) (v : Value) : Prop where
  box : Cells wr q 33 #[.int .i64 C, sn, sp]
  rel : Cells wr x 36 #[.slice A n c, .int .i64 C, .int .i64 R, .int .i64 H, .bool nw, .int .i64 C, sn, sp, v]
  own : Own wr (fun g => w2.heap.size ≤ g) 87 6 v i (dests0 (N.take i))
  hm : Mods (fun g => g = x) w2 wr
theorem RrI.next {w2 wr wx w3 : World} {q x i n c : Nat} {A : Option Addr} {C R H : Int} {nw : Bool} {N : List Tx} {sn sp v v' : Value} {s : Tx} (h : RrI w2 wr q x A n c C R H nw N sn sp i v) (hs : N[i]? = some s) (hm : Mods No wr wx)
    (h3 : Own w3 (fun k => v.ownBlock = some k ∨ k = wx.heap.size) 87 6 v' (i + 1) (dests0 (N.take i) ++ dest0 s)) (hm3 : Mods (fun k => v.ownBlock = some k) wx w3) (hqx : q ≠ x) :
    RrI w2 (w3.setCell ⟨x, 8, none⟩ v') q x A n c C R H nw N sn sp (i + 1) v' := by
  have s1 := h.hm.size
  have s2 := hm.size
  have hb1 : v.ownBlock ≠ some q := h.own.ne_cells h.box (by decide)
  have hb2 : v.ownBlock ≠ some x := h.own.ne_cells h.rel (by decide)
  have hr3 := (h.rel.mods hm fun e => e).mods hm3 hb2
  have hne : v'.ownBlock ≠ some x := h3.ne_cells hr3 (by decide)
  refine ⟨((h.box.mods hm fun e => e).mods hm3 hb1).far hqx _, hr3.set_ 8 v', ?_, ((h.hm.trans hm fun _ _ e => e.elim).trans hm3 fun k hk e => by have := h.own.2 k e; omega).setCell _ _ fun _ => rfl⟩
  rw [take_nx hs, dests0_snoc]
  refine (h3.far (p := ⟨x, 8, none⟩) hne v').more fun g hg => ?_
  rcases hg with e | e
  · exact h.own.2 g e
  · omega
/-- Nine cells of a block beyond the old ones are written. -/
theorem zs_mods {w w2 : World} (h : Mods No w w2) (a0 a1 a2 a3 a4 a5 a6 a7 a8 : Value) :
    Mods No w (((((((((w2.setCell ⟨w.heap.size + 1, 0, none⟩ a0).setCell ⟨w.heap.size + 1, 1, none⟩ a1).setCell ⟨w.heap.size + 1, 2, none⟩ a2).setCell ⟨w.heap.size + 1, 3, none⟩ a3).setCell ⟨w.heap.size + 1, 4, none⟩ a4).setCell ⟨w.heap.size + 1, 5, none⟩ a5).setCell ⟨w.heap.size + 1, 6, none⟩ a6).setCell ⟨w.heap.size + 1, 7, none⟩ a7).setCell ⟨w.heap.size + 1, 8, none⟩ a8) := by
  have hp : ∀ i, (⟨w.heap.size + 1, i, none⟩ : Addr).block < w.heap.size → No (⟨w.heap.size + 1, i, none⟩ : Addr).block := fun i h => absurd h (Nat.not_lt.2 (Nat.le_succ _))
  exact ((((((((h.setCell _ _ (hp 0)).setCell _ _ (hp 1)).setCell _ _ (hp 2)).setCell _ _ (hp 3)).setCell _ _ (hp 4)).setCell _ _ (hp 5)).setCell _ _ (hp 6)).setCell _ _ (hp 7)).setCell _ _ (hp 8)
theorem one_mods {q : Nat} {w : World} (a0 a1 a2 a3 a4 a5 a6 a7 a8 : Value) :
    Mods (fun g => g = q) w (((((((((w.setCell ⟨q, 0, none⟩ a0).setCell ⟨q, 1, none⟩ a1).setCell ⟨q, 2, none⟩ a2).setCell ⟨q, 3, none⟩ a3).setCell ⟨q, 4, none⟩ a4).setCell ⟨q, 5, none⟩ a5).setCell ⟨q, 6, none⟩ a6).setCell ⟨q, 7, none⟩ a7).setCell ⟨q, 8, none⟩ a8) := by
  have h0 := Mods.refl (fun g => g = q) w
  exact ((((((((h0.setCell ⟨q, 0, none⟩ a0 fun _ => rfl).setCell ⟨q, 1, none⟩ a1 fun _ => rfl).setCell ⟨q, 2, none⟩ a2 fun _ => rfl).setCell ⟨q, 3, none⟩ a3 fun _ => rfl).setCell ⟨q, 4, none⟩ a4 fun _ => rfl).setCell ⟨q, 5, none⟩ a5 fun _ => rfl).setCell ⟨q, 6, none⟩ a6 fun _ => rfl).setCell ⟨q, 7, none⟩ a7 fun _ => rfl).setCell ⟨q, 8, none⟩ a8 fun _ => rfl
set_option maxHeartbeats 6400000 in
theorem rrnew_K (w : World) (A : Option Addr) (c : Nat) (l : List Tx) (C R H : Int) (nw : Bool) (hr : Rd w (fun g => g < w.heap.size) 1 (.slice A l.length c) l.length (l.map ks)) :
    Calls Tryd.prog 11 #[.agg #[.slice A l.length c, .int .i64 C, .int .i64 R, .int .i64 H, .bool nw]] w (Ret fun v w' => RrNewIs w w' A l.length c l C R H nw v) := by
  have hM0 : Mods No w ((w.alloc (.cells #[.slice A l.length c, .int .i64 C, .int .i64 R, .int .i64 H, .bool nw] 26)).alloc (.cells #[.slice none 0 0, .int .i64 0, .int .i64 0, .int .i64 0, .bool false, .int .i64 0, .slice none 0 0, .slice none 0 0, .slice none 0 0] 36)) := ((Mods.refl No w).alloc _).alloc _
  have hn := rnew_K _ _ l C (hr.keep hM0)
  have HBX := Lib.hid ((Cells.new w 26 #[.slice A l.length c, .int .i64 C, .int .i64 R, .int .i64 H, .bool nw]).alloc (.cells #[.slice none 0 0, .int .i64 0, .int .i64 0, .int .i64 0, .bool false, .int .i64 0, .slice none 0 0, .slice none 0 0, .slice none 0 0] 36))
  have hZ := Cells.new (w.alloc (.cells #[.slice A l.length c, .int .i64 C, .int .i64 R, .int .i64 H, .bool nw] 26)) 36 #[.slice none 0 0, .int .i64 0, .int .i64 0, .int .i64 0, .bool false, .int .i64 0, .slice none 0 0, .slice none 0 0, .slice none 0 0]
  rw [World.size_alloc] at hZ
  have HZ := Lib.hid hZ
  obtain ⟨e, he⟩ : ∃ e, e = newE l C := ⟨_, rfl⟩
  by_cases h0 : e = 0
  · have he1 : (e != 0) = false := by rw [h0]; rfl
    have he0 : newE l C = 0 := he ▸ h0
    unfold RNewIs at hn
    rw [← he] at hn
    subst h0
    clear he
    by_cases hz : l.length = 0
    · have He := Lib.hid (show relE l C R H = 240 by unfold relE; rw [if_neg (by simpa using he0), if_pos hz])
      have hz' : ((l.length : Int) == 0) = true := by simp [hz]
      clear he0 hz hZ
      have Hhn := Lib.hid hn
      clear hn
      have Hhr := Lib.hid hr
      clear hr
      have HhM0 := Lib.hid hM0
      clear hM0
      go_enter Tryd.func11, Tryd.ntmps11
      go_wp2_with (first | (go_at_call 29; (refine ret_use (Hhn.out) ?_; rintro v w2 hn2; obtain ⟨cc, A1, A2, n1, k1, n2, k2, rfl, hm2, ho2⟩ := hn2; have HM2 := Lib.hid (HhM0.out.trans hm2 fun _ _ e => e); have HBX2 := Lib.hid (HBX.out.mods hm2 fun e => e); have HZ2 := Lib.hid (HZ.out.mods hm2 fun e => e); have zl := HZ2.out.lt; have bl := HBX2.out.lt; have d0 := HBX2.out.at_ 0 rfl; have d1 := HBX2.out.at_ 1 rfl; have d2 := HBX2.out.at_ 2 rfl; have d3 := HBX2.out.at_ 3 rfl; have d4 := HBX2.out.at_ 4 rfl; have z0 := HZ2.out.at_ 0 rfl; have z1 := HZ2.out.at_ 1 rfl; have z2 := HZ2.out.at_ 2 rfl; have z3 := HZ2.out.at_ 3 rfl; have z4 := HZ2.out.at_ 4 rfl; have z5 := HZ2.out.at_ 5 rfl; have z6 := HZ2.out.at_ 6 rfl; have z7 := HZ2.out.at_ 7 rfl; have z8 := HZ2.out.at_ 8 rfl; have f0 := HZ2.out.frozen 0; have f1 := HZ2.out.frozen 1; have f2 := HZ2.out.frozen 2; have f3 := HZ2.out.frozen 3; have f4 := HZ2.out.frozen 4; have f5 := HZ2.out.frozen 5; have f6 := HZ2.out.frozen 6; have f7 := HZ2.out.frozen 7; have f8 := HZ2.out.frozen 8; have HO2 := Lib.hid ho2; clear hm2 ho2)) | ((with_reducible refine wp_region_por ?_ ?_ ?_ ?_); kernel_rfl; kernel_rfl; (with_reducible repeat (first | exact calm_ret | refine calm_then ?_ | refine calm_in ?_ | refine calm_chk ?_ | refine calm_noGoto ?_))) | ((with_reducible refine chk_end ?_ ?_); kernel_rfl))
      refine bodyPost_ret (results_pair rfl _ _ (w.heap.size + 1) 36 _ (0, 0) _ rfl ((((((((((HZ2.out.set_ 0 _).set_ 1 _).set_ 2 _).set_ 3 _).set_ 4 _).set_ 5 _).set_ 6 _).set_ 7 _).set_ 8 _).alloc _) Tryd.underlying36 rfl rfl) rfl ?_
      exact RrNewIs.bad He.out (by decide) ((zs_mods HM2.out _ _ _ _ _ _ _ _ _).alloc _)
    · have hz' : ((l.length : Int) == 0) = false := by simp; exact fun e => hz (by simp [e])
      by_cases hb : R < 1 ∨ 8 < R ∨ H < 1 ∨ 65536 < H
      · have He := Lib.hid (show relE l C R H = 1 by unfold relE; rw [if_neg (by simpa using he0), if_neg hz, if_pos hb])
        clear he0 hz hZ
        by_cases r1 : R < 1
        · have r1' : decide (R < 1) = true := decide_eq_true r1
          clear hb
          have Hhn := Lib.hid hn
          clear hn
          have Hhr := Lib.hid hr
          clear hr
          have HhM0 := Lib.hid hM0
          clear hM0
          go_enter Tryd.func11, Tryd.ntmps11
          go_wp2_with (first | (go_at_call 29; (refine ret_use (Hhn.out) ?_; rintro v w2 hn2; obtain ⟨cc, A1, A2, n1, k1, n2, k2, rfl, hm2, ho2⟩ := hn2; have HM2 := Lib.hid (HhM0.out.trans hm2 fun _ _ e => e); have HBX2 := Lib.hid (HBX.out.mods hm2 fun e => e); have HZ2 := Lib.hid (HZ.out.mods hm2 fun e => e); have zl := HZ2.out.lt; have bl := HBX2.out.lt; have d0 := HBX2.out.at_ 0 rfl; have d1 := HBX2.out.at_ 1 rfl; have d2 := HBX2.out.at_ 2 rfl; have d3 := HBX2.out.at_ 3 rfl; have d4 := HBX2.out.at_ 4 rfl; have z0 := HZ2.out.at_ 0 rfl; have z1 := HZ2.out.at_ 1 rfl; have z2 := HZ2.out.at_ 2 rfl; have z3 := HZ2.out.at_ 3 rfl; have z4 := HZ2.out.at_ 4 rfl; have z5 := HZ2.out.at_ 5 rfl; have z6 := HZ2.out.at_ 6 rfl; have z7 := HZ2.out.at_ 7 rfl; have z8 := HZ2.out.at_ 8 rfl; have f0 := HZ2.out.frozen 0; have f1 := HZ2.out.frozen 1; have f2 := HZ2.out.frozen 2; have f3 := HZ2.out.frozen 3; have f4 := HZ2.out.frozen 4; have f5 := HZ2.out.frozen 5; have f6 := HZ2.out.frozen 6; have f7 := HZ2.out.frozen 7; have f8 := HZ2.out.frozen 8; have HO2 := Lib.hid ho2; clear hm2 ho2)) | ((with_reducible refine wp_region_por ?_ ?_ ?_ ?_); kernel_rfl; kernel_rfl; (with_reducible repeat (first | exact calm_ret | refine calm_then ?_ | refine calm_in ?_ | refine calm_chk ?_ | refine calm_noGoto ?_))) | ((with_reducible refine chk_end ?_ ?_); kernel_rfl))
          refine bodyPost_ret (results_pair rfl _ _ (w.heap.size + 1) 36 _ (0, 0) _ rfl ((((((((((HZ2.out.set_ 0 _).set_ 1 _).set_ 2 _).set_ 3 _).set_ 4 _).set_ 5 _).set_ 6 _).set_ 7 _).set_ 8 _).alloc _) Tryd.underlying36 rfl rfl) rfl ?_
          exact RrNewIs.bad He.out (by decide) ((zs_mods HM2.out _ _ _ _ _ _ _ _ _).alloc _)
        · have r1' : decide (R < 1) = false := decide_eq_false r1
          by_cases r2 : 8 < R
          · have r2' : decide (8 < R) = true := decide_eq_true r2
            clear hb
            have Hhn := Lib.hid hn
            clear hn
            have Hhr := Lib.hid hr
            clear hr
            have HhM0 := Lib.hid hM0
            clear hM0
            go_enter Tryd.func11, Tryd.ntmps11
            go_wp2_with (first | (go_at_call 29; (refine ret_use (Hhn.out) ?_; rintro v w2 hn2; obtain ⟨cc, A1, A2, n1, k1, n2, k2, rfl, hm2, ho2⟩ := hn2; have HM2 := Lib.hid (HhM0.out.trans hm2 fun _ _ e => e); have HBX2 := Lib.hid (HBX.out.mods hm2 fun e => e); have HZ2 := Lib.hid (HZ.out.mods hm2 fun e => e); have zl := HZ2.out.lt; have bl := HBX2.out.lt; have d0 := HBX2.out.at_ 0 rfl; have d1 := HBX2.out.at_ 1 rfl; have d2 := HBX2.out.at_ 2 rfl; have d3 := HBX2.out.at_ 3 rfl; have d4 := HBX2.out.at_ 4 rfl; have z0 := HZ2.out.at_ 0 rfl; have z1 := HZ2.out.at_ 1 rfl; have z2 := HZ2.out.at_ 2 rfl; have z3 := HZ2.out.at_ 3 rfl; have z4 := HZ2.out.at_ 4 rfl; have z5 := HZ2.out.at_ 5 rfl; have z6 := HZ2.out.at_ 6 rfl; have z7 := HZ2.out.at_ 7 rfl; have z8 := HZ2.out.at_ 8 rfl; have f0 := HZ2.out.frozen 0; have f1 := HZ2.out.frozen 1; have f2 := HZ2.out.frozen 2; have f3 := HZ2.out.frozen 3; have f4 := HZ2.out.frozen 4; have f5 := HZ2.out.frozen 5; have f6 := HZ2.out.frozen 6; have f7 := HZ2.out.frozen 7; have f8 := HZ2.out.frozen 8; have HO2 := Lib.hid ho2; clear hm2 ho2)) | ((with_reducible refine wp_region_por ?_ ?_ ?_ ?_); kernel_rfl; kernel_rfl; (with_reducible repeat (first | exact calm_ret | refine calm_then ?_ | refine calm_in ?_ | refine calm_chk ?_ | refine calm_noGoto ?_))) | ((with_reducible refine chk_end ?_ ?_); kernel_rfl))
            refine bodyPost_ret (results_pair rfl _ _ (w.heap.size + 1) 36 _ (0, 0) _ rfl ((((((((((HZ2.out.set_ 0 _).set_ 1 _).set_ 2 _).set_ 3 _).set_ 4 _).set_ 5 _).set_ 6 _).set_ 7 _).set_ 8 _).alloc _) Tryd.underlying36 rfl rfl) rfl ?_
            exact RrNewIs.bad He.out (by decide) ((zs_mods HM2.out _ _ _ _ _ _ _ _ _).alloc _)
          · have r2' : decide (8 < R) = false := decide_eq_false r2
            by_cases h1 : H < 1
            · have h1' : decide (H < 1) = true := decide_eq_true h1
              clear hb
              have Hhn := Lib.hid hn
              clear hn
              have Hhr := Lib.hid hr
              clear hr
              have HhM0 := Lib.hid hM0
              clear hM0
              go_enter Tryd.func11, Tryd.ntmps11
              go_wp2_with (first | (go_at_call 29; (refine ret_use (Hhn.out) ?_; rintro v w2 hn2; obtain ⟨cc, A1, A2, n1, k1, n2, k2, rfl, hm2, ho2⟩ := hn2; have HM2 := Lib.hid (HhM0.out.trans hm2 fun _ _ e => e); have HBX2 := Lib.hid (HBX.out.mods hm2 fun e => e); have HZ2 := Lib.hid (HZ.out.mods hm2 fun e => e); have zl := HZ2.out.lt; have bl := HBX2.out.lt; have d0 := HBX2.out.at_ 0 rfl; have d1 := HBX2.out.at_ 1 rfl; have d2 := HBX2.out.at_ 2 rfl; have d3 := HBX2.out.at_ 3 rfl; have d4 := HBX2.out.at_ 4 rfl; have z0 := HZ2.out.at_ 0 rfl; have z1 := HZ2.out.at_ 1 rfl; have z2 := HZ2.out.at_ 2 rfl; have z3 := HZ2.out.at_ 3 rfl; have z4 := HZ2.out.at_ 4 rfl; have z5 := HZ2.out.at_ 5 rfl; have z6 := HZ2.out.at_ 6 rfl; have z7 := HZ2.out.at_ 7 rfl; have z8 := HZ2.out.at_ 8 rfl; have f0 := HZ2.out.frozen 0; have f1 := HZ2.out.frozen 1; have f2 := HZ2.out.frozen 2; have f3 := HZ2.out.frozen 3; have f4 := HZ2.out.frozen 4; have f5 := HZ2.out.frozen 5; have f6 := HZ2.out.frozen 6; have f7 := HZ2.out.frozen 7; have f8 := HZ2.out.frozen 8; have HO2 := Lib.hid ho2; clear hm2 ho2)) | ((with_reducible refine wp_region_por ?_ ?_ ?_ ?_); kernel_rfl; kernel_rfl; (with_reducible repeat (first | exact calm_ret | refine calm_then ?_ | refine calm_in ?_ | refine calm_chk ?_ | refine calm_noGoto ?_))) | ((with_reducible refine chk_end ?_ ?_); kernel_rfl))
              refine bodyPost_ret (results_pair rfl _ _ (w.heap.size + 1) 36 _ (0, 0) _ rfl ((((((((((HZ2.out.set_ 0 _).set_ 1 _).set_ 2 _).set_ 3 _).set_ 4 _).set_ 5 _).set_ 6 _).set_ 7 _).set_ 8 _).alloc _) Tryd.underlying36 rfl rfl) rfl ?_
              exact RrNewIs.bad He.out (by decide) ((zs_mods HM2.out _ _ _ _ _ _ _ _ _).alloc _)
            · have h1' : decide (H < 1) = false := decide_eq_false h1
              have h2' : decide (65536 < H) = true := decide_eq_true (by omega)
              clear hb
              have Hhn := Lib.hid hn
              clear hn
              have Hhr := Lib.hid hr
              clear hr
              have HhM0 := Lib.hid hM0
              clear hM0
              go_enter Tryd.func11, Tryd.ntmps11
              go_wp2_with (first | (go_at_call 29; (refine ret_use (Hhn.out) ?_; rintro v w2 hn2; obtain ⟨cc, A1, A2, n1, k1, n2, k2, rfl, hm2, ho2⟩ := hn2; have HM2 := Lib.hid (HhM0.out.trans hm2 fun _ _ e => e); have HBX2 := Lib.hid (HBX.out.mods hm2 fun e => e); have HZ2 := Lib.hid (HZ.out.mods hm2 fun e => e); have zl := HZ2.out.lt; have bl := HBX2.out.lt; have d0 := HBX2.out.at_ 0 rfl; have d1 := HBX2.out.at_ 1 rfl; have d2 := HBX2.out.at_ 2 rfl; have d3 := HBX2.out.at_ 3 rfl; have d4 := HBX2.out.at_ 4 rfl; have z0 := HZ2.out.at_ 0 rfl; have z1 := HZ2.out.at_ 1 rfl; have z2 := HZ2.out.at_ 2 rfl; have z3 := HZ2.out.at_ 3 rfl; have z4 := HZ2.out.at_ 4 rfl; have z5 := HZ2.out.at_ 5 rfl; have z6 := HZ2.out.at_ 6 rfl; have z7 := HZ2.out.at_ 7 rfl; have z8 := HZ2.out.at_ 8 rfl; have f0 := HZ2.out.frozen 0; have f1 := HZ2.out.frozen 1; have f2 := HZ2.out.frozen 2; have f3 := HZ2.out.frozen 3; have f4 := HZ2.out.frozen 4; have f5 := HZ2.out.frozen 5; have f6 := HZ2.out.frozen 6; have f7 := HZ2.out.frozen 7; have f8 := HZ2.out.frozen 8; have HO2 := Lib.hid ho2; clear hm2 ho2)) | ((with_reducible refine wp_region_por ?_ ?_ ?_ ?_); kernel_rfl; kernel_rfl; (with_reducible repeat (first | exact calm_ret | refine calm_then ?_ | refine calm_in ?_ | refine calm_chk ?_ | refine calm_noGoto ?_))) | ((with_reducible refine chk_end ?_ ?_); kernel_rfl))
              refine bodyPost_ret (results_pair rfl _ _ (w.heap.size + 1) 36 _ (0, 0) _ rfl ((((((((((HZ2.out.set_ 0 _).set_ 1 _).set_ 2 _).set_ 3 _).set_ 4 _).set_ 5 _).set_ 6 _).set_ 7 _).set_ 8 _).alloc _) Tryd.underlying36 rfl rfl) rfl ?_
              exact RrNewIs.bad He.out (by decide) ((zs_mods HM2.out _ _ _ _ _ _ _ _ _).alloc _)
      · have r1' : decide (R < 1) = false := decide_eq_false (by omega)
        have r2' : decide (8 < R) = false := decide_eq_false (by omega)
        have h1' : decide (H < 1) = false := decide_eq_false (by omega)
        have h2' : decide (65536 < H) = false := decide_eq_false (by omega)
        have He := Lib.hid (show relE l C R H = 0 by unfold relE; rw [if_neg (by simpa using he0), if_neg hz, if_neg hb])
        have hl64 : (nodesOf l).length ≤ 64 := by rw [nodesOf_len]; exact (newE_zero he0).2.2.1
        clear he0 hz hb hZ
        have Hhn := Lib.hid hn
        clear hn
        have Hhr := Lib.hid hr
        clear hr
        have HhM0 := Lib.hid hM0
        clear hM0
        go_enter Tryd.func11, Tryd.ntmps11
        go_wp2_with (first | (go_at_call 29; (refine ret_use (Hhn.out) ?_; rintro v w2 hn2; obtain ⟨cc, A1, A2, n1, k1, n2, k2, rfl, hm2, ho2⟩ := hn2; have HM2 := Lib.hid (HhM0.out.trans hm2 fun _ _ e => e); have HBX2 := Lib.hid (HBX.out.mods hm2 fun e => e); have HZ2 := Lib.hid (HZ.out.mods hm2 fun e => e); have zl := HZ2.out.lt; have bl := HBX2.out.lt; have d0 := HBX2.out.at_ 0 rfl; have d1 := HBX2.out.at_ 1 rfl; have d2 := HBX2.out.at_ 2 rfl; have d3 := HBX2.out.at_ 3 rfl; have d4 := HBX2.out.at_ 4 rfl; have z0 := HZ2.out.at_ 0 rfl; have z1 := HZ2.out.at_ 1 rfl; have z2 := HZ2.out.at_ 2 rfl; have z3 := HZ2.out.at_ 3 rfl; have z4 := HZ2.out.at_ 4 rfl; have z5 := HZ2.out.at_ 5 rfl; have z6 := HZ2.out.at_ 6 rfl; have z7 := HZ2.out.at_ 7 rfl; have z8 := HZ2.out.at_ 8 rfl; have f0 := HZ2.out.frozen 0; have f1 := HZ2.out.frozen 1; have f2 := HZ2.out.frozen 2; have f3 := HZ2.out.frozen 3; have f4 := HZ2.out.frozen 4; have f5 := HZ2.out.frozen 5; have f6 := HZ2.out.frozen 6; have f7 := HZ2.out.frozen 7; have f8 := HZ2.out.frozen 8; have HO2 := Lib.hid ho2; clear hm2 ho2)) | ((with_reducible refine wp_region_por ?_ ?_ ?_ ?_); kernel_rfl; kernel_rfl; (with_reducible repeat (first | exact calm_ret | refine calm_then ?_ | refine calm_in ?_ | refine calm_chk ?_ | refine calm_noGoto ?_))) | ((with_reducible refine chk_end ?_ ?_); kernel_rfl))
        have hg := HO2.out (by trivial)
        obtain ⟨rfl, hn1, hn2⟩ := hg
        obtain ⟨N, hN⟩ : ∃ N, N = nodesOf l := ⟨_, rfl⟩
        rw [← hN] at hl64 hn1 hn2
        have e1 : n1 = N.length := by obtain ⟨_, _, e, _, _⟩ := hn1.form; injection e with _ e _
        subst e1
        have HN := Lib.hid hN
        have HN1 := Lib.hid hn1
        have HN2 := Lib.hid hn2
        clear hN hn1 hn2
        obtain ⟨wl, hwl⟩ : ∃ wl, wl = ((w2.alloc (.cells #[.int .i64 cc, .slice A1 N.length k1, .slice A2 n2 k2] 33)).alloc (.cells #[.slice A l.length c, .int .i64 cc, .int .i64 R, .int .i64 H, .bool nw, .int .i64 cc, .slice A1 N.length k1, .slice A2 n2 k2, .slice none 0 0] 36)) := ⟨_, rfl⟩
        have hls : wl.heap.size = w2.heap.size + 2 := by rw [hwl, World.size_alloc, World.size_alloc]
        have hml : Mods No w2 wl := by rw [hwl]; exact ((Mods.refl No w2).alloc _).alloc _
        have HRI := Lib.hid (show RrI wl wl w2.heap.size (w2.heap.size + 1) A l.length c cc R H nw N (.slice A1 N.length k1) (.slice A2 n2 k2) 0 (.slice none 0 0) from ⟨by rw [hwl]; exact (Cells.new w2 _ _).alloc _, by have h := Cells.new (w2.alloc (.cells #[.int .i64 cc, .slice A1 N.length k1, .slice A2 n2 k2] 33)) 36 #[.slice A l.length c, .int .i64 cc, .int .i64 R, .int .i64 H, .bool nw, .int .i64 cc, .slice A1 N.length k1, .slice A2 n2 k2, .slice none 0 0]; rw [World.size_alloc] at h; rw [hwl]; exact h, Own.nil _ _ _ _, Mods.refl _ _⟩)
        have Hls := Lib.hid hls
        have Hml := Lib.hid hml
        have Hwl := Lib.hid hwl
        clear hls hml hwl z0 z1 z2 z3 z4 z5 z6 z7 z8 f0 f1 f2 f3 f4 f5 f6 f7 f8 d0 d1 d2 d3 d4
        go_loopg [7] N.length (fun k v7 wr => ∃ (i : Nat) (v : Value), v7 = .int .i64 i ∧ i ≤ N.length ∧ k + i = N.length ∧ RrI wl wr w2.heap.size (w2.heap.size + 1) A l.length c cc R H nw N (.slice A1 N.length k1) (.slice A2 n2 k2) i v)
        case atStart => exact ⟨0, .slice none 0 0, rfl, Nat.zero_le _, rfl, by have h := HRI.out; rw [Hwl.out] at h ⊢; exact h⟩
        case round =>
          obtain ⟨i, v, rfl, hi, hki, hin⟩ := hrel
          have Hki := Lib.hid hki
          have Hin := Lib.hid hin
          have Hmw := Lib.hid (Hml.out.trans hin.hm fun k hk e => absurd hk (by rw [e]; omega))
          obtain ⟨A8, c8, rfl, _, _⟩ := hin.own.form
          have q1 := hin.box.at_ 1 rfl
          have ql := hin.box.lt
          have x8 := hin.rel.at_ 8 rfl
          have xl := hin.rel.lt
          have HO := Lib.hid hin.own
          clear hki hin
          rcases Nat.lt_or_ge i N.length with h1 | h1
          · obtain ⟨s, hs⟩ := lt_get h1
            obtain ⟨b1, o1, rfl, _, x0⟩ := (Tum.Own.mods HN1.out Hmw.out fun _ _ e => e).rd.tx rfl hs
            have Hs := Lib.hid hs
            have HX1 := Lib.hid (dest0_one s)
            unfold ks at x0
            clear hs
            go_wp2_with (first | ((with_reducible refine wp_region_one 12 (fun g => g = w2.heap.size + 1) [1] 9 ?_ ?_ ?_ ?_ ?_); kernel_rfl; kernel_rfl; kernel_rfl; (with_reducible repeat (first | exact calm_ret | refine calm_then ?_ | refine calm_in ?_ | refine calm_chk ?_ | refine calm_noGoto ?_)); simp only [List.drop_succ_cons, List.drop_zero, List.take_succ_cons, List.take_zero]) | (with_reducible refine segEnd ?_) | (refine And.intro (Keep.one ((Mods.refl No _).alloc _) Hin.out.rel.drew (fun e => e)) ?_) | ((with_reducible refine chkM_end (fun g => g = w2.heap.size + 1) ?_ [.pointer (some ⟨w2.heap.size + 1, 8, none⟩)] ?_ ?_ ?_); kernel_rfl; kernel_rfl; (intro v hv x hx; simp only [List.mem_cons, List.not_mem_nil, or_false] at hv; subst hv; (injection hx with hx; injection hx with hx; subst hx; simp))) | (at_builtin; ((refine wpList_append _ rfl (.tmp 55) (.tmp 63) 34 rfl 87 (.agg #[.string ⟨#[]⟩, .bool false, .int .i64 0, .int .i64 0, .int .i64 0, .slice none 0 0]) 6 72 Tryd.underlying34 infoDs rfl (by decide) (F := fun g => wl.heap.size ≤ g) (n := i) (xs := dests0 (N.take i)) (by rfl) (HO.out.mods ((Mods.refl No wr).alloc (.cells #[.string ⟨s.toArray⟩, .bool true, .int .i64 0, .int .i64 0, .int .i64 0, .slice none 0 0] 87)).drew fun _ _ e => e) (G := fun g => g = wr.heap.size) (y := .slice (some ⟨wr.heap.size, 0, none⟩) 1 1) (m := 1) (news := dest0 s) (by rfl) (Rd.box wr #[.string ⟨s.toArray⟩, .bool true, .int .i64 0, .int .i64 0, .int .i64 0, .slice none 0 0] _ rfl rfl (by decide)) HX1.out (by omega) (by decide) ?_); intro v8 w8 hown8 hm8 _; have HN8 := Lib.hid (Hin.out.next Hs.out ((Mods.refl No wr).alloc (.cells #[.string ⟨s.toArray⟩, .bool true, .int .i64 0, .int .i64 0, .int .i64 0, .slice none 0 0] 87)).drew hown8 hm8 (Nat.ne_of_lt (Nat.lt_succ_self _))); have hc8 := (Hin.out.rel.mods ((Mods.refl No wr).alloc (.cells #[.string ⟨s.toArray⟩, .bool true, .int .i64 0, .int .i64 0, .int .i64 0, .slice none 0 0] 87)).drew fun e => e).mods hm8 (HO.out.ne_cells Hin.out.rel (by decide)); have j8 := hc8.at_ 8 rfl; have jf := hc8.frozen 8; have jl := hc8.lt; obtain ⟨A9, c9, rfl, _, _⟩ := hown8.form; clear hown8 hm8 hc8)) | ((with_reducible refine wp_region_por ?_ ?_ ?_ ?_); kernel_rfl; kernel_rfl; (with_reducible repeat (first | exact calm_ret | refine calm_then ?_ | refine calm_in ?_ | refine calm_chk ?_ | refine calm_noGoto ?_))) | ((with_reducible refine chk_end ?_ ?_); kernel_rfl))
            go_roundg (gk - 1)
            case rel => exact ⟨i + 1, _, by go_num, h1, by have := Hki.out; omega, HN8.out⟩
            case measure => have := Hki.out; omega
          · obtain rfl : i = N.length := by omega
            have hz := HZ2.out.mods Hmw.out fun e => e
            have zl2 := hz.lt
            have HZr := Lib.hid hz
            have r0 := Hin.out.rel.at_ 0 rfl
            have r1 := Hin.out.rel.at_ 1 rfl
            have r2 := Hin.out.rel.at_ 2 rfl
            have r3 := Hin.out.rel.at_ 3 rfl
            have r4 := Hin.out.rel.at_ 4 rfl
            have r5 := Hin.out.rel.at_ 5 rfl
            have r6 := Hin.out.rel.at_ 6 rfl
            have r7 := Hin.out.rel.at_ 7 rfl
            have z0 := hz.at_ 0 rfl
            have z1 := hz.at_ 1 rfl
            have z2 := hz.at_ 2 rfl
            have z3 := hz.at_ 3 rfl
            have z4 := hz.at_ 4 rfl
            have z5 := hz.at_ 5 rfl
            have z6 := hz.at_ 6 rfl
            have z7 := hz.at_ 7 rfl
            have z8 := hz.at_ 8 rfl
            have f0 := hz.frozen 0
            have f1 := hz.frozen 1
            have f2 := hz.frozen 2
            have f3 := hz.frozen 3
            have f4 := hz.frozen 4
            have f5 := hz.frozen 5
            have f6 := hz.frozen 6
            have f7 := hz.frozen 7
            have f8 := hz.frozen 8
            clear hz
            go_wp2_with (first | ((with_reducible refine wp_region_por ?_ ?_ ?_ ?_); kernel_rfl; kernel_rfl; (with_reducible repeat (first | exact calm_ret | refine calm_then ?_ | refine calm_in ?_ | refine calm_chk ?_ | refine calm_noGoto ?_))) | ((with_reducible refine chk_end ?_ ?_); kernel_rfl))
            have hmz := one_mods (q := w.heap.size + 1) (w := wr) (.slice A l.length c) (.int .i64 cc) (.int .i64 R) (.int .i64 H) (.bool nw) (.int .i64 cc) (.slice A1 N.length k1) (.slice A2 n2 k2) (.slice A8 N.length c8)
            refine bodyPost_ret (results_pair rfl _ _ (w.heap.size + 1) 36 _ (0, 0) _ rfl (((((((((HZr.out.set_ 0 _).set_ 1 _).set_ 2 _).set_ 3 _).set_ 4 _).set_ 5 _).set_ 6 _).set_ 7 _).set_ 8 _) Tryd.underlying36 rfl rfl) rfl ?_
            refine ⟨A, l.length, c, cc, R, H, nw, cc, A1, N.length, k1, A2, n2, k2, A8, N.length, c8, by rw [He.out]; rfl, (HM2.out.trans Hmw.out fun _ _ e => e).trans hmz fun k hk e => absurd hk (by rw [e]; omega), fun _ => ⟨rfl, rfl, rfl, rfl, rfl, rfl, rfl, rfl, ?_, ?_, ?_⟩⟩
            · have h1 := Tum.Own.mods (Tum.Own.mods HN1.out Hmw.out fun _ _ e => e) hmz fun g hg e => by have := HN1.out.2 g hg; rw [World.size_alloc, World.size_alloc] at this; omega
              rw [← HN.out]
              exact h1.more fun g hg => by rw [World.size_alloc, World.size_alloc] at hg; omega
            · have h1 := Tum.Own.mods (Tum.Own.mods HN2.out Hmw.out fun _ _ e => e) hmz fun g hg e => by have := HN2.out.2 g hg; rw [World.size_alloc, World.size_alloc] at this; omega
              rw [← HN.out]
              exact h1.more fun g hg => by rw [World.size_alloc, World.size_alloc] at hg; omega
            · have hs1 := HM2.out.size
              have hs2 := Hml.out.size
              have h0 := Hin.out.own
              rw [List.take_length] at h0
              have h1 := Tum.Own.mods h0 hmz fun g hg e => by have := h0.2 g hg; omega
              rw [← HN.out]
              exact h1.more fun g hg => by omega
  · have he1 : (e != 0) = true := bne_iff_ne.2 h0
    have He := Lib.hid (show relE l C R H = e by unfold relE; rw [← he, if_pos h0])
    have H0 := Lib.hid h0
    unfold RNewIs at hn
    rw [← he] at hn
    clear he h0 hZ
    have Hhn := Lib.hid hn
    clear hn
    have Hhr := Lib.hid hr
    clear hr
    have HhM0 := Lib.hid hM0
    clear hM0
    go_enter Tryd.func11, Tryd.ntmps11
    go_wp2_with (first | (go_at_call 29; (refine ret_use (Hhn.out) ?_; rintro v w2 hn2; obtain ⟨cc, A1, A2, n1, k1, n2, k2, rfl, hm2, ho2⟩ := hn2; have HM2 := Lib.hid (HhM0.out.trans hm2 fun _ _ e => e); have HBX2 := Lib.hid (HBX.out.mods hm2 fun e => e); have HZ2 := Lib.hid (HZ.out.mods hm2 fun e => e); have zl := HZ2.out.lt; have bl := HBX2.out.lt; have d0 := HBX2.out.at_ 0 rfl; have d1 := HBX2.out.at_ 1 rfl; have d2 := HBX2.out.at_ 2 rfl; have d3 := HBX2.out.at_ 3 rfl; have d4 := HBX2.out.at_ 4 rfl; have z0 := HZ2.out.at_ 0 rfl; have z1 := HZ2.out.at_ 1 rfl; have z2 := HZ2.out.at_ 2 rfl; have z3 := HZ2.out.at_ 3 rfl; have z4 := HZ2.out.at_ 4 rfl; have z5 := HZ2.out.at_ 5 rfl; have z6 := HZ2.out.at_ 6 rfl; have z7 := HZ2.out.at_ 7 rfl; have z8 := HZ2.out.at_ 8 rfl; have f0 := HZ2.out.frozen 0; have f1 := HZ2.out.frozen 1; have f2 := HZ2.out.frozen 2; have f3 := HZ2.out.frozen 3; have f4 := HZ2.out.frozen 4; have f5 := HZ2.out.frozen 5; have f6 := HZ2.out.frozen 6; have f7 := HZ2.out.frozen 7; have f8 := HZ2.out.frozen 8; have HO2 := Lib.hid ho2; clear hm2 ho2)) | ((with_reducible refine wp_region_por ?_ ?_ ?_ ?_); kernel_rfl; kernel_rfl; (with_reducible repeat (first | exact calm_ret | refine calm_then ?_ | refine calm_in ?_ | refine calm_chk ?_ | refine calm_noGoto ?_))) | ((with_reducible refine chk_end ?_ ?_); kernel_rfl))
    refine bodyPost_ret (results_pair rfl _ _ (w.heap.size + 1) 36 _ (0, 0) _ rfl ((((((((((HZ2.out.set_ 0 _).set_ 1 _).set_ 2 _).set_ 3 _).set_ 4 _).set_ 5 _).set_ 6 _).set_ 7 _).set_ 8 _).alloc _) Tryd.underlying36 rfl rfl) rfl ?_
    exact RrNewIs.bad He.out H0.out ((zs_mods HM2.out _ _ _ _ _ _ _ _ _).alloc _)
end Go.Proofs.YtcifajfmdpjfiaaDoor
