/- Reports: what one is in memory; Ids and Same of the reference. -/
import Derived.Test.YtmfpgghpnkmkpaaDoorSinkF
namespace Go.Proofs.YtmfpgghpnkmkpaaDoor
open Go.RowKit Go.Tum
/-- the cells of a list of connections, their bytes at bvs -/
def conCells : List Value → List ConnS → List Value
  | b :: bs, c :: cs => b :: .bool c.failed :: conCells bs cs
  | _, _ => []
theorem conCells_length : ∀ (bs : List Value) (cs : List ConnS), bs.length = cs.length → (conCells bs cs).length = cs.length * 2
  | [], [], _ => rfl
  | b :: bs, c :: cs, h => by
    have := conCells_length bs cs (by simpa using h)
    simp only [conCells, List.length_cons, this]
    omega
  | [], _ :: _, h => by simp at h
  | _ :: _, [], h => by simp at h
theorem conCells_at : ∀ (bs : List Value) (cs : List ConnS) (i : Nat) (b : Value) (c : ConnS), bs[i]? = some b → cs[i]? = some c → (conCells bs cs)[i * 2]? = some b ∧ (conCells bs cs)[i * 2 + 1]? = some (.bool c.failed)
  | [], _, _, _, _, h, _ => by simp at h
  | _ :: _, [], _, _, _, _, h => by simp at h
  | b :: bs, c :: cs, 0, _, _, h1, h2 => by
    simp at h1 h2
    subst h1
    subst h2
    exact ⟨rfl, rfl⟩
  | b :: bs, c :: cs, i + 1, _, _, h1, h2 => by
    have := conCells_at bs cs i _ _ (by simpa using h1) (by simpa using h2)
    rw [show (i + 1) * 2 = i * 2 + 1 + 1 by omega]
    simpa [conCells] using this
structure RepRd (w : World) (F : Nat → Prop) (s : SinkS) (cv wv lv : Value) (bvs : List Value) : Prop where
  len : bvs.length = s.conns.length
  conns : Rd w F 2 cv s.conns.length (conCells bvs s.conns)
  each : ∀ (i : Nat) (bv : Value) (c : ConnS), bvs[i]? = some bv → s.conns[i]? = some c → Rd w F 1 bv c.bytes.length (vbs c.bytes)
  whole : Rd w F 1 wv s.whole.length (vis s.whole)
  lost : Rd w F 1 lv s.lost.length (vis s.lost)
theorem RepRd.same {w w' : World} {F : Nat → Prop} {s : SinkS} {cv wv lv : Value} {bvs : List Value} (h : RepRd w F s cv wv lv bvs) (hs : Same F w w') : RepRd w' F s cv wv lv bvs :=
  ⟨h.len, h.conns.same hs, fun i b c h1 h2 => (h.each i b c h1 h2).same hs, h.whole.same hs, h.lost.same hs⟩
theorem RepRd.more {w : World} {F G : Nat → Prop} {s : SinkS} {cv wv lv : Value} {bvs : List Value} (h : RepRd w F s cv wv lv bvs) (hs : ∀ g, F g → G g) : RepRd w G s cv wv lv bvs :=
  ⟨h.len, h.conns.more hs, fun i b c h1 h2 => (h.each i b c h1 h2).more hs, h.whole.more hs, h.lost.more hs⟩
/-- Do two reports say the same? -/
def sameRep (a b : SinkS) : Bool := decide (a.writes = b.writes ∧ a.conns = b.conns ∧ a.whole = b.whole ∧ a.lost = b.lost)

/-! ### Ids -/
theorem upto_eq {α : Type} {a b : List α} (hl : a.length = b.length) (h : ∀ j, j < a.length → a[j]? = b[j]?) : a = b := by
  apply List.ext_getElem? 
  intro j
  rcases Nat.lt_or_ge j a.length with hj | hj
  · exact h j hj
  · rw [List.getElem?_eq_none hj, List.getElem?_eq_none (by omega)]
set_option maxHeartbeats 400000 in
set_option maxRecDepth 100000 in
theorem ids_eq (w : World) (F G : Nat → Prop) (va vb : Value) (a b : List Int) (ha : Rd w F 1 va a.length (vis a)) (hb : Rd w G 1 vb b.length (vis b)) (hn : a.length ≤ 1000000000) :
    Calls Tryd.prog 24 #[va, vb] w (Ret fun v w' => v = .bool (decide (a = b)) ∧ ∃ d, w' = w.drewN d) := by
  obtain ⟨A, ca, rfl, hca, _⟩ := ha.form
  obtain ⟨B, cb, rfl, hcb, _⟩ := hb.form
  by_cases hlen : a.length = b.length
  · have hne : ((a.length : Int) != b.length) = false := by rw [bne, natInt_beq]; simp [hlen]
    have Hha := Lib.hid ha
    clear ha
    have Hhb := Lib.hid hb
    clear hb
    have Hhlen := Lib.hid hlen
    clear hlen
    go_enter Tryd.func24, Tryd.ntmps24
    go_wp2
    go_loopg [5] (a.length + 1) (fun k v5 wr => ∃ i d, v5 = .int .i64 (i : Nat) ∧ k + i = a.length + 1 ∧ i ≤ a.length ∧ (∀ j, j < i → a[j]? = b[j]?) ∧ wr = w.drewN d)
    case atStart => exact ⟨0, 0, rfl, rfl, Nat.zero_le _, fun j hj => by omega, rfl⟩
    case round =>
      obtain ⟨i, d, rfl, hk, hi, hpre, rfl⟩ := hrel
      have Hhpre := Lib.hid hpre
      clear hpre
      rcases Nat.lt_or_ge i a.length with hlt | hge
      · have hlt' : decide (i < a.length) = true := decide_eq_true hlt
        obtain ⟨g1, o1, c1, e1, _, h1⟩ := Hha.out.at1 (i := i) hlt
        have hlen := Hhlen.out
        obtain ⟨g2, o2, c2, e2, _, h2⟩ := Hhb.out.at1 (i := i) (by omega)
        injection e1 with e1 _ e1'
        injection e2 with e2 _ e2'
        subst e1 e1' e2 e2'
        obtain ⟨x, hx⟩ : ∃ x, a[i]? = some x := ⟨_, List.getElem?_eq_getElem hlt⟩
        obtain ⟨y, hy⟩ : ∃ y, b[i]? = some y := ⟨_, List.getElem?_eq_getElem (by omega)⟩
        have hltb : i < b.length := by omega
        clear hlen
        have h1' : w.cell? ⟨g1, o1 + i, none⟩ = some (.int .i64 x) := by rw [h1]; simp [vis, hx]
        have h2' : w.cell? ⟨g2, o2 + i, none⟩ = some (.int .i64 y) := by rw [h2]; simp [vis, hy]
        clear h1 h2
        by_cases hxy : x = y
        · have hxy' : (x != y) = false := by simp [hxy]
          go_wp2_with (first | ((with_reducible refine wp_region_por ?_ ?_ ?_ ?_); kernel_rfl; kernel_rfl; (with_reducible repeat (first | exact calm_ret | refine calm_then ?_ | refine calm_in ?_ | refine calm_chk ?_ | refine calm_noGoto ?_))) | ((with_reducible refine chk_end ?_ ?_); kernel_rfl))
          go_roundg (a.length - i)
          case rel =>
            refine ⟨i + 1, d + 1, by go_num, by omega, by omega, fun j hj => ?_, rfl⟩
            rcases Nat.lt_or_ge j i with h | h
            · exact Hhpre.out j h
            · have : j = i := by omega
              subst this
              rw [hx, hy, hxy]
          case measure => omega
        · have hxy' : (x != y) = true := by simp [hxy]
          go_wp2_with (first | ((with_reducible refine wp_region_por ?_ ?_ ?_ ?_); kernel_rfl; kernel_rfl; (with_reducible repeat (first | exact calm_ret | refine calm_then ?_ | refine calm_in ?_ | refine calm_chk ?_ | refine calm_noGoto ?_))) | ((with_reducible refine chk_end ?_ ?_); kernel_rfl))
          go_ret
          refine ⟨?_, d + 1, rfl⟩
          rw [decide_eq_false fun e => hxy (by subst e; rw [hx] at hy; injection hy)]
          rfl
      · have hlt' : decide (i < a.length) = false := decide_eq_false (by omega)
        go_wp2_with (first | ((with_reducible refine wp_region_por ?_ ?_ ?_ ?_); kernel_rfl; kernel_rfl; (with_reducible repeat (first | exact calm_ret | refine calm_then ?_ | refine calm_in ?_ | refine calm_chk ?_ | refine calm_noGoto ?_))) | ((with_reducible refine chk_end ?_ ?_); kernel_rfl))
        go_ret
        refine ⟨?_, d, rfl⟩
        rw [decide_eq_true (upto_eq Hhlen.out fun j hj => Hhpre.out j (by omega))]
        rfl
  · have hne : ((a.length : Int) != b.length) = true := by rw [bne, natInt_beq]; simp [hlen]
    have Hha := Lib.hid ha
    clear ha
    have Hhb := Lib.hid hb
    clear hb
    go_enter Tryd.func24, Tryd.ntmps24
    go_wp2
    go_ret
    refine ⟨?_, 0, rfl⟩
    rw [decide_eq_false fun e => hlen (by rw [e])]
    rfl

/-! ### Same -/
set_option maxHeartbeats 1000000 in
set_option maxRecDepth 100000 in
theorem same_eq (w : World) (F G : Nat → Prop) (ca wa la cb wb lb : Value) (ba bb : List Value) (a b : SinkS) (ha : RepRd w F a ca wa la ba) (hb : RepRd w G b cb wb lb bb) (hF : ∀ g, F g → g < w.heap.size) (hG : ∀ g, G g → g < w.heap.size)
    (n1 : a.conns.length ≤ 1000000000) (n2 : a.whole.length ≤ 1000000000) (n3 : a.lost.length ≤ 1000000000) :
    Calls Tryd.prog 14 #[.agg #[ca, wa, la, .int .i64 a.writes], .agg #[cb, wb, lb, .int .i64 b.writes]] w (Ret fun v w' => v = .bool (sameRep a b) ∧ Mods No w w') := by
  obtain ⟨A, c1, rfl, hc1, _⟩ := ha.conns.form
  obtain ⟨A2, c2, rfl, hc2, _⟩ := ha.whole.form
  obtain ⟨A3, c3, rfl, hc3, _⟩ := ha.lost.form
  obtain ⟨B, d1, rfl, hd1, _⟩ := hb.conns.form
  obtain ⟨B2, d2, rfl, hd2, _⟩ := hb.whole.form
  obtain ⟨B3, d3, rfl, hd3, _⟩ := hb.lost.form
  obtain ⟨w2, hw2⟩ : ∃ w2, w2 = (w.alloc (.cells #[.slice A a.conns.length c1, .slice A2 a.whole.length c2, .slice A3 a.lost.length c3, .int .i64 a.writes] 38)).alloc (.cells #[.slice B b.conns.length d1, .slice B2 b.whole.length d2, .slice B3 b.lost.length d3, .int .i64 b.writes] 38) := ⟨_, rfl⟩
  have sF : Same F w w2 := by rw [hw2]; exact (Same.alloc w _ hF).trans (Same.alloc _ _ fun k hk => by have := hF k hk; simp; omega)
  have sG : Same G w w2 := by rw [hw2]; exact (Same.alloc w _ hG).trans (Same.alloc _ _ fun k hk => by have := hG k hk; simp; omega)
  have hids1 := ids_eq w2 F G _ _ a.whole b.whole (ha.whole.same sF) (hb.whole.same sG) n2
  have hids2 := fun d => ids_eq (w2.drewN d) F G _ _ a.lost b.lost ((ha.lost.same sF).same (Same.drewN _ _ d)) ((hb.lost.same sG).same (Same.drewN _ _ d)) n3
  have hM : Mods No w w2 := by rw [hw2]; exact ((Mods.refl No w).alloc _).alloc _
  have ha2 := ha.same sF
  have hb2 := hb.same sG
  have Hha := Lib.hid ha
  clear ha
  have Hhb := Lib.hid hb
  clear hb
  have HhF := Lib.hid hF
  clear hF
  have HhG := Lib.hid hG
  clear hG
  have HsF := Lib.hid sF
  clear sF
  have HsG := Lib.hid sG
  clear sG
  have Hhids1 := Lib.hid hids1
  clear hids1
  have Hhids2 := Lib.hid hids2
  clear hids2
  have HhM := Lib.hid hM
  clear hM
  have Hha2 := Lib.hid ha2
  clear ha2
  have Hhb2 := Lib.hid hb2
  clear hb2
  have hNo : sameRep a b = decide (a.writes = b.writes ∧ a.conns = b.conns ∧ a.whole = b.whole ∧ a.lost = b.lost) := rfl
  generalize sameRep a b = sv at hNo ⊢
  have HhNo := Lib.hid hNo
  clear hNo
  go_enter Tryd.func14, Tryd.ntmps14
  by_cases q1 : a.writes = b.writes
  case neg =>
    have r1 : ((a.writes : Int) != b.writes) = true := by rw [bne, natInt_beq]; simp [q1]
    have Hq1 := Lib.hid q1
    clear q1
    go_wp2_with (first | ((with_reducible refine wp_region_por ?_ ?_ ?_ ?_); kernel_rfl; kernel_rfl; (with_reducible repeat (first | exact calm_ret | refine calm_then ?_ | refine calm_in ?_ | refine calm_chk ?_ | refine calm_noGoto ?_))) | ((with_reducible refine chk_end ?_ ?_); kernel_rfl))
    go_ret
    refine ⟨?_, (by have := HhM.out; rwa [hw2] at this)⟩
    have hNo := HhNo.out
    rw [hNo, decide_eq_false]
    · rfl
    · exact fun e => Hq1.out e.1
  have r1 : ((a.writes : Int) != b.writes) = false := by rw [bne, natInt_beq]; simp [q1]
  have Hq1 := Lib.hid q1
  clear q1
  by_cases q2 : a.conns.length = b.conns.length
  case neg =>
    have r2 : ((a.conns.length : Int) != b.conns.length) = true := by rw [bne, natInt_beq]; simp [q2]
    have Hq2 := Lib.hid q2
    clear q2
    go_wp2_with (first | ((with_reducible refine wp_region_por ?_ ?_ ?_ ?_); kernel_rfl; kernel_rfl; (with_reducible repeat (first | exact calm_ret | refine calm_then ?_ | refine calm_in ?_ | refine calm_chk ?_ | refine calm_noGoto ?_))) | ((with_reducible refine chk_end ?_ ?_); kernel_rfl))
    go_ret
    refine ⟨?_, (by have := HhM.out; rwa [hw2] at this)⟩
    have hNo := HhNo.out
    rw [hNo, decide_eq_false]
    · rfl
    · exact fun e => Hq2.out (by rw [e.2.1])
  have r2 : ((a.conns.length : Int) != b.conns.length) = false := by rw [bne, natInt_beq]; simp [q2]
  have Hq2 := Lib.hid q2
  clear q2
  rw [hw2] at Hhids1 Hhids2 HhM
  by_cases q3 : a.whole = b.whole
  case neg =>
    have r3 : decide (a.whole = b.whole) = false := decide_eq_false q3
    have Hq3 := Lib.hid q3
    clear q3
    go_wp2_with (first | (go_at_call 24; (refine ret_use (Hhids1.out) ?_; rintro v _ ⟨rfl, d, rfl⟩)) | ((with_reducible refine wp_region_por ?_ ?_ ?_ ?_); kernel_rfl; kernel_rfl; (with_reducible repeat (first | exact calm_ret | refine calm_then ?_ | refine calm_in ?_ | refine calm_chk ?_ | refine calm_noGoto ?_))) | ((with_reducible refine chk_end ?_ ?_); kernel_rfl))
    go_ret
    refine ⟨?_, (by exact HhM.out.drewN d)⟩
    have hNo := HhNo.out
    rw [hNo, decide_eq_false]
    · rfl
    · exact fun e => Hq3.out e.2.2.1
  have r3 : decide (a.whole = b.whole) = true := decide_eq_true q3
  have Hq3 := Lib.hid q3
  clear q3
  by_cases q4 : a.lost = b.lost
  case neg =>
    have r4 : decide (a.lost = b.lost) = false := decide_eq_false q4
    have Hq4 := Lib.hid q4
    clear q4
    go_wp2_with (first | (go_at_call 24; (refine ret_use ((Hhids2.out d)) ?_; rintro v _ ⟨rfl, d', rfl⟩)) | (go_at_call 24; (refine ret_use (Hhids1.out) ?_; rintro v _ ⟨rfl, d, rfl⟩)) | ((with_reducible refine wp_region_por ?_ ?_ ?_ ?_); kernel_rfl; kernel_rfl; (with_reducible repeat (first | exact calm_ret | refine calm_then ?_ | refine calm_in ?_ | refine calm_chk ?_ | refine calm_noGoto ?_))) | ((with_reducible refine chk_end ?_ ?_); kernel_rfl))
    go_ret
    refine ⟨?_, (by exact HhM.out.drewN (d + d'))⟩
    have hNo := HhNo.out
    rw [hNo, decide_eq_false]
    · rfl
    · exact fun e => Hq4.out e.2.2.2
  have r4 : decide (a.lost = b.lost) = true := decide_eq_true q4
  have Hq4 := Lib.hid q4
  clear q4
  go_wp2_with (first | (go_at_call 24; (refine ret_use ((Hhids2.out d)) ?_; rintro v _ ⟨rfl, d', rfl⟩)) | (go_at_call 24; (refine ret_use (Hhids1.out) ?_; rintro v _ ⟨rfl, d, rfl⟩)) | ((with_reducible refine wp_region_por ?_ ?_ ?_ ?_); kernel_rfl; kernel_rfl; (with_reducible repeat (first | exact calm_ret | refine calm_then ?_ | refine calm_in ?_ | refine calm_chk ?_ | refine calm_noGoto ?_))) | ((with_reducible refine chk_end ?_ ?_); kernel_rfl))
  go_loopg [5] (a.conns.length + 1) (fun k v5 wr => ∃ i e, v5 = .int .i64 (i : Nat) ∧ k + i = a.conns.length + 1 ∧ i ≤ a.conns.length ∧ (∀ j, j < i → a.conns[j]? = b.conns[j]?) ∧ wr = w2.drewN e)
  case atStart =>
    exact ⟨0, d + d', rfl, rfl, Nat.zero_le _, fun j hj => by omega, by rw [hw2]⟩
  case round =>
    obtain ⟨i, d, rfl, hk, hi, hpre, rfl⟩ := hrel
    have Hhpre := Lib.hid hpre
    clear hpre
    rw [← hw2] at HhM
    have bA : w2.cell? ⟨w.heap.size, 0, none⟩ = some (.slice A a.conns.length c1) := by rw [hw2]; exact ((Cells.new w _ _).alloc _).at_ 0 (by simp)
    have bB : w2.cell? ⟨w.heap.size + 1, 0, none⟩ = some (.slice B b.conns.length d1) := by
      rw [hw2]
      simp
    clear hw2
    rcases Nat.lt_or_ge i a.conns.length with hlt | hge
    · have hlt' : decide (i < a.conns.length) = true := decide_eq_true hlt
      have hltb : i < b.conns.length := by rw [← Hq2.out]; exact hlt
      have ha3 := Hha2.out
      have hb3 := Hhb2.out
      obtain ⟨g1, o1, cc1, e1, _, h1⟩ := ha3.conns.cells (by omega)
      obtain ⟨g2, o2, cc2, e2, _, h2⟩ := hb3.conns.cells (by omega)
      injection e1 with e1 _ e1'
      injection e2 with e2 _ e2'
      subst e1 e1' e2 e2'
      obtain ⟨⟨xb, xf⟩, hx⟩ : ∃ x, a.conns[i]? = some x := ⟨_, List.getElem?_eq_getElem hlt⟩
      obtain ⟨⟨yb, yf⟩, hy⟩ : ∃ y, b.conns[i]? = some y := ⟨_, List.getElem?_eq_getElem hltb⟩
      obtain ⟨v1, hv1⟩ : ∃ v, ba[i]? = some v := ⟨_, List.getElem?_eq_getElem (by rw [ha3.len]; exact hlt)⟩
      obtain ⟨v2, hv2⟩ : ∃ v, bb[i]? = some v := ⟨_, List.getElem?_eq_getElem (by rw [hb3.len]; exact hltb)⟩
      have s1 := (h1 (i * 2) (by omega)).trans (conCells_at _ _ _ _ _ hv1 hx).1
      have s2 := (h1 (i * 2 + 1) (by omega)).trans (conCells_at _ _ _ _ _ hv1 hx).2
      have s3 := (h2 (i * 2) (by omega)).trans (conCells_at _ _ _ _ _ hv2 hy).1
      have s4 := (h2 (i * 2 + 1) (by omega)).trans (conCells_at _ _ _ _ _ hv2 hy).2
      have v1r := ha3.each i v1 _ hv1 hx
      have v2r := hb3.each i v2 _ hv2 hy
      dsimp only at v1r v2r s2 s4
      rw [← Nat.add_assoc] at s2 s4
      clear h1 h2
      have k1 := fun d => run_convert_rd (P := Tryd.prog) _ 30 9 5 Tryd.underlying30 Tryd.underlying5 Tryd.underlying9 (v1r.same (Same.drewN _ _ d))
      have k2 := fun d => run_convert_rd (P := Tryd.prog) _ 30 9 5 Tryd.underlying30 Tryd.underlying5 Tryd.underlying9 (v2r.same (Same.drewN _ _ d))
      have hst := string_ne xb yb
      generalize ByteArray.mk xb.toArray = sx at k1 hst
      generalize ByteArray.mk yb.toArray = sy at k2 hst
      obtain ⟨a1, z1, rfl, _⟩ := v1r.form
      obtain ⟨a2, z2, rfl, _⟩ := v2r.form
      have Hha3 := Lib.hid ha3
      clear ha3
      have Hhb3 := Lib.hid hb3
      clear hb3
      have Hv1r := Lib.hid v1r
      clear v1r
      have Hv2r := Lib.hid v2r
      clear v2r
      have Hhx := Lib.hid hx
      clear hx
      have Hhy := Lib.hid hy
      clear hy
      have Hhv1 := Lib.hid hv1
      clear hv1
      have Hhv2 := Lib.hid hv2
      clear hv2
      by_cases hbb : xb = yb
      · rw [decide_eq_true hbb] at hst
        have Hhbb := Lib.hid hbb
        clear hbb
        cases xf <;> cases yf
        · skip
          go_wp2_with (first | ((with_reducible refine wp_region_por ?_ ?_ ?_ ?_); kernel_rfl; kernel_rfl; (with_reducible repeat (first | exact calm_ret | refine calm_then ?_ | refine calm_in ?_ | refine calm_chk ?_ | refine calm_noGoto ?_))) | ((with_reducible refine chk_end ?_ ?_); kernel_rfl))
          go_roundg (a.conns.length - i)
          case rel =>
            refine ⟨i + 1, _, by go_num, by omega, by omega, fun j hj => ?_, rfl⟩
            rcases Nat.lt_or_ge j i with h | h
            · exact Hhpre.out j h
            · have : j = i := by omega
              subst this
              rw [Hhx.out, Hhy.out, Hhbb.out]
          case measure => omega
        · skip
          go_wp2_with (first | ((with_reducible refine wp_region_por ?_ ?_ ?_ ?_); kernel_rfl; kernel_rfl; (with_reducible repeat (first | exact calm_ret | refine calm_then ?_ | refine calm_in ?_ | refine calm_chk ?_ | refine calm_noGoto ?_))) | ((with_reducible refine chk_end ?_ ?_); kernel_rfl))
          go_ret
          refine ⟨?_, by exact HhM.out.drewN _⟩
          have hNo := HhNo.out
          rw [hNo, decide_eq_false fun e => by
            have e1 := Hhx.out
            have e2 := Hhbb.out
            rw [e.2.1, Hhy.out] at e1
            injection e1 with e1
            injection e1 with e3 e4
            first
            | exact e2 e3.symm
            | cases e4]
          rfl
        · skip
          go_wp2_with (first | ((with_reducible refine wp_region_por ?_ ?_ ?_ ?_); kernel_rfl; kernel_rfl; (with_reducible repeat (first | exact calm_ret | refine calm_then ?_ | refine calm_in ?_ | refine calm_chk ?_ | refine calm_noGoto ?_))) | ((with_reducible refine chk_end ?_ ?_); kernel_rfl))
          go_ret
          refine ⟨?_, by exact HhM.out.drewN _⟩
          have hNo := HhNo.out
          rw [hNo, decide_eq_false fun e => by
            have e1 := Hhx.out
            have e2 := Hhbb.out
            rw [e.2.1, Hhy.out] at e1
            injection e1 with e1
            injection e1 with e3 e4
            first
            | exact e2 e3.symm
            | cases e4]
          rfl
        · skip
          go_wp2_with (first | ((with_reducible refine wp_region_por ?_ ?_ ?_ ?_); kernel_rfl; kernel_rfl; (with_reducible repeat (first | exact calm_ret | refine calm_then ?_ | refine calm_in ?_ | refine calm_chk ?_ | refine calm_noGoto ?_))) | ((with_reducible refine chk_end ?_ ?_); kernel_rfl))
          go_roundg (a.conns.length - i)
          case rel =>
            refine ⟨i + 1, _, by go_num, by omega, by omega, fun j hj => ?_, rfl⟩
            rcases Nat.lt_or_ge j i with h | h
            · exact Hhpre.out j h
            · have : j = i := by omega
              subst this
              rw [Hhx.out, Hhy.out, Hhbb.out]
          case measure => omega
      · rw [decide_eq_false hbb] at hst
        have Hhbb := Lib.hid hbb
        clear hbb
        cases xf <;> cases yf
        · skip
          go_wp2_with (first | ((with_reducible refine wp_region_por ?_ ?_ ?_ ?_); kernel_rfl; kernel_rfl; (with_reducible repeat (first | exact calm_ret | refine calm_then ?_ | refine calm_in ?_ | refine calm_chk ?_ | refine calm_noGoto ?_))) | ((with_reducible refine chk_end ?_ ?_); kernel_rfl))
          go_ret
          refine ⟨?_, by exact HhM.out.drewN _⟩
          have hNo := HhNo.out
          rw [hNo, decide_eq_false fun e => by
            have e1 := Hhx.out
            have e2 := Hhbb.out
            rw [e.2.1, Hhy.out] at e1
            injection e1 with e1
            injection e1 with e3 e4
            first
            | exact e2 e3.symm
            | cases e4]
          rfl
        · skip
          go_wp2_with (first | ((with_reducible refine wp_region_por ?_ ?_ ?_ ?_); kernel_rfl; kernel_rfl; (with_reducible repeat (first | exact calm_ret | refine calm_then ?_ | refine calm_in ?_ | refine calm_chk ?_ | refine calm_noGoto ?_))) | ((with_reducible refine chk_end ?_ ?_); kernel_rfl))
          go_ret
          refine ⟨?_, by exact HhM.out.drewN _⟩
          have hNo := HhNo.out
          rw [hNo, decide_eq_false fun e => by
            have e1 := Hhx.out
            have e2 := Hhbb.out
            rw [e.2.1, Hhy.out] at e1
            injection e1 with e1
            injection e1 with e3 e4
            first
            | exact e2 e3.symm
            | cases e4]
          rfl
        · skip
          go_wp2_with (first | ((with_reducible refine wp_region_por ?_ ?_ ?_ ?_); kernel_rfl; kernel_rfl; (with_reducible repeat (first | exact calm_ret | refine calm_then ?_ | refine calm_in ?_ | refine calm_chk ?_ | refine calm_noGoto ?_))) | ((with_reducible refine chk_end ?_ ?_); kernel_rfl))
          go_ret
          refine ⟨?_, by exact HhM.out.drewN _⟩
          have hNo := HhNo.out
          rw [hNo, decide_eq_false fun e => by
            have e1 := Hhx.out
            have e2 := Hhbb.out
            rw [e.2.1, Hhy.out] at e1
            injection e1 with e1
            injection e1 with e3 e4
            first
            | exact e2 e3.symm
            | cases e4]
          rfl
        · skip
          go_wp2_with (first | ((with_reducible refine wp_region_por ?_ ?_ ?_ ?_); kernel_rfl; kernel_rfl; (with_reducible repeat (first | exact calm_ret | refine calm_then ?_ | refine calm_in ?_ | refine calm_chk ?_ | refine calm_noGoto ?_))) | ((with_reducible refine chk_end ?_ ?_); kernel_rfl))
          go_ret
          refine ⟨?_, by exact HhM.out.drewN _⟩
          have hNo := HhNo.out
          rw [hNo, decide_eq_false fun e => by
            have e1 := Hhx.out
            have e2 := Hhbb.out
            rw [e.2.1, Hhy.out] at e1
            injection e1 with e1
            injection e1 with e3 e4
            first
            | exact e2 e3.symm
            | cases e4]
          rfl
    · have hlt' : decide (i < a.conns.length) = false := decide_eq_false (by omega)
      go_wp2_with (first | ((with_reducible refine wp_region_por ?_ ?_ ?_ ?_); kernel_rfl; kernel_rfl; (with_reducible repeat (first | exact calm_ret | refine calm_then ?_ | refine calm_in ?_ | refine calm_chk ?_ | refine calm_noGoto ?_))) | ((with_reducible refine chk_end ?_ ?_); kernel_rfl))
      go_ret
      refine ⟨?_, by exact HhM.out.drewN _⟩
      have hNo := HhNo.out
      rw [hNo, decide_eq_true ⟨Hq1.out, upto_eq Hq2.out fun j hj => Hhpre.out j (by omega), Hq3.out, Hq4.out⟩]
      rfl
end Go.Proofs.YtmfpgghpnkmkpaaDoor
