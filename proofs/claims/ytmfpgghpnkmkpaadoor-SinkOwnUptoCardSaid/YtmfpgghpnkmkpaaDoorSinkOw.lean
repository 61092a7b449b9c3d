/- Reports that their owner writes into: what stays so. -/
import Derived.Test.YtmfpgghpnkmkpaaDoorSinkX
namespace Go.Proofs.YtmfpgghpnkmkpaaDoor
open Go.RowKit Go.Tum
structure Junk (w : World) (J0 kd : Nat) (col : Nat → Nat) (s : SinkS) (cv wv lv : Value) (bvs : List Value) : Prop where
  box : Cells w kd 38 #[cv, wv, lv, .int .i64 s.writes]
  colk : col kd = 1
  rep : RepK w col s cv wv lv bvs
  new : ∀ g, col g ≠ 0 → J0 ≤ g
/-- no list longer than M -/
structure Sz (s : SinkS) (nc M : Nat) : Prop where
  conns : s.conns.length = nc
  whole : s.whole.length ≤ M
  lost : s.lost.length ≤ M
  each : ∀ c ∈ s.conns, c.bytes.length ≤ M
theorem conCells_set : ∀ (bs : List Value) (cs : List ConnS) (k : Nat) (c d : ConnS), cs[k]? = some c → d.failed = c.failed → conCells bs (cs.set k d) = conCells bs cs
  | [], _, _, _, _, _, _ => by simp [conCells]
  | _ :: _, [], _, _, _, h, _ => by simp at h
  | b :: bs, x :: cs, 0, c, d, h, e => by
    simp at h
    subst h
    simp [conCells, e]
  | b :: bs, x :: cs, k + 1, c, d, h, e => by
    have := conCells_set bs cs k c d (by simpa using h) e
    simp [conCells, this]
theorem Junk.byte {w : World} {J0 kd : Nat} {col : Nat → Nat} {s : SinkS} {cv wv lv : Value} {bvs : List Value} (h : Junk w J0 kd col s cv wv lv bvs) {k j : Nat} {c : ConnS} {bv : Value} (hk : s.conns[k]? = some c) (hb : bvs[k]? = some bv) (hj : j < c.bytes.length) :
    ∃ gb cb x, bv = .slice (some ⟨gb, 0, none⟩) c.bytes.length cb ∧ w.cell? ⟨gb, j, none⟩ = some x ∧ w.frozen? ⟨gb, j, none⟩ = false ∧ J0 ≤ gb ∧
      Junk (w.setCell ⟨gb, j, none⟩ (.int .u8 63)) J0 kd col { s with conns := s.conns.set k { c with bytes := c.bytes.set j 63 } } cv wv lv bvs := by
  have hbo := h.rep.each k bv c hb hk
  obtain ⟨gb, cb, rfl, hg, hn, hcell⟩ := hbo.cells (by omega)
  have hx := hcell j (by omega)
  have hgb : (Value.slice (some ⟨gb, 0, none⟩) c.bytes.length cb).ownBlock = some gb := rfl
  have hsm : ∀ L, L ≠ 6 + k → Same (fun g => col g = L) w (w.setCell ⟨gb, j, none⟩ (.int .u8 63)) := fun L hL => Same.setCell w ⟨gb, j, none⟩ _ fun e => hL (e.symm.trans hg)
  have hkb : kd ≠ gb := fun e => by rw [e] at h; have := h.colk; rw [hg] at this; omega
  refine ⟨gb, cb, vb (c.bytes[j]'hj), rfl, by rw [hx.1]; simp [vbs, hj], hx.2, h.new gb (by rw [hg]; omega), h.box.far (p := ⟨gb, j, none⟩) hkb _, h.colk, ⟨by simpa using h.rep.len, ?_, fun i b d h1 h2 => ?_, h.rep.whole.same (hsm 4 (by omega)), h.rep.lost.same (hsm 5 (by omega))⟩, h.new⟩
  · have := h.rep.conns.same (hsm 3 (by omega))
    rw [← conCells_set bvs s.conns k c { c with bytes := c.bytes.set j 63 } hk rfl] at this
    simpa using this
  · dsimp only at h2
    rw [List.getElem?_set] at h2
    by_cases e : k = i
    · subst e
      rw [if_pos rfl] at h2
      split at h2
      · injection h2 with h2
        subst h2
        rw [hb] at h1
        injection h1 with h1
        subst h1
        have := hbo.set hgb j (.int .u8 63)
        have e2 : (vbs c.bytes).set j (.int .u8 63) = vbs (c.bytes.set j 63) := by
          simp only [vbs, List.map_set]
          rfl
        rw [e2] at this
        simpa using this
      · cases h2
    · rw [if_neg e] at h2
      exact (h.rep.each i b d h1 h2).same (hsm (6 + i) (by omega))
theorem Junk.whole {w : World} {J0 kd : Nat} {col : Nat → Nat} {s : SinkS} {cv wv lv : Value} {bvs : List Value} (h : Junk w J0 kd col s cv wv lv bvs) {j : Nat} (hj : j < s.whole.length) :
    ∃ gb cb x, wv = .slice (some ⟨gb, 0, none⟩) s.whole.length cb ∧ w.cell? ⟨gb, j, none⟩ = some x ∧ w.frozen? ⟨gb, j, none⟩ = false ∧ J0 ≤ gb ∧
      Junk (w.setCell ⟨gb, j, none⟩ (.int .i64 (-1))) J0 kd col { s with whole := s.whole.set j (-1) } cv wv lv bvs := by
  have hbo := h.rep.whole
  obtain ⟨gb, cb, e, hg, hn, hcell⟩ := hbo.cells (by omega)
  have hx := hcell j (by omega)
  have hgb : wv.ownBlock = some gb := by rw [e]; rfl
  have hsm : ∀ L, L ≠ 4 → Same (fun g => col g = L) w (w.setCell ⟨gb, j, none⟩ (.int .i64 (-1))) := fun L hL => Same.setCell w ⟨gb, j, none⟩ _ fun e => hL (e.symm.trans hg)
  have hkb : kd ≠ gb := fun e => by rw [e] at h; have := h.colk; rw [hg] at this; omega
  refine ⟨gb, cb, .int .i64 (s.whole[j]'hj), e, by rw [hx.1]; simp [vis, hj], hx.2, h.new gb (by rw [hg]; omega), h.box.far (p := ⟨gb, j, none⟩) hkb _, h.colk, ⟨h.rep.len, h.rep.conns.same (hsm 3 (by omega)), fun i b d h1 h2 => (h.rep.each i b d h1 h2).same (hsm (6 + i) (by omega)), ?_, h.rep.lost.same (hsm 5 (by omega))⟩, h.new⟩
  have := hbo.set hgb j (.int .i64 (-1))
  have e2 : (vis s.whole).set j (.int .i64 (-1)) = vis (s.whole.set j (-1)) := by simp only [vis, List.map_set]
  rw [e2] at this
  simpa using this
theorem Junk.lost {w : World} {J0 kd : Nat} {col : Nat → Nat} {s : SinkS} {cv wv lv : Value} {bvs : List Value} (h : Junk w J0 kd col s cv wv lv bvs) {j : Nat} (hj : j < s.lost.length) :
    ∃ gb cb x, lv = .slice (some ⟨gb, 0, none⟩) s.lost.length cb ∧ w.cell? ⟨gb, j, none⟩ = some x ∧ w.frozen? ⟨gb, j, none⟩ = false ∧ J0 ≤ gb ∧
      Junk (w.setCell ⟨gb, j, none⟩ (.int .i64 (-1))) J0 kd col { s with lost := s.lost.set j (-1) } cv wv lv bvs := by
  have hbo := h.rep.lost
  obtain ⟨gb, cb, e, hg, hn, hcell⟩ := hbo.cells (by omega)
  have hx := hcell j (by omega)
  have hgb : lv.ownBlock = some gb := by rw [e]; rfl
  have hsm : ∀ L, L ≠ 5 → Same (fun g => col g = L) w (w.setCell ⟨gb, j, none⟩ (.int .i64 (-1))) := fun L hL => Same.setCell w ⟨gb, j, none⟩ _ fun e => hL (e.symm.trans hg)
  have hkb : kd ≠ gb := fun e => by rw [e] at h; have := h.colk; rw [hg] at this; omega
  refine ⟨gb, cb, .int .i64 (s.lost[j]'hj), e, by rw [hx.1]; simp [vis, hj], hx.2, h.new gb (by rw [hg]; omega), h.box.far (p := ⟨gb, j, none⟩) hkb _, h.colk, ⟨h.rep.len, h.rep.conns.same (hsm 3 (by omega)), fun i b d h1 h2 => (h.rep.each i b d h1 h2).same (hsm (6 + i) (by omega)), h.rep.whole.same (hsm 4 (by omega)), ?_⟩, h.new⟩
  have := hbo.set hgb j (.int .i64 (-1))
  have e2 : (vis s.lost).set j (.int .i64 (-1)) = vis (s.lost.set j (-1)) := by simp only [vis, List.map_set]
  rw [e2] at this
  simpa using this
end Go.Proofs.YtmfpgghpnkmkpaaDoor
