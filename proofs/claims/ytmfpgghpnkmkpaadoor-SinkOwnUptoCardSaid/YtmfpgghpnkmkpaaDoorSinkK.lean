/- The reference's sink in memory: what its writes leave. -/
import Derived.Test.YtmfpgghpnkmkpaaDoorSinkI
import Derived.Test.YtmfpgghpnkmkpaaDoorBase2
namespace Go.Proofs.YtmfpgghpnkmkpaaDoor
open Go.RowKit Go.Tum
theorem RefS.more {w : World} {q : Nat} {pv : Value} {s : SinkS} {F G : Nat → Prop} (h : RefS w q pv s F) (hs : ∀ g, g < w.heap.size → F g → G g) : RefS w q pv s G := by
  obtain ⟨col, cv, wv, lv, bvs, hr, hF⟩ := h
  exact ⟨col, cv, wv, lv, bvs, hr, fun g hg hc => hs g hg (hF g hg hc)⟩
theorem RefS.same {w w' : World} {q : Nat} {pv : Value} {s : SinkS} {F : Nat → Prop} (h : RefS w q pv s F) {S : Nat → Prop} (hm : Mods S w w') (hS : ∀ g, g < w.heap.size → S g → ¬ F g) : RefS w' q pv s F := by
  obtain ⟨col, cv, wv, lv, bvs, hr, hF⟩ := h
  have h0 : ∀ g, g < w.heap.size → S g → col g = 0 := fun g hg hs => by
    rcases Nat.eq_zero_or_pos (col g) with h0 | h0
    · exact h0
    · exact absurd (hF g hg (by omega)) (hS g hg hs)
  refine ⟨recol w.heap.size col 0, cv, wv, lv, bvs, ⟨hr.hdr.mods hm fun hs => by have := h0 q hr.hdr.lt hs; rw [hr.colq] at this; omega, by rw [recol_old hr.hdr.lt]; exact hr.colq, hr.rep.keep hm fun g hg hs => by rw [h0 g hg hs]; decide⟩, fun g hg hc => ?_⟩
  rcases Nat.lt_or_ge g w.heap.size with h1 | h1
  · rw [recol_old h1] at hc
    exact hF g h1 hc
  · rw [recol_new h1] at hc
    exact absurd rfl hc
/-- The header's own cells are written. -/
theorem ref_hdr {w w' : World} {q : Nat} {pv : Value} {s s' : SinkS} {F : Nat → Prop} {col : Nat → Nat} {cv wv lv : Value} {bvs : List Value} (hr : RefK w q col pv s cv wv lv bvs) (hF : ∀ g, g < w.heap.size → col g ≠ 0 → F g)
    (hm : Mods (fun g => g = q) w w') (hh : Cells w' q 41 #[pv, cv, wv, lv, .int .i64 s'.writes, .int .i64 s'.last, .bool s'.any]) (h1 : s'.conns = s.conns) (h2 : s'.whole = s.whole) (h3 : s'.lost = s.lost) : RefS w' q pv s' F ∧ Mods F w w' := by
  have hk := hr.rep.keep (L := 0) hm fun g _ e => by rw [e, hr.colq]; decide
  refine ⟨⟨recol w.heap.size col 0, cv, wv, lv, bvs, ⟨hh, by rw [recol_old hr.hdr.lt]; exact hr.colq, ⟨by rw [h1]; exact hk.len, by rw [h1]; exact hk.conns, fun i b c e1 e2 => hk.each i b c e1 (by rw [← h1]; exact e2), by rw [h2]; exact hk.whole, by rw [h3]; exact hk.lost⟩⟩, fun g hg hc => ?_⟩, hm.mono fun g hg e => hF g hg (by rw [e, hr.colq]; decide)⟩
  rcases Nat.lt_or_ge g w.heap.size with h1 | h1
  · rw [recol_old h1] at hc
    exact hF g h1 hc
  · rw [recol_new h1] at hc
    exact absurd rfl hc
theorem conCells_last (bs : List Value) (cs : List ConnS) (b b' : Value) (c : ConnS) (h : bs.length = cs.length) (f : Bool) :
    (conCells (bs ++ [b]) (cs ++ [c])).set (cs.length * 2) b' = conCells (bs ++ [b']) (cs ++ [c]) ∧ (conCells (bs ++ [b]) (cs ++ [c])).set (cs.length * 2 + 1) (.bool f) = conCells (bs ++ [b]) (cs ++ [⟨c.bytes, f⟩]) := by
  have hl := conCells_length bs cs h
  rw [conCells_snoc _ _ _ _ h, conCells_snoc _ _ _ _ h, conCells_snoc _ _ _ _ h]
  constructor
  · rw [List.set_append_right _ _ (by omega), hl, Nat.sub_self]
    rfl
  · rw [List.set_append_right _ _ (by omega), hl, Nat.add_sub_cancel_left]
    rfl
/-- The last connection. -/
theorem ref_last {w : World} {q : Nat} {pv : Value} {s : SinkS} {F : Nat → Prop} {col : Nat → Nat} {cv wv lv : Value} {bvs : List Value} (hr : RefK w q col pv s cv wv lv bvs) (hF : ∀ g, g < w.heap.size → col g ≠ 0 → F g) {base : List ConnS} {c : ConnS} (hs : s.conns = base ++ [c]) :
    ∃ g cp bs bv, cv = .slice (some ⟨g, 0, none⟩) (base.length + 1) cp ∧ base.length + 1 ≤ cp ∧ bvs = bs ++ [bv] ∧ bs.length = base.length ∧ w.cell? ⟨g, base.length * 2, none⟩ = some bv ∧ w.cell? ⟨g, base.length * 2 + 1, none⟩ = some (.bool c.failed) ∧
      Cells w q 41 #[pv, cv, wv, lv, .int .i64 s.writes, .int .i64 s.last, .bool s.any] ∧ Own w (fun k => bv.ownBlock = some k) 5 1 bv c.bytes.length (vbs c.bytes) ∧ (∀ k, bv.ownBlock = some k → F k ∧ k ≠ q ∧ k ≠ g) ∧ g ≠ q ∧ F g ∧ F q ∧ w.frozen? ⟨g, base.length * 2 + 1, none⟩ = false ∧
      (RefS (w.setCell ⟨g, base.length * 2 + 1, none⟩ (.bool true)) q pv { s with conns := base ++ [⟨c.bytes, true⟩] } F ∧ Mods F w (w.setCell ⟨g, base.length * 2 + 1, none⟩ (.bool true))) ∧
      ∀ w1 bv' ys, Own w1 (fun k => bv.ownBlock = some k ∨ k = w.heap.size) 5 1 bv' (c.bytes.length + ys.length) (vbs c.bytes ++ vbs ys) → Mods (fun k => bv.ownBlock = some k) w w1 → (∀ k, bv'.ownBlock = some k → k < w1.heap.size) →
        w1.cell? ⟨g, base.length * 2, none⟩ = some bv ∧ w1.frozen? ⟨g, base.length * 2, none⟩ = false ∧ (∃ col2, RefK (w1.setCell ⟨g, base.length * 2, none⟩ bv') q col2 pv { s with conns := base ++ [⟨c.bytes ++ ys, c.failed⟩] } cv wv lv (bs ++ [bv']) ∧ ∀ k, k < (w1.setCell ⟨g, base.length * 2, none⟩ bv').heap.size → col2 k ≠ 0 → Ext F w.heap.size k) ∧ Mods F w (w1.setCell ⟨g, base.length * 2, none⟩ bv') := by
  have hc := hr.rep.conns
  have hlen := hr.rep.len
  rw [hs] at hc hlen
  simp only [List.length_append, List.length_cons, List.length_nil, Nat.zero_add] at hlen
  obtain ⟨bs, bv, rfl⟩ : ∃ bs bv, bvs = bs ++ [bv] := by
    cases hg : bvs.getLast? with
    | none => rw [List.getLast?_eq_none_iff] at hg; subst hg; simp at hlen
    | some k => obtain ⟨ys, h⟩ := List.getLast?_eq_some_iff.1 hg; exact ⟨ys, k, h⟩
  have hbl : bs.length = base.length := by simpa using hlen
  obtain ⟨g, cp, hcv, hg3, hcp, hx⟩ := hc.cells (by simp)
  simp only [List.length_append, List.length_cons, List.length_nil, Nat.zero_add] at hcv hcp hx
  have hcl := conCells_length bs base hbl
  have hx0 := (hx (base.length * 2) (by omega)).1
  have hx1 := (hx (base.length * 2 + 1) (by omega))
  rw [conCells_snoc _ _ _ _ hbl, List.getElem?_append_right (by omega), hcl, Nat.sub_self] at hx0
  rw [conCells_snoc _ _ _ _ hbl, List.getElem?_append_right (by omega), hcl, Nat.add_sub_cancel_left] at hx1
  have hob := hcv ▸ (show (Value.slice (some ⟨g, 0, none⟩) (base.length + 1) cp).ownBlock = some g from rfl)
  have hlt : g < w.heap.size := hc.lt g hob
  have hFg : F g := hF g hlt (by rw [hg3]; decide)
  have hFq : F q := hF q hr.hdr.lt (by rw [hr.colq]; decide)
  have hgq : g ≠ q := fun e => hc.ne_cells hr.hdr (by decide) (e ▸ hob)
  have hbo := hr.rep.each base.length bv c (by rw [List.getElem?_append_right (by omega), hbl, Nat.sub_self]; rfl) (by rw [hs]; simp)
  have hbk : ∀ k, bv.ownBlock = some k → F k ∧ k ≠ q ∧ k ≠ g := fun k hk => ⟨hF k (hbo.lt k hk) (by rw [hbo.2 k hk]; omega), fun e => by have := hbo.2 k hk; rw [e, hr.colq] at this; omega, fun e => by have := hbo.2 k hk; rw [e, hg3] at this; omega⟩
  refine ⟨g, cp, bs, bv, hcv, hcp, rfl, hbl, hx0, hx1.1, hr.hdr, hbo.tight, hbk, hgq, hFg, hFq, hx1.2, ?_, ?_⟩
  · have hm : Mods (fun k => k = g) w (w.setCell ⟨g, base.length * 2 + 1, none⟩ (.bool true)) := (Mods.refl (fun k => k = g) w).setCell ⟨g, base.length * 2 + 1, none⟩ (.bool true) fun _ => rfl
    have hS : ∀ j, j ≠ 3 → ∀ k, k < w.heap.size → k = g → col k ≠ j := fun j hj k _ e => by rw [e, hg3]; omega
    have hsz : (w.setCell ⟨g, base.length * 2 + 1, none⟩ (.bool true)).heap.size = w.heap.size := by simp [World.setCell]
    refine ⟨⟨recol w.heap.size col 0, cv, wv, lv, bs ++ [bv], ⟨hr.hdr.mods hm fun e => hgq e.symm, by rw [recol_old hr.hdr.lt]; exact hr.colq, ⟨by simp [hbl], ?_, fun i b c' e1 e2 => ?_, hr.rep.whole.keep hm (hS 4 (by decide)), hr.rep.lost.keep hm (hS 5 (by decide))⟩⟩, fun k hk hck => ?_⟩, hm.mono fun k _ e => e ▸ hFg⟩
    · have h1 := hc.set hob (base.length * 2 + 1) (.bool true)
      rw [(conCells_last bs base bv bv c hbl true).2] at h1
      refine ⟨by simpa using h1.1, fun k hk => ?_⟩
      exact (recol_old (hc.lt k hk)).trans (hc.2 k hk)
    · dsimp only at e2
      rcases Nat.lt_or_ge i base.length with hi | hi
      · exact (hr.rep.each i b c' e1 (by rw [hs, List.getElem?_append_left hi]; rwa [List.getElem?_append_left hi] at e2)).keep hm (hS _ (by omega))
      · rw [List.getElem?_append_right hi] at e2
        rw [List.getElem?_append_right (by omega)] at e1
        have hi0 : i - base.length = 0 := by
          rcases Nat.eq_zero_or_pos (i - base.length) with h0 | h0
          · exact h0
          · rw [List.getElem?_eq_none (by simp; omega)] at e2; cases e2
        rw [hi0] at e2
        rw [hbl, hi0] at e1
        simp at e1 e2
        subst e1 e2
        have : i = base.length := by omega
        subst this
        exact hbo.keep hm (hS _ (by omega))
    · rcases Nat.lt_or_ge k w.heap.size with h1 | h1
      · rw [recol_old h1] at hck
        exact hF k h1 hck
      · rw [recol_new h1] at hck
        exact absurd rfl hck
  · intro w1 bv' ys hown hmod hltv
    have hbg : bv.ownBlock ≠ some g := fun e => (hbk g e).2.2 rfl
    have hbq : bv.ownBlock ≠ some q := fun e => (hbk q e).2.1 rfl
    have hc1 : Own w1 (fun k => cv.ownBlock = some k) 54 2 cv (base ++ [c]).length (conCells (bs ++ [bv]) (base ++ [c])) := hc.tight.same (hmod.same fun k hk => ⟨hc.lt k hk, fun e => by have h1 := hc.2 k hk; have h2 := hbo.2 k e; omega⟩)
    obtain ⟨cur, hcur⟩ := hc1.typed g hob
    have hx2 : w1.cell? ⟨g, base.length * 2, none⟩ = some bv := (World.cell?_of_block (a := ⟨g, base.length * 2, none⟩) (hmod.block g hlt hbg)).trans hx0
    have hm : Mods (fun k => k = g ∨ bv.ownBlock = some k) w (w1.setCell ⟨g, base.length * 2, none⟩ bv') := (hmod.mono fun k _ e => .inr e).setCell ⟨g, base.length * 2, none⟩ bv' fun _ => .inl rfl
    have hS : ∀ j, j ≠ 3 → j ≠ 6 + base.length → ∀ k, k < w.heap.size → (k = g ∨ bv.ownBlock = some k) → col k ≠ j := fun j hj hj2 k _ e => by
      rcases e with e | e
      · rw [e, hg3]; omega
      · rw [hbo.2 k e]; omega
    have hnv : ∀ k, bv'.ownBlock = some k → k ≠ g := fun k hk e => hown.ne_cells hcur (by decide) (e ▸ hk)
    refine ⟨hx2, hcur.frozen _, ⟨recol w.heap.size col (6 + base.length), ⟨hr.hdr.mods hm fun e => ?_, by rw [recol_old hr.hdr.lt]; exact hr.colq, ⟨by simp [hbl], ?_, fun i b c' e1 e2 => ?_, hr.rep.whole.keep hm (hS 4 (by decide) (by omega)), hr.rep.lost.keep hm (hS 5 (by decide) (by omega))⟩⟩, fun k hk hck => ?_⟩, hm.mono fun k _ e => ?_⟩
    · rcases e with e | e
      · exact hgq e.symm
      · exact hbq e
    · have h1 := hc1.set hob (base.length * 2) bv'
      rw [(conCells_last bs base bv bv' c hbl true).1] at h1
      have e : conCells (bs ++ [bv']) (base ++ [c]) = conCells (bs ++ [bv']) (base ++ [⟨c.bytes ++ ys, c.failed⟩]) := by rw [conCells_snoc _ _ _ _ hbl, conCells_snoc _ _ _ _ hbl]
      rw [e] at h1
      refine ⟨by simpa using h1.1, fun k hk => ?_⟩
      exact (recol_old (hc.lt k hk)).trans (hc.2 k hk)
    · dsimp only at e2
      rcases Nat.lt_or_ge i base.length with hi | hi
      · rw [List.getElem?_append_left (by omega)] at e1
        rw [List.getElem?_append_left hi] at e2
        exact (hr.rep.each i b c' (by rw [List.getElem?_append_left (by omega)]; exact e1) (by rw [hs, List.getElem?_append_left hi]; exact e2)).keep hm (hS _ (by omega) (by omega))
      · rw [List.getElem?_append_right hi] at e2
        rw [List.getElem?_append_right (by omega)] at e1
        have hi0 : i - base.length = 0 := by
          rcases Nat.eq_zero_or_pos (i - base.length) with h0 | h0
          · exact h0
          · rw [List.getElem?_eq_none (by simp; omega)] at e2; cases e2
        rw [hi0] at e2
        rw [hbl, hi0] at e1
        simp at e1 e2
        subst e1 e2
        have : i = base.length := by omega
        subst this
        have h1 := hown.tight.same (Same.setCell w1 ⟨g, base.length * 2, none⟩ bv' fun e => hnv g e rfl)
        refine ⟨by simpa [vbs] using h1.1, fun k hk => ?_⟩
        rcases hown.2 k hk with e | e
        · rw [recol_old (hbo.lt k e)]; exact hbo.2 k e
        · exact recol_new (by omega)
    · rcases Nat.lt_or_ge k w.heap.size with h1 | h1
      · rw [recol_old h1] at hck
        exact .inl (hF k h1 hck)
      · exact .inr h1
    · rcases e with e | e
      · exact e ▸ hFg
      · exact (hbk k e).1
end Go.Proofs.YtmfpgghpnkmkpaaDoor
