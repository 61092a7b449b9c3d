/- Reports that their owner appends to: what stays so. -/
import Derived.Test.YtmfpgghpnkmkpaaDoorSinkOw
namespace Go.Proofs.YtmfpgghpnkmkpaaDoor
open Go.RowKit Go.Tum
theorem conCells_put : ∀ (bs : List Value) (cs : List ConnS) (k : Nat) (c d : ConnS) (u v : Value), bs[k]? = some u → cs[k]? = some c → d.failed = c.failed → conCells (bs.set k v) (cs.set k d) = (conCells bs cs).set (k * 2) v
  | [], _, _, _, _, _, _, h, _, _ => by simp at h
  | _ :: _, [], _, _, _, _, _, _, h, _ => by simp at h
  | b :: bs, x :: cs, 0, c, d, u, v, _, h, e => by
    simp at h
    subst h
    simp [conCells, e]
  | b :: bs, x :: cs, k + 1, c, d, u, v, h1, h, e => by
    have := conCells_put bs cs k c d u v (by simpa using h1) (by simpa using h) e
    rw [show (k + 1) * 2 = k * 2 + 1 + 1 by omega]
    simp [conCells, this]
theorem Junk.drew {w : World} {J0 kd : Nat} {col : Nat → Nat} {s : SinkS} {cv wv lv : Value} {bvs : List Value} (h : Junk w J0 kd col s cv wv lv bvs) : Junk w.drew J0 kd col s cv wv lv bvs := ⟨h.box.drew, h.colk, h.rep.same (Same.drew _ _), h.new⟩
theorem Sz.le {s : SinkS} {nc M N : Nat} (h : Sz s nc M) (hn : M ≤ N) : Sz s nc N := ⟨h.conns, Nat.le_trans h.whole hn, Nat.le_trans h.lost hn, fun c hc => Nat.le_trans (h.each c hc) hn⟩
theorem Sz.put {s : SinkS} {nc M : Nat} (h : Sz s nc M) (k : Nat) {c : ConnS} (hc : c.bytes.length ≤ M) : Sz { s with conns := s.conns.set k c } nc M :=
  ⟨by simpa using h.conns, h.whole, h.lost, fun d hd => by
    rcases List.mem_or_eq_of_mem_set hd with e | e
    · exact h.each d e
    · subst e; exact hc⟩
/-- A report handed out, put into a box. -/
theorem junk_new {w w' : World} {s : SinkS} {v : Value} (h : RepNew w w' s v) : ∃ col cv wv lv bvs, v = .agg #[cv, wv, lv, .int .i64 s.writes] ∧ Mods No w w' ∧
    Junk (w'.alloc (.cells #[cv, wv, lv, .int .i64 s.writes] 38)) w.heap.size w'.heap.size col s cv wv lv bvs := by
  obtain ⟨col, cv, wv, lv, bvs, rfl, hr, hc, hm⟩ := h
  refine ⟨recol w'.heap.size col 1, cv, wv, lv, bvs, rfl, hm, Cells.new _ _ _, recol_new (Nat.le_refl _), hr.keep (S := No) ((Mods.refl No w').alloc _) (fun g _ e => e.elim), fun g hg => ?_⟩
  rcases Nat.lt_or_ge g w'.heap.size with h1 | h1
  · rw [recol_old h1] at hg
    exact hc g hg
  · exact Nat.le_trans hm.size h1
theorem Junk.app {w : World} {J0 kd : Nat} {col : Nat → Nat} {s : SinkS} {cv wv lv : Value} {bvs : List Value} (h : Junk w J0 kd col s cv wv lv bvs) (hJ : J0 ≤ w.heap.size) {k : Nat} {c : ConnS} {bv : Value} (hk : s.conns[k]? = some c) (hb : bvs[k]? = some bv) :
    ∃ gc cc, cv = .slice (some ⟨gc, 0, none⟩) s.conns.length cc ∧ w.cell? ⟨gc, k * 2, none⟩ = some bv ∧ gc < w.heap.size ∧ J0 ≤ gc ∧ kd ≠ gc ∧ gc ≠ kd ∧ (∃ t cs, Cells w gc t cs) ∧ bv.ownBlock ≠ some gc ∧ bv.ownBlock ≠ some kd ∧
      (∀ o, Own (w.alloc o) (fun g => bv.ownBlock = some g) 5 1 bv c.bytes.length (vbs c.bytes)) ∧
      ∀ o v' w1, Own w1 (fun g => bv.ownBlock = some g ∨ g = w.heap.size + 1) 5 1 v' (c.bytes.length + 1) (vbs c.bytes ++ [.int .u8 33]) → Mods (fun g => bv.ownBlock = some g) (w.alloc o) w1 → (∀ g, v'.ownBlock = some g → g < w1.heap.size) →
        w1.cell? ⟨gc, k * 2, none⟩ = some bv ∧ w1.frozen? ⟨gc, k * 2, none⟩ = false ∧ w1.cell? ⟨kd, 0, none⟩ = some cv ∧ Mods (fun g => J0 ≤ g) w (w1.setCell ⟨gc, k * 2, none⟩ v') ∧
        ∃ col', Junk (w1.setCell ⟨gc, k * 2, none⟩ v') J0 kd col' { s with conns := s.conns.set k { c with bytes := c.bytes ++ [33] } } cv wv lv (bvs.set k v') := by
  have hbo := h.rep.each k bv c hb hk
  have hlt := (List.getElem?_eq_some_iff.1 hk).1
  obtain ⟨gc, cc, rfl, hg, hn, hcell⟩ := h.rep.conns.cells (by omega)
  have hx := hcell (k * 2) (by omega)
  rw [(conCells_at bvs s.conns k bv c hb hk).1] at hx
  have hgo : (Value.slice (some ⟨gc, 0, none⟩) s.conns.length cc).ownBlock = some gc := rfl
  have hgl := h.rep.conns.lt gc hgo
  have hkg : kd ≠ gc := fun e => by have := h.colk; rw [e, hg] at this; omega
  have hng : bv.ownBlock ≠ some gc := fun e => by have := hbo.2 gc e; omega
  have hnk : bv.ownBlock ≠ some kd := fun e => by have := hbo.2 kd e; have := h.colk; omega
  obtain ⟨cur, hcc⟩ := h.rep.conns.typed gc hgo
  refine ⟨gc, cc, rfl, hx.1, hgl, h.new gc (by rw [hg]; omega), hkg, fun e => hkg e.symm, ⟨_, _, hcc⟩, hng, hnk, fun o => hbo.tight.same (Same.alloc w o fun g hg => hbo.lt g hg), fun o v' w1 hown hmod hlt' => ?_⟩
  have hcW := (hcc.alloc o).mods hmod hng
  have hbW := (h.box.alloc o).mods hmod hnk
  have hnv : ∀ g, v'.ownBlock = some g → g ≠ gc := fun g hv e => by
    rcases hown.2 g hv with e1 | e1
    · exact hng (e ▸ e1)
    · omega
  have hnv2 : ∀ g, v'.ownBlock = some g → g ≠ kd := fun g hv e => by
    rcases hown.2 g hv with e1 | e1
    · exact hnk (e ▸ e1)
    · have := h.box.lt; omega
  have hm : Mods (fun g => g = gc ∨ bv.ownBlock = some g) w (w1.setCell ⟨gc, k * 2, none⟩ v') := ((((Mods.refl _ w).alloc o).trans hmod (fun g _ e => Or.inr e)).setCell ⟨gc, k * 2, none⟩ v' (fun _ => Or.inl rfl))
  have hcl : ∀ g, g < w.heap.size → (g = gc ∨ bv.ownBlock = some g) → col g = 3 ∨ col g = 6 + k := fun g _ e => by
    rcases e with rfl | e
    · exact .inl hg
    · exact .inr (hbo.2 g e)
  refine ⟨(World.cell?_of_block (a := ⟨gc, k * 2, none⟩) (hmod.block gc (by simp; omega) hng)).trans ((World.cell?_of_block (a := ⟨gc, k * 2, none⟩) (Below.heap_alloc w o gc hgl)).trans hx.1), hcW.frozen _, hbW.at_ 0 rfl, hm.mono fun g hgw e => ?_, recol w.heap.size col (6 + k), ?_⟩
  · rcases hcl g hgw e with e1 | e1 <;> exact h.new g (by omega)
  · refine ⟨hbW.far (p := ⟨gc, k * 2, none⟩) hkg v', by rw [recol_old h.box.lt]; exact h.colk, ⟨by simpa using h.rep.len, ?_, fun i b d h1 h2 => ?_, h.rep.whole.keep hm (fun g hgw e => by rcases hcl g hgw e with e1 | e1 <;> omega), h.rep.lost.keep hm (fun g hgw e => by rcases hcl g hgw e with e1 | e1 <;> omega)⟩, fun g hgc => ?_⟩
    · have h3 : Own w1 (fun g => recol w.heap.size col (6 + k) g = 3) 54 2 (.slice (some ⟨gc, 0, none⟩) s.conns.length cc) s.conns.length (conCells bvs s.conns) := by
        have := h.rep.conns.tight.same (w' := w1) fun g hgg => (hmod.block g (by injection hgg with hgg; subst hgg; simp; omega) (by injection hgg with hgg; subst hgg; exact hng)).trans (Below.heap_alloc w o g (by injection hgg with hgg; subst hgg; exact hgl))
        exact ⟨this.1, fun g hgg => (recol_old (h.rep.conns.lt g hgg)).trans (h.rep.conns.2 g hgg)⟩
      have h4 := h3.set hgo (k * 2) v'
      rw [← conCells_put bvs s.conns k c { c with bytes := c.bytes ++ [33] } bv v' hb hk rfl] at h4
      simpa using h4
    · rw [List.getElem?_set] at h1
      dsimp only at h2
      rw [List.getElem?_set] at h2
      by_cases e : k = i
      · subst e
        rw [if_pos rfl, if_pos (by rw [h.rep.len]; exact hlt)] at h1
        rw [if_pos rfl, if_pos hlt] at h2
        injection h1 with h1
        injection h2 with h2
        subst h1 h2
        have h5 := hown.tight.same (Same.setCell w1 ⟨gc, k * 2, none⟩ v' (fun e => hnv gc e rfl))
        refine ⟨by simpa [vbs, vb] using h5.1, fun g hgv => ?_⟩
        rcases hown.2 g hgv with e1 | e1
        · rw [recol_old (hbo.lt g e1)]; exact hbo.2 g e1
        · exact recol_new (by omega)
      · rw [if_neg e] at h1 h2
        exact (h.rep.each i b d h1 h2).keep hm fun g hgw e1 => by rcases hcl g hgw e1 with e2 | e2 <;> omega
    · rcases Nat.lt_or_ge g w.heap.size with h1 | h1
      · rw [recol_old h1] at hgc
        exact h.new g hgc
      · exact Nat.le_trans hJ h1
theorem Junk.appW {w : World} {J0 kd : Nat} {col : Nat → Nat} {s : SinkS} {cv wv lv : Value} {bvs : List Value} (h : Junk w J0 kd col s cv wv lv bvs) (hJ : J0 ≤ w.heap.size) :
    ∃ A c, wv = .slice A s.whole.length c ∧ s.whole.length ≤ c ∧ (∀ o, Own (w.alloc o) (fun g => wv.ownBlock = some g) 2 1 wv s.whole.length (vis s.whole)) ∧
      ∀ o v' w1, Own w1 (fun g => wv.ownBlock = some g ∨ g = w.heap.size + 1) 2 1 v' (s.whole.length + 1) (vis s.whole ++ [.int .i64 (-2)]) → Mods (fun g => wv.ownBlock = some g) (w.alloc o) w1 → (∀ g, v'.ownBlock = some g → g < w1.heap.size) →
        w1.cell? ⟨kd, 1, none⟩ = some wv ∧ w1.frozen? ⟨kd, 1, none⟩ = false ∧ Mods (fun g => J0 ≤ g) w (w1.setCell ⟨kd, 1, none⟩ v') ∧
        ∃ col', Junk (w1.setCell ⟨kd, 1, none⟩ v') J0 kd col' { s with whole := s.whole ++ [-2] } cv v' lv bvs := by
  have hbo := h.rep.whole
  obtain ⟨A, c, e0, hnc, _⟩ := hbo.form
  have hkl := h.box.lt
  have hnk : wv.ownBlock ≠ some kd := fun e => by have := hbo.2 kd e; have := h.colk; omega
  refine ⟨A, c, e0, hnc, fun o => hbo.tight.same (Same.alloc w o fun g hg => hbo.lt g hg), fun o v' w1 hown hmod hlt' => ?_⟩
  have hbW := (h.box.alloc o).mods hmod hnk
  have hnv2 : ∀ g, v'.ownBlock = some g → g ≠ kd := fun g hv e => by
    rcases hown.2 g hv with e1 | e1
    · exact hnk (e ▸ e1)
    · omega
  have hm : Mods (fun g => g = kd ∨ wv.ownBlock = some g) w (w1.setCell ⟨kd, 1, none⟩ v') := ((((Mods.refl _ w).alloc o).trans hmod (fun g _ e => Or.inr e)).setCell ⟨kd, 1, none⟩ v' (fun _ => Or.inl rfl))
  have hcl : ∀ g, g < w.heap.size → (g = kd ∨ wv.ownBlock = some g) → col g = 1 ∨ col g = 4 := fun g _ e => by
    rcases e with rfl | e
    · exact .inl h.colk
    · exact .inr (hbo.2 g e)
  have hk5 : ∀ M, M ≠ 1 → M ≠ 4 → ∀ g, g < w.heap.size → (g = kd ∨ wv.ownBlock = some g) → col g ≠ M := fun M h1 h2 g hgw e => by rcases hcl g hgw e with e1 | e1 <;> omega
  have hN : Own (w1.setCell ⟨kd, 1, none⟩ v') (fun g => recol w.heap.size col 4 g = 4) 2 1 v' (s.whole ++ [-2]).length (vis (s.whole ++ [-2])) := by
    have h5 := hown.tight.same (Same.setCell w1 ⟨kd, 1, none⟩ v' (fun e => hnv2 kd e rfl))
    refine ⟨by simpa [vis] using h5.1, fun g hgv => ?_⟩
    rcases hown.2 g hgv with e1 | e1
    · rw [recol_old (hbo.lt g e1)]; exact hbo.2 g e1
    · exact recol_new (by omega)
  refine ⟨hbW.at_ 1 rfl, hbW.frozen _, hm.mono fun g hgw e => ?_, recol w.heap.size col 4, by simpa using hbW.set_ 1 v', by rw [recol_old hkl]; exact h.colk, ⟨h.rep.len, h.rep.conns.keep hm (fun g hgw e => by rcases hcl g hgw e with e1 | e1 <;> omega), fun i b d h1 h2 => (h.rep.each i b d h1 h2).keep hm (fun g hgw e => by rcases hcl g hgw e with e1 | e1 <;> omega), hN, h.rep.lost.keep hm (hk5 5 (by omega) (by omega))⟩, fun g hgc => ?_⟩
  · rcases hcl g hgw e with e1 | e1 <;> exact h.new g (by omega)
  · rcases Nat.lt_or_ge g w.heap.size with h1 | h1
    · rw [recol_old h1] at hgc
      exact h.new g hgc
    · exact Nat.le_trans hJ h1
theorem Junk.appL {w : World} {J0 kd : Nat} {col : Nat → Nat} {s : SinkS} {cv wv lv : Value} {bvs : List Value} (h : Junk w J0 kd col s cv wv lv bvs) (hJ : J0 ≤ w.heap.size) :
    ∃ A c, lv = .slice A s.lost.length c ∧ s.lost.length ≤ c ∧ (∀ o, Own (w.alloc o) (fun g => lv.ownBlock = some g) 2 1 lv s.lost.length (vis s.lost)) ∧
      ∀ o v' w1, Own w1 (fun g => lv.ownBlock = some g ∨ g = w.heap.size + 1) 2 1 v' (s.lost.length + 1) (vis s.lost ++ [.int .i64 (-2)]) → Mods (fun g => lv.ownBlock = some g) (w.alloc o) w1 → (∀ g, v'.ownBlock = some g → g < w1.heap.size) →
        w1.cell? ⟨kd, 2, none⟩ = some lv ∧ w1.frozen? ⟨kd, 2, none⟩ = false ∧ Mods (fun g => J0 ≤ g) w (w1.setCell ⟨kd, 2, none⟩ v') ∧
        ∃ col', Junk (w1.setCell ⟨kd, 2, none⟩ v') J0 kd col' { s with lost := s.lost ++ [-2] } cv wv v' bvs := by
  have hbo := h.rep.lost
  obtain ⟨A, c, e0, hnc, _⟩ := hbo.form
  have hkl := h.box.lt
  have hnk : lv.ownBlock ≠ some kd := fun e => by have := hbo.2 kd e; have := h.colk; omega
  refine ⟨A, c, e0, hnc, fun o => hbo.tight.same (Same.alloc w o fun g hg => hbo.lt g hg), fun o v' w1 hown hmod hlt' => ?_⟩
  have hbW := (h.box.alloc o).mods hmod hnk
  have hnv2 : ∀ g, v'.ownBlock = some g → g ≠ kd := fun g hv e => by
    rcases hown.2 g hv with e1 | e1
    · exact hnk (e ▸ e1)
    · omega
  have hm : Mods (fun g => g = kd ∨ lv.ownBlock = some g) w (w1.setCell ⟨kd, 2, none⟩ v') := ((((Mods.refl _ w).alloc o).trans hmod (fun g _ e => Or.inr e)).setCell ⟨kd, 2, none⟩ v' (fun _ => Or.inl rfl))
  have hcl : ∀ g, g < w.heap.size → (g = kd ∨ lv.ownBlock = some g) → col g = 1 ∨ col g = 5 := fun g _ e => by
    rcases e with rfl | e
    · exact .inl h.colk
    · exact .inr (hbo.2 g e)
  have hk5 : ∀ M, M ≠ 1 → M ≠ 5 → ∀ g, g < w.heap.size → (g = kd ∨ lv.ownBlock = some g) → col g ≠ M := fun M h1 h2 g hgw e => by rcases hcl g hgw e with e1 | e1 <;> omega
  have hN : Own (w1.setCell ⟨kd, 2, none⟩ v') (fun g => recol w.heap.size col 5 g = 5) 2 1 v' (s.lost ++ [-2]).length (vis (s.lost ++ [-2])) := by
    have h5 := hown.tight.same (Same.setCell w1 ⟨kd, 2, none⟩ v' (fun e => hnv2 kd e rfl))
    refine ⟨by simpa [vis] using h5.1, fun g hgv => ?_⟩
    rcases hown.2 g hgv with e1 | e1
    · rw [recol_old (hbo.lt g e1)]; exact hbo.2 g e1
    · exact recol_new (by omega)
  refine ⟨hbW.at_ 2 rfl, hbW.frozen _, hm.mono fun g hgw e => ?_, recol w.heap.size col 5, by simpa using hbW.set_ 2 v', by rw [recol_old hkl]; exact h.colk, ⟨h.rep.len, h.rep.conns.keep hm (fun g hgw e => by rcases hcl g hgw e with e1 | e1 <;> omega), fun i b d h1 h2 => (h.rep.each i b d h1 h2).keep hm (fun g hgw e => by rcases hcl g hgw e with e1 | e1 <;> omega), h.rep.whole.keep hm (hk5 4 (by omega) (by omega)), hN⟩, fun g hgc => ?_⟩
  · rcases hcl g hgw e with e1 | e1 <;> exact h.new g (by omega)
  · rcases Nat.lt_or_ge g w.heap.size with h1 | h1
    · rw [recol_old h1] at hgc
      exact h.new g hgc
    · exact Nat.le_trans hJ h1
end Go.Proofs.YtmfpgghpnkmkpaaDoor
