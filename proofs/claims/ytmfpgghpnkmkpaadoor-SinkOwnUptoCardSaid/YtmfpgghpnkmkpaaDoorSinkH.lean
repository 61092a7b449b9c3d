/- What a report is, owned; New, Report and the reference's New. -/
import Derived.Test.YtmfpgghpnkmkpaaDoorSinkG
namespace Go.Proofs.YtmfpgghpnkmkpaaDoor
open Go.RowKit Go.Tum
/-- A report whose parts are owned, told apart by labels (3 connections, 4 whole, 5 lost, 6+i the bytes of connection i). -/
structure RepK (w : World) (col : Nat → Nat) (s : SinkS) (cv wv lv : Value) (bvs : List Value) : Prop where
  len : bvs.length = s.conns.length
  conns : Own w (fun g => col g = 3) 54 2 cv s.conns.length (conCells bvs s.conns)
  each : ∀ (i : Nat) (bv : Value) (c : ConnS), bvs[i]? = some bv → s.conns[i]? = some c → Own w (fun g => col g = 6 + i) 5 1 bv c.bytes.length (vbs c.bytes)
  whole : Own w (fun g => col g = 4) 2 1 wv s.whole.length (vis s.whole)
  lost : Own w (fun g => col g = 5) 2 1 lv s.lost.length (vis s.lost)
theorem RepK.rd {w : World} {col : Nat → Nat} {s : SinkS} {cv wv lv : Value} {bvs : List Value} (h : RepK w col s cv wv lv bvs) : RepRd w (fun g => g < w.heap.size ∧ col g ≠ 0) s cv wv lv bvs := by
  have k : ∀ {e : TypeId} {size n j : Nat} {v : Value} {xs : List Value}, j ≠ 0 → Own w (fun g => col g = j) e size v n xs → Rd w (fun g => g < w.heap.size ∧ col g ≠ 0) size v n xs := fun hj ho =>
    Rd.of_own ho.1 fun g hg => ⟨ho.lt g hg, by rw [ho.2 g hg]; exact hj⟩
  exact ⟨h.len, k (by decide) h.conns, fun i b c h1 h2 => k (by omega) (h.each i b c h1 h2), k (by decide) h.whole, k (by decide) h.lost⟩
theorem RepK.keep {w w' : World} {col : Nat → Nat} {s : SinkS} {cv wv lv : Value} {bvs : List Value} {S : Nat → Prop} {L : Nat} (h : RepK w col s cv wv lv bvs) (hm : Mods S w w') (hS : ∀ g, g < w.heap.size → S g → col g < 2) : RepK w' (recol w.heap.size col L) s cv wv lv bvs :=
  ⟨h.len, h.conns.keep hm fun g h1 h2 => by have := hS g h1 h2; omega, fun i b c h1 h2 => (h.each i b c h1 h2).keep hm fun g h3 h4 => by have := hS g h3 h4; omega, h.whole.keep hm fun g h1 h2 => by have := hS g h1 h2; omega, h.lost.keep hm fun g h1 h2 => by have := hS g h1 h2; omega⟩
theorem RepK.same {w w' : World} {col : Nat → Nat} {s : SinkS} {cv wv lv : Value} {bvs : List Value} (h : RepK w col s cv wv lv bvs) (hs : Same (fun g => g < w.heap.size ∧ col g ≠ 0) w w') : RepK w' col s cv wv lv bvs := by
  have k : ∀ {e : TypeId} {size n j : Nat} {v : Value} {xs : List Value}, j ≠ 0 → Own w (fun g => col g = j) e size v n xs → Own w' (fun g => col g = j) e size v n xs := fun hj ho =>
    ⟨(ho.tight.same (hs.sub fun g hg => ⟨ho.lt g hg, by rw [ho.2 g hg]; exact hj⟩)).1, ho.2⟩
  exact ⟨h.len, k (by decide) h.conns, fun i b c h1 h2 => k (by omega) (h.each i b c h1 h2), k (by decide) h.whole, k (by decide) h.lost⟩
theorem two_one {a b : Value} (h : a.oneCell' = true) (k : b.oneCell' = true) : ∀ u ∈ [a, b], u.oneCell' = true := by
  intro u hu
  simp at hu
  rcases hu with rfl | rfl
  · exact h
  · exact k
theorem conCells_snoc : ∀ (bs : List Value) (cs : List ConnS) (b : Value) (c : ConnS), bs.length = cs.length → conCells (bs ++ [b]) (cs ++ [c]) = conCells bs cs ++ [b, .bool c.failed]
  | [], [], _, _, _ => rfl
  | x :: bs, y :: cs, b, c, h => by simp [conCells, conCells_snoc bs cs b c (by simpa using h)]
  | [], _ :: _, _, _, h => by simp at h
  | _ :: _, [], _, _, h => by simp at h
/-- One connection more. -/
theorem rep_step (wq w2 : World) (col : Nat → Nat) (s : SinkS) (cv wv lv bv : Value) (bvs : List Value) (c : ConnS) (kd off : Nat) (T : TypeId) (cs : Array Value) (hT : 54 ≠ T) (hkd : Cells wq kd T cs) (hcol : col kd = 1) (h : RepK wq col s cv wv lv bvs)
    (hb : Own w2 (fun k => wq.heap.size ≤ k ∧ k < w2.heap.size) 5 1 bv c.bytes.length (vbs c.bytes)) (hm : Mods No wq w2) :
    (∀ o, Own (w2.alloc o) (fun g => cv.ownBlock = some g) 54 2 cv s.conns.length (conCells bvs s.conns)) ∧
    ∀ o v1 w3, Own w3 (fun k => cv.ownBlock = some k ∨ k = w2.heap.size + 1) 54 2 v1 (s.conns.length + 1) (conCells bvs s.conns ++ [bv, .bool c.failed]) → Mods (fun k => cv.ownBlock = some k) (w2.alloc o) w3 → (∀ g, v1.ownBlock = some g → g < w3.heap.size) →
      Cells w3 kd T cs ∧ ∃ col', col' kd = 1 ∧ RepK (w3.setCell ⟨kd, off, none⟩ v1) col' { s with conns := s.conns ++ [c] } v1 wv lv (bvs ++ [bv]) ∧ (∀ g, col' g ≠ 0 → (g < wq.heap.size ∧ col g ≠ 0) ∨ wq.heap.size ≤ g) ∧ (∀ g, g < wq.heap.size → col' g = col g) ∧
        Mods (fun g => g = kd ∨ cv.ownBlock = some g) wq (w3.setCell ⟨kd, off, none⟩ v1) := by
  have hc := h.conns
  have h1 : ∀ {e : TypeId} {size n j : Nat} {v : Value} {xs : List Value}, Own wq (fun g => col g = j) e size v n xs → ∀ o, Own (w2.alloc o) (fun g => v.ownBlock = some g) e size v n xs := fun ho o =>
    (ho.tight.same (hm.same fun k hk => ⟨ho.lt k hk, fun e => e⟩)).same (Same.alloc w2 o fun k hk => Nat.lt_of_lt_of_le (ho.lt k hk) hm.size)
  refine ⟨fun o => h1 hc o, fun o v1 w3 hown hmod hlt => ?_⟩
  have hne : cv.ownBlock ≠ some kd := hc.ne_cells hkd hT
  have hk2 : Cells w2 kd T cs := hkd.mods hm (fun e => e)
  have hk3 : Cells w3 kd T cs := (hk2.alloc o).mods hmod hne
  have hnp : ∀ g, v1.ownBlock = some g → g ≠ kd := fun g hg e => hown.ne_cells hk3 hT (e ▸ hg)
  have hM : Mods (fun g => g = kd ∨ cv.ownBlock = some g) wq (w3.setCell ⟨kd, off, none⟩ v1) := ((((hm.mono fun _ _ e => e.elim).alloc _).trans hmod (fun k _ e => Or.inr e)).setCell ⟨kd, off, none⟩ v1 (fun _ => Or.inl rfl))
  obtain ⟨col', hcl⟩ : ∃ col' : Nat → Nat, col' = fun g => if g < wq.heap.size then col g else if g < w2.heap.size then 6 + s.conns.length else 3 := ⟨_, rfl⟩
  have c1 : ∀ g, g < wq.heap.size → col' g = col g := fun g hg => by rw [hcl]; exact if_pos hg
  have c2 : ∀ g, wq.heap.size ≤ g → g < w2.heap.size → col' g = 6 + s.conns.length := fun g hg hg2 => by rw [hcl]; dsimp only; rw [if_neg (by omega), if_pos hg2]
  have c3 : ∀ g, w2.heap.size ≤ g → col' g = 3 := fun g hg => by have := hm.size; rw [hcl]; dsimp only; rw [if_neg (by omega), if_neg (by omega)]
  have hkeep : ∀ {j : Nat} {e : TypeId} {size n : Nat} {v : Value} {xs : List Value}, j ≠ 1 → j ≠ 3 → Own wq (fun g => col g = j) e size v n xs → Own (w3.setCell ⟨kd, off, none⟩ v1) (fun g => col' g = j) e size v n xs := fun j1 j3 ho => by
    have h5 := ho.keep (L := 0) hM fun g _ e => by
      rcases e with rfl | e
      · rw [hcol]; omega
      · rw [hc.2 g e]; omega
    exact ⟨h5.1, fun g hg => (c1 g (ho.lt g hg)).trans (ho.2 g hg)⟩
  refine ⟨hk3, col', by rw [c1 kd hkd.lt]; exact hcol, ⟨by simp [h.len], ?_, fun i b c' hi hci => ?_, hkeep (by decide) (by decide) h.whole, hkeep (by decide) (by decide) h.lost⟩, fun g hg => ?_, c1, hM⟩
  · have h2 := hown.tight.same (Same.setCell w3 ⟨kd, off, none⟩ v1 (fun e => hnp kd e rfl))
    rw [conCells_snoc _ _ _ _ h.len]
    refine ⟨by simpa using h2.1, fun g hg => ?_⟩
    rcases hown.2 g hg with e | e
    · exact (c1 g (hc.lt g e)).trans (hc.2 g e)
    · exact c3 g (by omega)
  · have hl := h.len
    dsimp only at hci
    rcases Nat.lt_or_ge i s.conns.length with hi' | hi'
    · rw [List.getElem?_append_left (by omega)] at hi hci
      exact hkeep (by omega) (by omega) (h.each i b c' hi hci)
    · rw [List.getElem?_append_right (by omega)] at hi hci
      have hi0 : i - s.conns.length = 0 := by
        rcases Nat.eq_zero_or_pos (i - s.conns.length) with h0 | h0
        · exact h0
        · rw [List.getElem?_eq_none (by simp; omega)] at hci; cases hci
      rw [hl, hi0] at hi
      rw [hi0] at hci
      simp at hi hci
      subst hi
      subst hci
      have : i = s.conns.length := by omega
      subst this
      have hbk : ∀ g, bv.ownBlock = some g → ¬ (cv.ownBlock = some g) := fun g hg e => by have := (hb.2 g hg).1; have := hc.lt g e; omega
      have hbn : bv.ownBlock ≠ some kd := fun e => by have := (hb.2 kd e).1; have := hkd.lt; omega
      have h6 : Own (w3.setCell ⟨kd, off, none⟩ v1) (fun g => bv.ownBlock = some g) 5 1 bv c.bytes.length (vbs c.bytes) :=
        ((hb.tight.same (Same.alloc w2 o fun k hk => (hb.2 k hk).2)).same (hmod.same fun k hk => ⟨by have := (hb.2 k hk).2; simp; omega, hbk k hk⟩)).same (Same.setCell w3 ⟨kd, off, none⟩ v1 hbn)
      exact ⟨h6.1, fun g hg => c2 g (hb.2 g hg).1 (hb.2 g hg).2⟩
  · rcases Nat.lt_or_ge g wq.heap.size with h7 | h7
    · exact .inl ⟨h7, by rw [← c1 g h7]; exact hg⟩
    · exact .inr h7
end Go.Proofs.YtmfpgghpnkmkpaaDoor
