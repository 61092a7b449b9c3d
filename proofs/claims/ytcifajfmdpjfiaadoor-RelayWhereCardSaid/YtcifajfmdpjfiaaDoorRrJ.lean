/- Both relays as New makes them. -/
import Derived.Test.YtcifajfmdpjfiaaDoorRrH
namespace Go.Proofs.YtcifajfmdpjfiaaDoor
open Go.RowKit Go.Tum Go.Lib Go.Sort
set_option maxRecDepth 100000
theorem dests0_get (l : List Tx) (i r : Nat) (hr : r < 6) : (dests0 l)[i * 6 + r]? = (l[i]?).bind fun x => (dest0 x)[r]? := flatMap_get dest0_len l i r hr
theorem two_made {W w2 w3 : World} {rb C R H : Nat} {nw : Bool} {l : List Tx} {A A1 A2 A3 : Option Addr} {n c n1 c1 n2 c2 n3 c3 : Nat} (hz : relE l (C : Int) (R : Int) (H : Int) = 0)
    (hr : RelK w2 rb (C : Int).toNat (R : Int).toNat (H : Int).toNat nw (nodesOf l) (List.replicate l.length stn0) [] (fun b => W.heap.size ≤ b)) (hm2 : Mods No W w2) (hm3 : Mods No w2 w3)
    (h2 : Own w3 (fun g => w2.heap.size ≤ g) 103 2 (.slice A2 n2 c2) (placesOf (C : Int).toNat (nodesOf l)).length (plcs (placesOf (C : Int).toNat (nodesOf l))))
    (h3 : Own w3 (fun g => w2.heap.size ≤ g) 87 6 (.slice A3 n3 c3) (nodesOf l).length (dests0 (nodesOf l))) :
    ∃ F G, Two W (w3.alloc (.cells #[.slice A n c, .int .i64 (C : Int), .int .i64 (R : Int), .int .i64 (H : Int), .bool nw, .int .i64 (C : Int), .slice A1 n1 c1, .slice A2 n2 c2, .slice A3 n3 c3] 36)) rb w3.heap.size C R H nw (nodesOf l) (List.replicate l.length stn0) [] (List.replicate l.length stn0) [] F G := by
  have hr' : RelK w2 rb C R H nw (nodesOf l) (List.replicate l.length stn0) [] (fun b => W.heap.size ≤ b) := hr
  rw [Int.toNat_natCast] at h2
  have hE := relE_zero hz
  have hN := newE_zero hE.1
  have hst := hr'.strict
  have hs2 := hm2.size
  have hs3 := hm3.size
  obtain ⟨N, hNN⟩ : ∃ N, N = nodesOf l := ⟨_, rfl⟩
  have hNl : N.length = l.length := by rw [hNN, nodesOf_len]
  rw [← hNN] at h2 h3 hst hr' ⊢
  have hpos : 0 < N.length := by rw [hNl]; have := hE.2.1; omega
  obtain ⟨gd, cd, e3, hgd, _, _⟩ := h3.cells hpos
  injection e3 with e3 e4 e5
  subst e3 e4 e5
  obtain ⟨cur, hcur⟩ := h3.typed gd rfl
  have hgl : gd < w3.heap.size := hcur.lt
  have hne : (Value.slice A2 n2 c2).ownBlock ≠ some gd := h2.ne_cells hcur (by decide)
  obtain ⟨col, hcol⟩ : ∃ col : Nat → Nat, col = fun b => if b < w2.heap.size then 0 else if b = w3.heap.size then 1 else if (Value.slice A2 n2 c2).ownBlock = some b then 2 else if b = gd then 3 else 0 := ⟨_, rfl⟩
  have k0 : ∀ b, b < w2.heap.size → col b = 0 := fun b e => by rw [hcol]; exact if_pos e
  have k1 : col w3.heap.size = 1 := by rw [hcol]; dsimp only; rw [if_neg (by omega), if_pos rfl]
  have k2 : ∀ b, (Value.slice A2 n2 c2).ownBlock = some b → col b = 2 := fun b e => by
    have := h2.2 b e
    have := h2.lt b e
    rw [hcol]; dsimp only
    rw [if_neg (by omega), if_neg (by omega), if_pos e]
  have k3 : col gd = 3 := by
    rw [hcol]; dsimp only
    rw [if_neg (by omega), if_neg (by omega), if_neg hne, if_pos rfl]
  have kb : ∀ b, col b ≠ 0 → w2.heap.size ≤ b := fun b e => by
    rcases Nat.lt_or_ge b w2.heap.size with h | h
    · exact absurd (k0 b h) e
    · exact h
  have hma := (Mods.refl No w3).alloc (.cells #[.slice A n c, .int .i64 (C : Int), .int .i64 (R : Int), .int .i64 (H : Int), .bool nw, .int .i64 (C : Int), .slice A1 n1 c1, .slice A2 n2 c2, .slice (some ⟨gd, 0, none⟩) N.length c3] 36)
  have hp : RrP (w3.alloc (.cells #[.slice A n c, .int .i64 (C : Int), .int .i64 (R : Int), .int .i64 (H : Int), .bool nw, .int .i64 (C : Int), .slice A1 n1 c1, .slice A2 n2 c2, .slice (some ⟨gd, 0, none⟩) N.length c3] 36)) w3.heap.size C R H nw N (List.replicate l.length stn0) [] col gd c3 (.slice A n c) (.slice A1 n1 c1) (.slice A2 n2 c2) (dests0 N) (List.replicate N.length (.slice none 0 0)) := by
    refine ⟨Cells.new w3 _ _, k1, ⟨(Tum.Own.mods h2 hma fun _ _ e => e).1, fun b hb => k2 b hb⟩, ⟨(Tum.Own.mods h3 hma fun _ _ e => e).1, fun b hb => by injection hb with hb; rw [← hb]; exact k3⟩, fun i s st v e1 e2 e3 => ?_, fun i st v e2 e3 => ?_, List.length_replicate ..⟩
    · rw [List.getElem?_replicate] at e2 e3
      split at e2
      · split at e3
        · injection e2 with e2
          injection e3 with e3
          subst e2 e3
          have hg : ∀ r, r < 6 → (dests0 N)[i * 6 + r]? = (dest0 s)[r]? := fun r hr => by rw [dests0_get N i r hr, e1]; rfl
          exact ⟨hg 0 (by decide), by rw [hg 1 (by decide)]; simp [dest0, destC], hg 2 (by decide), hg 3 (by decide), hg 4 (by decide), hg 5 (by decide)⟩
        · cases e3
      · cases e2
    · rw [List.getElem?_replicate] at e2 e3
      split at e2
      · split at e3
        · injection e2 with e2
          injection e3 with e3
          subst e2 e3
          exact OwnAt.nil _ _ _ _
        · cases e3
      · cases e2
  have hI := hr'.1
  have h0 : RrI0 C N := ⟨hst, hpos, by rw [hNl]; exact hN.2.2.1, by
    rw [placesOf_len]
    have h1 : N.length ≤ 64 := by rw [hNl]; exact hN.2.2.1
    have h2 : C ≤ 128 := by have := hN.2.1; omega
    have := Nat.mul_le_mul h1 h2
    omega, by have := hN.1; omega, fun s hs => (hN.2.2.2.1 s ((nodesOf_mem l s).1 (hNN ▸ hs))).2⟩
  refine ⟨fun b => W.heap.size ≤ b ∧ b < w2.heap.size, fun b => w2.heap.size ≤ b ∧ b < w3.heap.size + 1, ⟨((hr'.more fun b hb e => ⟨e, hb⟩).no hm3).no hma, ⟨hI, h0, col, gd, c3, _, _, _, _, _, hp, fun b hb e => ⟨kb b e, ?_⟩⟩, fun b e1 e2 => ?_, fun b e => ?_, fun b e => ?_, fun b e => e.1, fun b e => Nat.le_trans hs2 e.1, (hm2.trans hm3 fun _ _ e => e).trans hma fun _ _ e => e⟩⟩
  · rw [World.size_alloc] at hb; exact hb
  · have := e1.2; have := e2.1; omega
  · rw [World.size_alloc]; have := e.2; omega
  · rw [World.size_alloc]; exact e.2
end Go.Proofs.YtcifajfmdpjfiaaDoor
