/- A sink in memory: its parts, and what its functions leave of them. -/
import Derived.Test.YtmfpgghpnkmkpaaDoorSinkB
namespace Go.Proofs.YtmfpgghpnkmkpaaDoor
open Go.RowKit Go.Tum
/-- Connection c at block k. -/
def ConnAt (w : World) (col : Nat → Nat) (j k : Nat) (c : ConnS) : Prop :=
  col k = j ∧ ∃ bv, Cells w k 70 #[bv, .bool c.failed] ∧ Own w (fun g => col g = j) 5 1 bv c.bytes.length (vbs c.bytes)
structure Parts (w : World) (p : Nat) (plan : Plan) (s : SinkS) (col : Nat → Nat) (ks : List Nat) (pv cv wv lv : Value) : Prop where
  hdr : Cells w p 46 #[.bool true, pv, cv, .bool s.any, .int .i64 s.last, wv, lv, .int .i64 s.writes]
  colp : col p = 1
  plan : Own w (fun g => col g = 2) 60 2 pv plan.length (planCells plan)
  conns : Own w (fun g => col g = 3) 67 1 cv ks.length (ks.map ptr)
  len : ks.length = s.conns.length
  each : ∀ i k c, ks[i]? = some k → s.conns[i]? = some c → ConnAt w col (6 + i) k c
  whole : Own w (fun g => col g = 4) 2 1 wv s.whole.length (vis s.whole)
  lost : Own w (fun g => col g = 5) 2 1 lv s.lost.length (vis s.lost)
/-- The sink s at block p; its connections at the blocks ks; all in blocks of F. -/
def SinkK (w : World) (p : Nat) (plan : Plan) (s : SinkS) (ks : List Nat) (F : Nat → Prop) : Prop :=
  ∃ col pv cv wv lv, Parts w p plan s col ks pv cv wv lv ∧ ∀ g, g < w.heap.size → col g ≠ 0 → F g
theorem ConnAt.keep {w w' : World} {col : Nat → Nat} {S : Nat → Prop} {L j k : Nat} {c : ConnS} (h : ConnAt w col j k c) (hm : Mods S w w') (hS : ∀ g, g < w.heap.size → S g → col g ≠ j) : ConnAt w' (recol w.heap.size col L) j k c := by
  obtain ⟨h1, bv, h2, h3⟩ := h
  exact ⟨by rw [recol_old h2.lt]; exact h1, bv, h2.mods hm fun hs => hS k h2.lt hs h1, h3.keep hm hS⟩
theorem SinkK.more {w : World} {p : Nat} {plan : Plan} {s : SinkS} {ks : List Nat} {F G : Nat → Prop} (h : SinkK w p plan s ks F) (hs : ∀ g, g < w.heap.size → F g → G g) : SinkK w p plan s ks G := by
  obtain ⟨col, pv, cv, wv, lv, hp, hF⟩ := h
  exact ⟨col, pv, cv, wv, lv, hp, fun g hg hc => hs g hg (hF g hg hc)⟩
theorem SinkK.same {w w' : World} {p : Nat} {plan : Plan} {s : SinkS} {ks : List Nat} {F : Nat → Prop} (h : SinkK w p plan s ks F) {S : Nat → Prop} (hm : Mods S w w') (hS : ∀ g, g < w.heap.size → S g → ¬ F g) : SinkK w' p plan s ks F := by
  obtain ⟨col, pv, cv, wv, lv, hp, hF⟩ := h
  have hk : ∀ j, j ≠ 0 → ∀ g, g < w.heap.size → S g → col g ≠ j := fun j hj g hg hs e => hS g hg hs (hF g hg (by omega))
  refine ⟨recol w.heap.size col 0, pv, cv, wv, lv, ⟨hp.hdr.mods hm fun hs => hS p hp.hdr.lt hs (hF p hp.hdr.lt (by rw [hp.colp]; decide)), by rw [recol_old hp.hdr.lt]; exact hp.colp, hp.plan.keep hm (hk 2 (by decide)), hp.conns.keep hm (hk 3 (by decide)), hp.len, fun i k c h1 h2 => (hp.each i k c h1 h2).keep hm (hk _ (by omega)), hp.whole.keep hm (hk 4 (by decide)), hp.lost.keep hm (hk 5 (by decide))⟩, fun g hg hc => ?_⟩
  rcases Nat.lt_or_ge g w.heap.size with h1 | h1
  · rw [recol_old h1] at hc
    exact hF g h1 hc
  · rw [recol_new h1] at hc
    exact absurd rfl hc

theorem lastOpen_snoc (cs : List ConnS) (c : ConnS) : lastOpen (cs ++ [c]) = !c.failed := by simp [lastOpen]
set_option maxRecDepth 100000 in
theorem conn_K (w : World) (p : Nat) (plan : Plan) (s : SinkS) (ks : List Nat) (F : Nat → Prop) (h : SinkK w p plan s ks F) (hn : s.conns.length ≤ 1000000000) :
    Calls Tryd.prog 27 #[(.pointer (some ⟨p, 0, none⟩))] w (Ret fun v w' => ∃ ks' k, v = (.pointer (some ⟨k, 0, none⟩)) ∧ SinkK w' p plan { s with conns := opened s.conns } (ks' ++ [k]) (Ext F w.heap.size) ∧ Mods F w w') := by
  obtain ⟨col, pv, cv, wv, lv, hp, hF⟩ := h
  have hlen := hp.len
  by_cases ho : lastOpen s.conns = true
  · -- the last one is open
    obtain ⟨cs, c, hcs⟩ : ∃ cs c, s.conns = cs ++ [c] := by
      cases hr : s.conns.getLast? with
      | none => simp [lastOpen, hr] at ho
      | some c => obtain ⟨ys, h⟩ := List.getLast?_eq_some_iff.1 hr; exact ⟨ys, c, h⟩
    have hf : c.failed = false := by rw [hcs, lastOpen_snoc] at ho; simpa using ho
    obtain ⟨ks', k, rfl⟩ : ∃ ks' k, ks = ks' ++ [k] := by
      cases hr : ks.getLast? with
      | none => rw [List.getLast?_eq_none_iff] at hr; subst hr; simp [hcs] at hlen
      | some k => obtain ⟨ys, h⟩ := List.getLast?_eq_some_iff.1 hr; exact ⟨ys, k, h⟩
    have hl' : ks'.length = cs.length := by simpa [hcs] using hlen
    obtain ⟨_, bv, hk, _⟩ := hp.each ks'.length k c (by simp) (by rw [hcs, hl']; simp)
    have hconns := hp.conns
    simp only [List.length_append, List.length_cons, List.length_nil] at hconns
    refine ret_use (conn_old w p ks'.length k cv bv (ks' ++ [k]) _ (hp.hdr.at_ 2 rfl) hconns (by simp) (by rw [← hf]; exact hk) (by rw [hl']; rw [hcs] at hn; simp at hn; omega)) ?_
    rintro v w' ⟨rfl, d, rfl⟩
    refine ⟨ks', k, rfl, ?_, (Mods.refl F w).drewN d⟩
    have he : opened s.conns = s.conns := by simp [opened, ho]
    rw [he]
    have h0 : SinkK w p plan s (ks' ++ [k]) F := ⟨col, pv, cv, wv, lv, hp, hF⟩
    exact (h0.same ((Mods.refl No w).drewN d) (fun _ _ h => h.elim)).more fun g _ hg => .inl hg
  · -- a new one
    have he : opened s.conns = s.conns ++ [⟨[], false⟩] := by simp [opened, ho]
    have hl : ks.length = 0 ∨ ∃ m k bv, ks.length = m + 1 ∧ ks[m]? = some k ∧ Cells w k 70 #[bv, .bool true] := by
      rcases Nat.eq_zero_or_pos ks.length with h0 | h0
      · exact .inl h0
      · have h1 : ks.length - 1 < s.conns.length := by omega
        have h2 : ks.length - 1 < ks.length := by omega
        obtain ⟨_, bv, hk, _⟩ := hp.each (ks.length - 1) _ _ (List.getElem?_eq_getElem h2) (List.getElem?_eq_getElem h1)
        refine .inr ⟨ks.length - 1, _, bv, by omega, List.getElem?_eq_getElem h2, ?_⟩
        have hf : (s.conns[ks.length - 1]'h1).failed = true := by
          have hg : s.conns.getLast? = some (s.conns[ks.length - 1]'h1) := by
            rw [List.getLast?_eq_getElem?, ← hlen, List.getElem?_eq_getElem h1]
          simp [lastOpen, hg] at ho
          exact ho
        rw [← hf]
        exact hk
    refine ret_use (conn_new w p ks.length _ _ cv _ _ _ _ _ ks _ hp.hdr hp.conns hl (by omega)) ?_
    rintro v w' ⟨rfl, cv', h1, h2, h3, h4⟩
    have hw : w.heap.size < w'.heap.size := h3.lt
    have hS : ∀ j, j ≠ 1 → j ≠ 3 → ∀ g, g < w.heap.size → (g = p ∨ cv.ownBlock = some g) → col g ≠ j := by
      rintro j j1 j3 g _ (rfl | e)
      · rw [hp.colp]; omega
      · rw [hp.conns.2 g e]; omega
    -- the labels: the new connection's block, the rest that is new is the list's
    obtain ⟨col', hc'⟩ : ∃ col' : Nat → Nat, col' = fun g => if g = w.heap.size then 6 + ks.length else recol w.heap.size col 3 g := ⟨_, rfl⟩
    have hold : ∀ g, g < w.heap.size → col' g = col g := fun g hg => by rw [hc']; dsimp only; rw [if_neg (by omega), recol_old hg]
    have hkeep : ∀ {j : Nat} {e : TypeId} {size n : Nat} {v : Value} {xs : List Value}, j ≠ 1 → j ≠ 3 → Own w (fun g => col g = j) e size v n xs → Own w' (fun g => col' g = j) e size v n xs := fun j1 j3 ho => by
      have h5 := ho.keep (L := 3) h4 (hS _ j1 j3)
      exact ⟨h5.1, fun g hg => (hold g (ho.lt g hg)).trans (ho.2 g hg)⟩
    refine ⟨ks, w.heap.size, rfl, ⟨col', pv, cv', wv, lv, ⟨h1, by rw [hold p hp.hdr.lt]; exact hp.colp, hkeep (by decide) (by decide) hp.plan, ?_, ?_, fun i k c hi hc => ?_, hkeep (by decide) (by decide) hp.whole, hkeep (by decide) (by decide) hp.lost⟩, fun g hg hc => ?_⟩, h4.mono fun g hg e => ?_⟩
    · have h6 : Own w' _ _ _ _ _ _ := h2
      rw [List.length_append, List.length_cons, List.length_nil]
      refine ⟨h6.1, fun g hg => ?_⟩
      have hne : g ≠ w.heap.size := fun e => (h6.ne_cells h3 (by decide)) (e ▸ hg)
      show col' g = 3
      rw [hc']
      dsimp only
      rw [if_neg hne]
      rcases h6.2 g hg with e | ⟨e, _⟩
      · rw [recol_old (hp.conns.lt g e)]; exact hp.conns.2 g e
      · exact recol_new e
    · simp [he, hlen]
    · rw [he] at hc
      rcases Nat.lt_or_ge i ks.length with hi' | hi'
      · rw [List.getElem?_append_left hi'] at hi
        rw [List.getElem?_append_left (by omega)] at hc
        obtain ⟨c1, bv, c2, c3⟩ := hp.each i k c hi hc
        have hkp : k ≠ p := c2.ne_ hp.hdr (by decide)
        have hkc : cv.ownBlock ≠ some k := hp.conns.ne_cells c2 (by decide)
        exact ⟨by rw [hold k c2.lt]; exact c1, bv, c2.mods h4 (by rintro (e | e); exact hkp e; exact hkc e), hkeep (by omega) (by omega) c3⟩
      · rw [List.getElem?_append_right hi'] at hi
        rw [List.getElem?_append_right (by omega)] at hc
        have hi0 : i - ks.length = 0 := by
          rcases Nat.eq_zero_or_pos (i - ks.length) with h0 | h0
          · exact h0
          · rw [List.getElem?_eq_none (by simp; omega)] at hi; cases hi
        rw [hi0] at hi
        rw [← hlen, hi0] at hc
        simp at hi hc
        subst hi
        subst hc
        have : i = ks.length := by omega
        subst this
        exact ⟨by rw [hc']; simp, .slice none 0 0, h3, Own.nil _ _ _ _⟩
    · rcases Nat.lt_or_ge g w.heap.size with h7 | h7
      · rw [hold g h7] at hc; exact .inl (hF g h7 hc)
      · exact .inr h7
    · rcases e with rfl | e
      · exact hF _ hg (by rw [hp.colp]; decide)
      · exact hF g hg (by rw [hp.conns.2 g e]; decide)
end Go.Proofs.YtmfpgghpnkmkpaaDoor
