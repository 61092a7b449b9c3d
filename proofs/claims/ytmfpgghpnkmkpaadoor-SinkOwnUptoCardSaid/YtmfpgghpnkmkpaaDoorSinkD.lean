/- A write, and a failure, of a sink in memory. -/
import Derived.Test.YtmfpgghpnkmkpaaDoorSinkC
namespace Go.Proofs.YtmfpgghpnkmkpaaDoor
open Go.RowKit Go.Tum
theorem write_K (w : World) (p k : Nat) (plan : Plan) (s : SinkS) (base : List ConnS) (c : ConnS) (ks : List Nat) (F H : Nat → Prop) (bs ev : Value) (b : List UInt8) (h : SinkK w p plan s (ks ++ [k]) F) (hs : s.conns = base ++ [c])
    (hg : w.cell? ⟨0, 0, none⟩ = some ev) (h0 : ¬ F 0) (hb : Rd w H 1 bs b.length (vbs b)) (hH : ∀ g, H g → g < w.heap.size ∧ ¬ F g)
    (b1 : plan.length ≤ 1000000000) (b2 : b.length ≤ 1000000000) (b3 : c.bytes.length ≤ 1000000000) (b4 : s.writes ≤ 1000000000000) :
    Calls Tryd.prog 28 #[(.pointer (some ⟨p, 0, none⟩)), (.pointer (some ⟨k, 0, none⟩)), bs] w (Ret fun v w' => v = .tuple #[.int .i64 (pick plan s.writes b.length).1, if (pick plan s.writes b.length).2 then ev else .nilIface] ∧
      SinkK w' p plan { s with conns := base ++ [⟨c.bytes ++ b.take (pick plan s.writes b.length).1, c.failed⟩], writes := s.writes + 1 } (ks ++ [k]) (Ext F w.heap.size) ∧ Mods F w w') := by
  obtain ⟨col, pv, cv, wv, lv, hp, hF⟩ := h
  have hlen := hp.len
  have hl' : ks.length = base.length := by simpa [hs] using hlen
  obtain ⟨ck, bv, hk, ho⟩ := hp.each ks.length k c (by simp) (by rw [hs, hl']; simp)
  have hFp : F p := hF p hp.hdr.lt (by rw [hp.colp]; decide)
  have hFk : F k := hF k hk.lt (by omega)
  have hFb : ∀ g, bv.ownBlock = some g → F g := fun g e => hF g (ho.lt g e) (by rw [ho.2 g e]; omega)
  refine ret_use (write_any w p k s.writes _ pv cv _ _ wv lv bv bs ev c.failed c.bytes b plan _ (fun g => pv.ownBlock = some g) H hp.hdr hk ho hg hp.plan.tight.rd (fun g e => hp.plan.lt g e) hb
    (fun g hg => ⟨(hH g hg).1, fun e => (hH g hg).2 (e ▸ hFp), fun e => (hH g hg).2 (e ▸ hFk), fun e => (hH g hg).2 (hFb g e)⟩) ⟨fun e => h0 (e ▸ hFp), fun e => h0 (e ▸ hFk), fun e => h0 (hFb _ e)⟩ b1 b2 b3 b4) ?_
  rintro v w' ⟨rfl, h1, ⟨bv', h2, h3⟩, h4⟩
  have hS : ∀ j, j ≠ 1 → j ≠ 6 + ks.length → ∀ g, g < w.heap.size → (g = p ∨ g = k ∨ bv.ownBlock = some g) → col g ≠ j := by
    rintro j j1 j2 g _ (rfl | rfl | e)
    · rw [hp.colp]; omega
    · rw [ck]; omega
    · rw [ho.2 g e]; omega
  refine ⟨rfl, ⟨recol w.heap.size col (6 + ks.length), pv, cv, wv, lv, ⟨h1, by rw [recol_old hp.hdr.lt]; exact hp.colp, hp.plan.keep h4 (hS 2 (by decide) (by omega)), hp.conns.keep h4 (hS 3 (by decide) (by omega)), ?_, fun i k' c' hi hc => ?_, hp.whole.keep h4 (hS 4 (by decide) (by omega)), hp.lost.keep h4 (hS 5 (by decide) (by omega))⟩, fun g hg hc => ?_⟩, h4.mono fun g hg e => ?_⟩
  · simp [hl']
  · rcases Nat.lt_or_ge i ks.length with hi' | hi'
    · have hi0 := hi
      rw [List.getElem?_append_left hi'] at hi
      rw [List.getElem?_append_left (by omega)] at hc
      exact (hp.each i k' c' hi0 (by rw [hs, List.getElem?_append_left (by omega)]; exact hc)).keep h4 (hS _ (by omega) (by omega))
    · rw [List.getElem?_append_right hi'] at hi
      rw [List.getElem?_append_right (by omega)] at hc
      have hi0 : i - ks.length = 0 := by
        rcases Nat.eq_zero_or_pos (i - ks.length) with h0 | h0
        · exact h0
        · rw [List.getElem?_eq_none (by simp; omega)] at hi; cases hi
      rw [hi0] at hi
      rw [← hl', hi0] at hc
      simp at hi hc
      subst hi
      subst hc
      have : i = ks.length := by omega
      subst this
      refine ⟨by rw [recol_old hk.lt]; exact ck, bv', h2, ⟨h3.1, fun g hg => ?_⟩⟩
      show recol w.heap.size col (6 + ks.length) g = 6 + ks.length
      rcases h3.2 g hg with e | ⟨e, _⟩
      · rw [recol_old (ho.lt g e)]; exact ho.2 g e
      · exact recol_new e
  · rcases Nat.lt_or_ge g w.heap.size with h7 | h7
    · rw [recol_old h7] at hc; exact .inl (hF g h7 hc)
    · exact .inr h7
  · rcases e with rfl | rfl | e
    · exact hFp
    · exact hFk
    · exact hFb g e
/-- 'c.failed = true'. -/
theorem fail_K (w : World) (p k : Nat) (plan : Plan) (s : SinkS) (base : List ConnS) (c : ConnS) (ks : List Nat) (F : Nat → Prop) (h : SinkK w p plan s (ks ++ [k]) F) (hs : s.conns = base ++ [c]) :
    w.cell? ⟨k, 1, none⟩ = some (.bool c.failed) ∧ w.frozen? ⟨k, 1, none⟩ = false ∧ SinkK (w.setCell ⟨k, 1, none⟩ (.bool true)) p plan { s with conns := base ++ [⟨c.bytes, true⟩] } (ks ++ [k]) F ∧ Mods F w (w.setCell ⟨k, 1, none⟩ (.bool true)) := by
  obtain ⟨col, pv, cv, wv, lv, hp, hF⟩ := h
  have hlen := hp.len
  have hl' : ks.length = base.length := by simpa [hs] using hlen
  obtain ⟨ck, bv, hk, ho⟩ := hp.each ks.length k c (by simp) (by rw [hs, hl']; simp)
  have hFk : F k := hF k hk.lt (by omega)
  have hm : Mods (fun g => g = k) w (w.setCell ⟨k, 1, none⟩ (.bool true)) := (Mods.refl _ w).setCell _ _ fun _ => rfl
  have hkp : k ≠ p := hk.ne_ hp.hdr (by decide)
  have hS : ∀ j, j ≠ 6 + ks.length → ∀ g, g < w.heap.size → g = k → col g ≠ j := by
    rintro j j2 g _ rfl
    rw [ck]; omega
  have hsz : (w.setCell ⟨k, 1, none⟩ (.bool true)).heap.size = w.heap.size := by simp [World.setCell]
  refine ⟨hk.at_ 1 rfl, hk.frozen 1, ⟨recol w.heap.size col 0, pv, cv, wv, lv, ⟨hp.hdr.mods hm (fun e => hkp e.symm), by rw [recol_old hp.hdr.lt]; exact hp.colp, hp.plan.keep hm (hS 2 (by omega)), hp.conns.keep hm (hS 3 (by omega)), ?_, fun i k' c' hi hc => ?_, hp.whole.keep hm (hS 4 (by omega)), hp.lost.keep hm (hS 5 (by omega))⟩, fun g hg hc => ?_⟩, hm.mono fun g _ e => e ▸ hFk⟩
  · simp [hl']
  · rcases Nat.lt_or_ge i ks.length with hi' | hi'
    · have hi0 := hi
      rw [List.getElem?_append_left hi'] at hi
      rw [List.getElem?_append_left (by omega)] at hc
      exact (hp.each i k' c' hi0 (by rw [hs, List.getElem?_append_left (by omega)]; exact hc)).keep hm (hS _ (by omega))
    · rw [List.getElem?_append_right hi'] at hi
      rw [List.getElem?_append_right (by omega)] at hc
      have hi0 : i - ks.length = 0 := by
        rcases Nat.eq_zero_or_pos (i - ks.length) with h0 | h0
        · exact h0
        · rw [List.getElem?_eq_none (by simp; omega)] at hi; cases hi
      rw [hi0] at hi
      rw [← hl', hi0] at hc
      simp at hi hc
      subst hi
      subst hc
      have : i = ks.length := by omega
      subst this
      refine ⟨by rw [recol_old hk.lt]; exact ck, bv, by simpa using hk.set_ 1 (.bool true), ?_⟩
      have hbk : bv.ownBlock ≠ some k := ho.ne_cells hk (by decide)
      have h5 : Own (w.setCell ⟨k, 1, none⟩ (.bool true)) _ _ _ _ _ _ := ho.tight.same (Same.setCell w ⟨k, 1, none⟩ _ (fun e => hbk e))
      exact ⟨h5.1, fun g hg => (recol_old (ho.lt g hg)).trans (ho.2 g hg)⟩
  · rw [hsz] at hg
    rw [recol_old hg] at hc
    exact hF g hg hc
end Go.Proofs.YtmfpgghpnkmkpaaDoor
