/- Two queues beside blocks that are to stay; what holds between two rounds of DueGoes' range. -/
import Derived.Test.YtmfpgghpnkmkpaaDueOwn
import Derived.Test.YtmfpgghpnkmkpaaDueX
import Derived.Test.YtmfpgghpnkmkpaaPorIn
namespace Go.Proofs.Ytmfpgghpnkmkpaa
open Go.RowKit Go.Tum Go.Shelf
set_option maxRecDepth 100000
/-- The blocks of G are no queue's. -/
structure TwoG (w : World) (q r : Nat) (s : QS) (n0 : Nat) (v : Value) (Fd Fr G : Nat → Prop) : Prop where
  qi : QI s.1 s.2
  two : TwoL w q r 65536 s (srt s) n0 v Fd Fr
  gd : ∀ g, G g → g < w.heap.size ∧ ¬ Fd g ∧ g ≠ r
section
variable {w w' : World} {q r n0 : Nat} {s : QS} {v : Value} {Fd Fr G : Nat → Prop}
theorem TwoG.mods {S : Nat → Prop} (h : TwoG w q r s n0 v Fd Fr G) (hm : Mods S w w') (h1 : ∀ g, S g → ¬ Fd g ∧ ¬ Fr g ∧ g ≠ r) : TwoG w' q r s n0 v Fd Fr G :=
  ⟨h.qi, h.two.mods hm (fun g hg e => (h1 g e).1 hg) (fun g hg e => (h1 g e).2.1 hg) (fun e => (h1 r e).2.2 rfl), fun g hg => by have := h.gd g hg; exact ⟨Nat.lt_of_lt_of_le this.1 hm.size, this.2⟩⟩
theorem TwoG.no (h : TwoG w q r s n0 v Fd Fr G) (hm : Mods No w w') : TwoG w' q r s n0 v Fd Fr G := h.mods hm fun _ e => e.elim
abbrev Qs (n0 r : Nat) (G : Nat → Prop) : Nat → Prop := fun g => n0 ≤ g ∧ ¬ G g ∧ g ≠ r
theorem TwoG.qs (h : TwoG w q r s n0 v Fd Fr G) (hm : Mods Fd w w') : Mods (Qs n0 r G) w w' := hm.mono fun g _ hg => ⟨(h.two.fd g hg).1, fun e => (h.gd g e).2.1 hg, (h.two.fd g hg).2.2.1⟩
theorem TwoG.setq (h : TwoG w q r s n0 v Fd Fr G) (key : List UInt8) (t : Int) (hl : key.length ≤ 281474976710656) :
    Calls Try.prog 9 #[(.pointer (some ⟨q, 0, none⟩)), ks key, .int .i64 t] w (Ret fun u w' => u = .int .i64 (setQ 65536 s key t).2 ∧ Mods Fd w w' ∧ TwoL w' q r 65536 (setQ 65536 s key t).1 (srt s) n0 v (fun g => Fd g ∨ (w.heap.size ≤ g ∧ g < w'.heap.size)) Fr) := h.two.setq (by decide) (by decide) key t hl
/-- behind both Sets -/
theorem TwoG.set2 {s' : QS} {v' : Value} {Fd' Fr' : Nat → Prop} {w3 w4 : World} (h : TwoG w q r s n0 v Fd Fr G) (hq : QI s'.1 s'.2) (hm3 : Mods Fd w w3) (hm4 : Mods (fun k => k = r) w3 w4) (ht : TwoL w4 q r 65536 s' (srt s') n0 v' Fd' Fr') (hF : ∀ g, Fd' g → Fd g ∨ w.heap.size ≤ g) : TwoG w4 q r s' n0 v' Fd' Fr' G :=
  ⟨hq, ht, fun g hg => by
    have h5 := h.gd g hg
    exact ⟨Nat.lt_of_lt_of_le h5.1 (Nat.le_trans hm3.size hm4.size), fun e => by rcases hF g e with e | e; exact h5.2.1 e; omega, h5.2.2⟩⟩
end
/-- The boxes of DueGoes' variables. -/
structure Bxs (w : World) (b b9 q : Nat) (at_ : Int) (key : List UInt8) (t : Int) : Prop where
  c5 : Cells w b 3 #[.int .i64 at_]
  c6 : Cells w (b + 1) 9 #[ks key]
  c7 : Cells w (b + 1 + 1) 2 #[.int .i64 t]
  c8 : Cells w (b + 1 + 1 + 1) 4 #[.bool false]
  c9 : Cells w b9 23 #[(.pointer (some ⟨q, 0, none⟩))]
theorem Bxs.same {w w' : World} {b b9 q : Nat} {at_ : Int} {key : List UInt8} {t : Int} {F : Nat → Prop} (h : Bxs w b b9 q at_ key t) (hs : Same F w w') (h1 : ∀ g, g < b + 4 → F g) (h9 : F b9) : Bxs w' b b9 q at_ key t :=
  ⟨h.c5.same hs (h1 _ (by omega)), h.c6.same hs (h1 _ (by omega)), h.c7.same hs (h1 _ (by omega)), h.c8.same hs (h1 _ (by omega)), h.c9.same hs h9⟩
theorem Bxs.mods {w w' : World} {b b9 q : Nat} {at_ : Int} {key : List UInt8} {t : Int} {S : Nat → Prop} (h : Bxs w b b9 q at_ key t) (hm : Mods S w w') (h1 : ∀ g, g < b + 4 → ¬ S g) (h9 : ¬ S b9) : Bxs w' b b9 q at_ key t :=
  ⟨h.c5.mods hm (h1 _ (by omega)), h.c6.mods hm (h1 _ (by omega)), h.c7.mods hm (h1 _ (by omega)), h.c8.mods hm (h1 _ (by omega)), h.c9.mods hm h9⟩
def G2 (nS r : Nat) (Fd2 : Nat → Prop) : Nat → Prop := fun g => g < nS ∧ ¬ Fd2 g ∧ g ≠ r
/-- Within a round: pre is in the box b14 as u. -/
structure GoC (W wS : World) (q r n0 b14 : Nat) (Fd2 : Nat → Prop) (m : Nat) (pre : List Ent) (u : Value) (w : World) (s : QS) (v : Value) (Fd Fr : Nat → Prop) : Prop where
  tg : TwoG w q r s n0 v Fd Fr (G2 wS.heap.size r Fd2)
  fd : ∀ g, Fd g → g < wS.heap.size ∨ m ≤ g
  fr : ∀ g, Fr g → g < wS.heap.size ∨ m ≤ g
  sm : Same (fun g => G2 wS.heap.size r Fd2 g ∧ g ≠ b14) wS w
  box : Cells w b14 22 #[u]
  own : Tum.Own w (fun g => m ≤ g) 29 2 u pre.length (entsL pre)
  ap : ∀ g, u.ownBlock = some g → ¬ Fd g ∧ ¬ Fr g
  fb : ¬ Fr b14
  hm : Mods No W w
  le : m ≤ w.heap.size
section
variable {W wS : World} {q r n0 b14 m : Nat} {Fd2 Fd Fr : Nat → Prop} {pre : List Ent} {u v : Value} {w w' : World} {s : QS}
/-- the fixed facts: where things lie -/
structure GoK (W wS : World) (r n0 b14 m : Nat) (Fd2 : Nat → Prop) : Prop where
  r1 : r < wS.heap.size
  b1 : G2 wS.heap.size r Fd2 b14
  nm : wS.heap.size ≤ m
  wn : W.heap.size ≤ n0
  rn : n0 ≤ r
  bw : W.heap.size ≤ b14
theorem GoC.mods {S : Nat → Prop} (h : GoC W wS q r n0 b14 Fd2 m pre u w s v Fd Fr) (k : GoK W wS r n0 b14 m Fd2) (hm : Mods S w w') (hS : ∀ g, S g → wS.heap.size ≤ g ∧ g < m) : GoC W wS q r n0 b14 Fd2 m pre u w' s v Fd Fr := by
  have kr := k.r1
  have kb := k.b1.1
  refine ⟨h.tg.mods hm fun g hg => ?_, h.fd, h.fr, h.sm.trans fun g hg => hm.block g (h.tg.gd g hg.1).1 fun e => ?_, h.box.mods hm fun e => ?_, h.own.mods hm fun g hg e => ?_, h.ap, h.fb, h.hm.trans hm fun g hg e => ?_, Nat.le_trans h.le hm.size⟩
  · have := hS g hg
    refine ⟨fun e => ?_, fun e => ?_, by omega⟩
    · have := h.fd g e; omega
    · have := h.fr g e; omega
  · have h1 := hS g e
    have h2 : g < wS.heap.size := hg.1.1
    omega
  · have := hS _ e; omega
  · have h1 := hS g e
    have h2 : m ≤ g := h.own.2 g hg
    omega
  · have h1 := hS g e
    have h2 := k.wn
    have h3 := k.rn
    omega
theorem GoC.no (h : GoC W wS q r n0 b14 Fd2 m pre u w s v Fd Fr) (k : GoK W wS r n0 b14 m Fd2) (hm : Mods No w w') : GoC W wS q r n0 b14 Fd2 m pre u w' s v Fd Fr := h.mods k hm fun _ e => e.elim
/-- the queues have turned -/
theorem GoC.turn (h : GoC W wS q r n0 b14 Fd2 m pre u w s v Fd Fr) (k : GoK W wS r n0 b14 m Fd2) {s' : QS} {v' : Value} {Fd' Fr' : Nat → Prop} {w3 w4 : World} (hq : QI s'.1 s'.2) (hm3 : Mods Fd w w3) (hm4 : Mods (fun k => k = r) w3 w4)
    (ht : TwoL w4 q r 65536 s' (srt s') n0 v' Fd' Fr') (hF : ∀ g, Fd' g → Fd g ∨ w.heap.size ≤ g) (hG : ∀ g, Fr' g → Fr g ∨ w.heap.size ≤ g) :
    GoC W wS q r n0 b14 Fd2 m pre u w4 s' v' Fd' Fr' ∧ Mods (fun b => b < wS.heap.size ∨ m ≤ b) w w4 := by
  have kr := k.r1
  have hmm : Mods (fun g => Fd g ∨ g = r) w w4 := (hm3.mono fun _ _ e => .inl e).trans hm4 fun _ _ e => .inr e
  have hl := h.le
  refine ⟨⟨h.tg.set2 hq hm3 hm4 ht hF, fun g hg => ?_, fun g hg => ?_, h.sm.trans fun g hg => hmm.block g (h.tg.gd g hg.1).1 fun e => ?_, h.box.mods hmm fun e => ?_, h.own.mods hmm fun g hg e => ?_, fun g hg => ⟨fun e => ?_, fun e => ?_⟩, fun e => ?_, h.hm.trans hmm fun g hg e => ?_, Nat.le_trans hl hmm.size⟩, hmm.mono fun g _ e => ?_⟩
  · rcases hF g hg with e | e
    · exact h.fd g e
    · exact .inr (by omega)
  · rcases hG g hg with e | e
    · exact h.fr g e
    · exact .inr (by omega)
  · rcases e with e | e
    · exact (h.tg.gd g hg.1).2.1 e
    · exact hg.1.2.2 e
  · rcases e with e | e
    · exact (h.tg.gd _ k.b1).2.1 e
    · exact k.b1.2.2 e
  · rcases e with e | e
    · exact (h.ap g hg).1 e
    · have h2 : m ≤ g := h.own.2 g hg
      have := k.nm
      omega
  · rcases hF g e with e | e
    · exact (h.ap g hg).1 e
    · have := h.own.lt g hg; omega
  · rcases hG g e with e | e
    · exact (h.ap g hg).2 e
    · have := h.own.lt g hg; omega
  · rcases hG _ e with e | e
    · exact h.fb e
    · have := (h.tg.gd _ k.b1).1; omega
  · have h2 := k.wn
    have h3 := k.rn
    rcases e with e | e
    · have := (h.tg.two.fd g e).1; omega
    · omega
  · rcases e with e | e
    · exact h.fd g e
    · exact .inl (by omega)
/-- one entry more is collected -/
theorem GoC.put (h : GoC W wS q r n0 b14 Fd2 m pre u w s v Fd Fr) (k : GoK W wS r n0 b14 m Fd2) {x : Ent} {o : Obj} {w4 : World} {u4 : Value} {n : Nat} (hn : n = pre.length + 1)
    (hO : Tum.Own w4 (fun k => u.ownBlock = some k ∨ k = (w.alloc o).heap.size) 29 2 u4 n (entsL pre ++ [ks x.1, .int .i64 x.2])) (hm4 : Mods (fun k => u.ownBlock = some k) (w.alloc o) w4) :
    GoC W wS q r n0 b14 Fd2 m (pre ++ [x]) u4 (w4.setCell ⟨b14, 0, none⟩ u4) s v Fd Fr ∧ Mods (fun b => b < wS.heap.size ∨ m ≤ b) w (w4.setCell ⟨b14, 0, none⟩ u4) := by
  have kr := k.r1
  have kb := k.b1
  have hl := h.le
  have hmm : Mods (fun g => u.ownBlock = some g ∨ g = b14) w (w4.setCell ⟨b14, 0, none⟩ u4) := (((Mods.refl _ w).alloc o).trans (hm4.mono fun _ _ e => .inl e) fun _ _ e => e).setCell _ _ fun _ => .inr rfl
  have hob : ∀ g, u.ownBlock = some g → m ≤ g := fun g hg => h.own.2 g hg
  have kn := k.nm
  have hne : u4.ownBlock ≠ some b14 := fun e => by
    rcases hO.2 _ e with e | e
    · have := hob _ e; have := kb.1; omega
    · rw [World.size_alloc] at e; have := (h.tg.gd _ kb).1; omega
  subst hn
  refine ⟨⟨h.tg.mods hmm fun g hg => ?_, h.fd, h.fr, h.sm.trans fun g hg => hmm.block g (h.tg.gd g hg.1).1 fun e => ?_, ?_, ?_, fun g hg => ⟨fun e => ?_, fun e => ?_⟩, h.fb, h.hm.trans hmm fun g hg e => ?_, Nat.le_trans hl hmm.size⟩, hmm.mono fun g _ e => ?_⟩
  · rcases hg with e | e
    · exact ⟨(h.ap g e).1, (h.ap g e).2, fun e2 => by have := hob g e; omega⟩
    · subst e
      exact ⟨(h.tg.gd _ kb).2.1, h.fb, kb.2.2⟩
  · rcases e with e | e
    · have h1 := hob g e
      have h2 : g < wS.heap.size := hg.1.1
      omega
    · exact hg.2 e
  · exact ((h.box.alloc o).mods hm4 fun e => by have := hob _ e; have := kb.1; omega).set_ 0 u4
  · have h1 := hO.far (p := ⟨b14, 0, none⟩) hne u4
    rw [entsL_snoc] at h1
    rw [show (pre ++ [x]).length = pre.length + 1 by simp]
    refine h1.more fun k hk => ?_
    rcases hk with hk | hk
    · exact hob k hk
    · rw [World.size_alloc] at hk; omega
  · rcases hO.2 g hg with e2 | e2
    · exact (h.ap g e2).1 e
    · have := (h.tg.two.fd g e).2.1
      rw [World.size_alloc] at e2
      omega
  · rcases hO.2 g hg with e2 | e2
    · exact (h.ap g e2).2 e
    · have := h.tg.two.hr.lt g e
      rw [World.size_alloc] at e2
      omega
  · have h2 := k.wn
    have h3 := k.rn
    rcases e with e | e
    · have := hob g e; omega
    · have := k.bw; omega
  · rcases e with e | e
    · exact .inr (hob g e)
    · subst e; exact .inl kb.1
end
end Go.Proofs.Ytmfpgghpnkmkpaa
