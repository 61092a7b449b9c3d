/- Three queues side by side: two of the code's, one of the reference's. -/
import Derived.Test.YtmfpgghpnkmkpaaDueW
namespace Go.Proofs.Ytmfpgghpnkmkpaa
open Go.RowKit Go.Tum Go.Shelf
set_option maxRecDepth 100000
structure ThreeL (w : World) (q r : Nat) (lim : Int) (s : QS) (L : List Ent) (n0 : Nat) (v : Value) (Fd Fr : Nat → Prop) (p : Nat) (sp : QS) (Fp : Nat → Prop) : Prop where
  two : TwoL w q r lim s L n0 v Fd Fr
  hp : QueueK w p 1 sp.1 sp.2 Fp
  fp : ∀ g, Fp g → n0 ≤ g ∧ g < w.heap.size ∧ ¬ Fd g ∧ g ≠ r ∧ ¬ Fr g
section
variable {w w' : World} {q r n0 p : Nat} {lim : Int} {s sp : QS} {L : List Ent} {v : Value} {Fd Fr Fp : Nat → Prop}
theorem ThreeL.mods {S : Nat → Prop} (h : ThreeL w q r lim s L n0 v Fd Fr p sp Fp) (hm : Mods S w w') (h1 : ∀ g, S g → ¬ Fd g ∧ ¬ Fr g ∧ ¬ Fp g ∧ g ≠ r) : ThreeL w' q r lim s L n0 v Fd Fr p sp Fp :=
  ⟨h.two.mods hm (fun g hg e => (h1 g e).1 hg) (fun g hg e => (h1 g e).2.1 hg) (fun e => (h1 r e).2.2.2 rfl), h.hp.mods hm fun g _ hg e => (h1 g e).2.2.1 hg,
    fun g hg => by have := h.fp g hg; exact ⟨this.1, Nat.lt_of_lt_of_le this.2.1 hm.size, this.2.2⟩⟩
theorem ThreeL.no (h : ThreeL w q r lim s L n0 v Fd Fr p sp Fp) (hm : Mods No w w') : ThreeL w' q r lim s L n0 v Fd Fr p sp Fp := h.mods hm fun _ e => e.elim
theorem ThreeL.setq (h : ThreeL w q r lim s L n0 v Fd Fr p sp Fp) (h0 : 0 < lim) (h1 : lim ≤ 65536) (key : List UInt8) (t : Int) (hl : key.length ≤ 281474976710656) :
    Calls Try.prog 9 #[(.pointer (some ⟨q, 0, none⟩)), ks key, .int .i64 t] w (Ret fun u w' => u = .int .i64 (setQ lim s key t).2 ∧ Mods (Ge n0) w w' ∧ ∃ Fd', ThreeL w' q r lim (setQ lim s key t).1 L n0 v Fd' Fr p sp Fp) :=
  ret_use (h.two.setq h0 h1 key t hl) fun _ w' ⟨e1, e2, e3⟩ => ⟨e1, e2.mono fun g _ hg => (h.two.fd g hg).1, _, e3, h.hp.mods e2 fun g _ hg e => (h.fp g hg).2.2.1 e, fun g hg => by
    have h5 := h.fp g hg
    exact ⟨h5.1, Nat.lt_of_lt_of_le h5.2.1 e2.size, fun e => by rcases e with e | e; exact h5.2.2.1 e; omega, h5.2.2.2⟩⟩
theorem ThreeL.setr (h : ThreeL w q r lim s L n0 v Fd Fr p sp Fp) (h1 : lim ≤ 65536) (key : List UInt8) (t : Int) :
    Calls Try.prog 17 #[(.pointer (some ⟨r, 0, none⟩)), ks key, .int .i64 t] w (Ret fun u w' => u = .int .i64 (refSet lim L key t).2 ∧ Mods (Ge n0) w w' ∧ ∃ v' Fr', ThreeL w' q r lim s (refSet lim L key t).1 n0 v' Fd Fr' p sp Fp) :=
  ret_use (h.two.setr h1 key t) fun _ w' ⟨e1, e2, v', Fr', e3, e4⟩ => ⟨e1, e2.mono fun g _ hg => hg ▸ h.two.nr, v', Fr', e3, h.hp.mods e2 fun g _ hg => (h.fp g hg).2.2.2.1, fun g hg => by
    have h5 := h.fp g hg
    exact ⟨h5.1, Nat.lt_of_lt_of_le h5.2.1 e2.size, h5.2.2.1, h5.2.2.2.1, fun e => by rcases e4 g e with e | e; exact h5.2.2.2.2 e; omega⟩⟩
theorem ThreeL.takeq (h : ThreeL w q r lim s L n0 v Fd Fr p sp Fp) (h0 : 0 < lim) (now : Int) :
    Calls Try.prog 11 #[(.pointer (some ⟨q, 0, none⟩)), .int .i64 now] w (Ret fun u w' => Tum.Own w' (fun g => w.heap.size ≤ g) 29 2 u (takeQ now s.2 s).1.length (entsL (takeQ now s.2 s).1) ∧ Mods (Ge n0) w w' ∧ ThreeL w' q r lim (takeQ now s.2 s).2 L n0 v Fd Fr p sp Fp) :=
  ret_use (h.two.takeq h0 now) fun _ w' ⟨e1, e2, e3⟩ => ⟨e1, e2.mono fun g _ hg => (h.two.fd g hg).1, e3, h.hp.mods e2 fun g _ hg e => (h.fp g hg).2.2.1 e, fun g hg => by
    have h5 := h.fp g hg
    exact ⟨h5.1, Nat.lt_of_lt_of_le h5.2.1 e2.size, h5.2.2⟩⟩
theorem ThreeL.taker (h : ThreeL w q r lim s L n0 v Fd Fr p sp Fp) (now : Int) :
    Calls Try.prog 18 #[(.pointer (some ⟨r, 0, none⟩)), .int .i64 now] w (Ret fun u w' => Rd w' Fr 2 u (L.takeWhile (due now)).length (entsL (L.takeWhile (due now))) ∧ Mods (fun k => k = r) w w' ∧ ∃ v', ThreeL w' q r lim s (L.dropWhile (due now)) n0 v' Fd Fr p sp Fp) :=
  ret_use (h.two.taker now) fun _ w' ⟨e1, e2, v', e3⟩ => ⟨e1, e2, v', e3, h.hp.mods e2 fun g _ hg => (h.fp g hg).2.2.2.1, fun g hg => by
    have h5 := h.fp g hg
    exact ⟨h5.1, Nat.lt_of_lt_of_le h5.2.1 e2.size, h5.2.2⟩⟩
end
theorem srt_zero : srt (d0, 0) = [] := List.eq_nil_of_length_eq_zero (srt_len (d0, 0))
theorem Three.start {W w1 w2 w : World} {r : Nat} (hq : QueueK w1 (W.heap.size + 1) 65536 d0 0 (fun g => W.heap.size ≤ g ∧ g < w1.heap.size)) (hm1 : Mods No W w1) (hp : QueueK w2 (w1.heap.size + 1) 1 d0 0 (fun g => w1.heap.size ≤ g ∧ g < w2.heap.size)) (hm2 : Mods No w1 w2) (hm : Mods No w2 w) (hr : w2.heap.size ≤ r)
    (hc : Cells w r 40 #[.int .i64 65536, .slice none 0 0]) :
    ThreeL w (W.heap.size + 1) r 65536 (d0, 0) (srt (d0, 0)) W.heap.size (.slice none 0 0) (fun g => W.heap.size ≤ g ∧ g < w1.heap.size) (fun _ => False) (w1.heap.size + 1) (d0, 0) (fun g => w1.heap.size ≤ g ∧ g < w2.heap.size) := by
  have h1 := hm1.size
  have h2 := hm2.size
  have h3 := hm.size
  rw [srt_zero]
  exact ⟨⟨hq.no (hm2.trans hm fun _ _ e => e), ⟨hc, Rd.nil _ _ _, fun e => e, fun _ e => e.elim, by decide⟩, fun g hg => ⟨hg.1, by omega, by omega, fun e => e⟩, by omega⟩, hp.no hm, fun g hg => ⟨by omega, by omega, by omega, by omega, fun e => e⟩⟩
end Go.Proofs.Ytmfpgghpnkmkpaa
