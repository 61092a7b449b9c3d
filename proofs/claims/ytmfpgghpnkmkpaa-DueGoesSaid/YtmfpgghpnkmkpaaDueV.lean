/- Both queues side by side in memory. -/
import Derived.Test.YtmfpgghpnkmkpaaDueU
import Derived.Test.YtmfpgghpnkmkpaaDueO
namespace Go.Proofs.Ytmfpgghpnkmkpaa
open Go.RowKit Go.Tum Go.Shelf
set_option maxRecDepth 100000
/-- The queue q in the blocks Fd, the reference's r with the slice v in the blocks Fr; n0: older blocks are not theirs. -/
structure TwoL (w : World) (q r : Nat) (lim : Int) (s : QS) (L : List Ent) (n0 : Nat) (v : Value) (Fd Fr : Nat → Prop) : Prop where
  hq : QueueK w q lim s.1 s.2 Fd
  hr : RK w r lim v L Fr
  fd : ∀ g, Fd g → n0 ≤ g ∧ g < w.heap.size ∧ g ≠ r ∧ ¬ Fr g
  nr : n0 ≤ r
def Two (w : World) (q r : Nat) (lim : Int) (s : QS) (L : List Ent) (n0 : Nat) : Prop := ∃ v Fd Fr, TwoL w q r lim s L n0 v Fd Fr
section
variable {w w' : World} {q r n0 : Nat} {lim : Int} {s : QS} {L : List Ent} {v : Value} {Fd Fr : Nat → Prop}
theorem TwoL.two (h : TwoL w q r lim s L n0 v Fd Fr) : Two w q r lim s L n0 := ⟨v, Fd, Fr, h⟩
theorem TwoL.mods {S : Nat → Prop} (h : TwoL w q r lim s L n0 v Fd Fr) (hm : Mods S w w') (h1 : ∀ g, Fd g → ¬ S g) (h2 : ∀ g, Fr g → ¬ S g) (h3 : ¬ S r) : TwoL w' q r lim s L n0 v Fd Fr :=
  ⟨h.hq.mods hm fun g _ hg => h1 g hg, h.hr.mods hm h3 h2, fun g hg => by have := h.fd g hg; exact ⟨this.1, Nat.lt_of_lt_of_le this.2.1 hm.size, this.2.2⟩, h.nr⟩
theorem TwoL.no (h : TwoL w q r lim s L n0 v Fd Fr) (hm : Mods No w w') : TwoL w' q r lim s L n0 v Fd Fr := h.mods hm (fun _ _ e => e) (fun _ _ e => e) fun e => e
theorem Two.no (h : Two w q r lim s L n0) (hm : Mods No w w') : Two w' q r lim s L n0 := by obtain ⟨v, Fd, Fr, h⟩ := h; exact ⟨v, Fd, Fr, h.no hm⟩
theorem TwoL.cells (h : TwoL w q r lim s L n0 v Fd Fr) : Cells w r 40 #[.int .i64 lim, v] := h.hr.cells
theorem TwoL.le (h : TwoL w q r lim s L n0 v Fd Fr) : n0 ≤ w.heap.size := by have := h.nr; have := h.hr.cells.lt; omega
theorem TwoL.form (h : TwoL w q r lim s L n0 v Fd Fr) : ∃ A c, v = .slice A L.length c := by obtain ⟨A, c, e, _⟩ := h.hr.rd.form; exact ⟨A, c, e⟩
/-- the queue's part has changed within Fd -/
theorem TwoL.turnq (h : TwoL w q r lim s L n0 v Fd Fr) {s' : QS} (hm : Mods Fd w w') (hq : QueueK w' q lim s'.1 s'.2 (Ext Fd w.heap.size)) :
    TwoL w' q r lim s' L n0 v (fun g => Fd g ∨ (w.heap.size ≤ g ∧ g < w'.heap.size)) Fr := by
  refine ⟨hq.tight.more fun g hg => ?_, h.hr.mods hm (fun e => (h.fd _ e).2.2.1 rfl) (fun g hg e => (h.fd _ e).2.2.2 hg), fun g hg => ?_, h.nr⟩
  · rcases hg with ⟨hg | hg, hl⟩
    · exact .inl hg
    · exact .inr ⟨hg, hl⟩
  · rcases hg with hg | hg
    · have := h.fd g hg
      exact ⟨this.1, Nat.lt_of_lt_of_le this.2.1 hm.size, this.2.2⟩
    · have h1 := h.hr.cells.lt
      have h2 := h.nr
      exact ⟨by omega, hg.2, by omega, fun e => by have := h.hr.lt g e; omega⟩
/-- the reference's part has changed -/
theorem TwoL.turnr (h : TwoL w q r lim s L n0 v Fd Fr) {L' : List Ent} {G : Nat → Prop} {v' : Value} (hm : Mods (fun k => k = r) w w') (hr : RK w' r lim v' L' G) (hG : ∀ g, G g → Fr g ∨ w.heap.size ≤ g) :
    TwoL w' q r lim s L' n0 v' Fd G := by
  refine ⟨h.hq.mods hm fun g _ hg => (h.fd g hg).2.2.1, hr, fun g hg => ?_, h.nr⟩
  have := h.fd g hg
  refine ⟨this.1, Nat.lt_of_lt_of_le this.2.1 hm.size, this.2.2.1, fun e => ?_⟩
  rcases hG g e with k | k
  · exact this.2.2.2 k
  · omega
theorem TwoL.setq (h : TwoL w q r lim s L n0 v Fd Fr) (h0 : 0 < lim) (h1 : lim ≤ 65536) (key : List UInt8) (t : Int) (hl : key.length ≤ 281474976710656) :
    Calls Try.prog 9 #[(.pointer (some ⟨q, 0, none⟩)), ks key, .int .i64 t] w (Ret fun u w' => u = .int .i64 (setQ lim s key t).2 ∧ Mods Fd w w' ∧ TwoL w' q r lim (setQ lim s key t).1 L n0 v (fun g => Fd g ∨ (w.heap.size ≤ g ∧ g < w'.heap.size)) Fr) :=
  ret_use (set_K w q lim s Fd key t h.hq h0 h1 hl) fun _ _ ⟨e1, e2, e3⟩ => ⟨e1, e3, h.turnq e3 e2⟩
theorem TwoL.dropq (h : TwoL w q r lim s L n0 v Fd Fr) (h0 : 0 < lim) (key : List UInt8) (hl : key.length ≤ maxLen) :
    Calls Try.prog 22 #[(.pointer (some ⟨q, 0, none⟩)), ks key] w (Ret fun u w' => u = .bool (dropQ s key).2 ∧ Mods Fd w w' ∧ TwoL w' q r lim (dropQ s key).1 L n0 v (fun g => Fd g ∨ (w.heap.size ≤ g ∧ g < w'.heap.size)) Fr) :=
  ret_use (drop_K w q lim s Fd key h.hq h0 hl) fun _ _ ⟨e1, e2, e3⟩ => ⟨e1, e3, h.turnq e3 (e2.more fun _ e => .inl e)⟩
theorem TwoL.takeq (h : TwoL w q r lim s L n0 v Fd Fr) (h0 : 0 < lim) (now : Int) :
    Calls Try.prog 11 #[(.pointer (some ⟨q, 0, none⟩)), .int .i64 now] w (Ret fun u w' => Tum.Own w' (fun g => w.heap.size ≤ g) 29 2 u (takeQ now s.2 s).1.length (entsL (takeQ now s.2 s).1) ∧ Mods Fd w w' ∧ TwoL w' q r lim (takeQ now s.2 s).2 L n0 v Fd Fr) :=
  ret_use (take_K w q lim s Fd now h.hq h0 fun g hg => (h.fd g hg).2.1) fun _ w' ⟨e1, e2, e3⟩ => ⟨e1, e3, by
    have := h.turnq e3 (e2.more fun _ e => .inl e)
    exact ⟨e2, this.hr, fun g hg => this.fd g (.inl hg), h.nr⟩⟩
theorem TwoL.setr (h : TwoL w q r lim s L n0 v Fd Fr) (h1 : lim ≤ 65536) (key : List UInt8) (t : Int) :
    Calls Try.prog 17 #[(.pointer (some ⟨r, 0, none⟩)), ks key, .int .i64 t] w (Ret fun u w' => u = .int .i64 (refSet lim L key t).2 ∧ Mods (fun k => k = r) w w' ∧ ∃ v' Fr', TwoL w' q r lim s (refSet lim L key t).1 n0 v' Fd Fr' ∧ ∀ g, Fr' g → Fr g ∨ w.heap.size ≤ g) :=
  ret_use (rset_K w r lim L Fr key t ⟨v, h.hr⟩ h1) fun _ _ ⟨e1, e2, G, ⟨v', e3⟩, e4⟩ => ⟨e1, e2, v', G, h.turnr e2 e3 e4, e4⟩
theorem TwoL.dropr (h : TwoL w q r lim s L n0 v Fd Fr) (key : List UInt8) :
    Calls Try.prog 23 #[(.pointer (some ⟨r, 0, none⟩)), ks key] w (Ret fun u w' => u = .bool (refDrop L key).2 ∧ Mods (fun k => k = r) w w' ∧ ∃ v' Fr', TwoL w' q r lim s (refDrop L key).1 n0 v' Fd Fr' ∧ ∀ g, Fr' g → Fr g ∨ w.heap.size ≤ g) :=
  ret_use (rdrop_K w r lim L Fr key ⟨v, h.hr⟩) fun _ _ ⟨e1, e2, G, ⟨v', e3⟩, e4⟩ => ⟨e1, e2, v', G, h.turnr e2 e3 e4, e4⟩
theorem TwoL.taker (h : TwoL w q r lim s L n0 v Fd Fr) (now : Int) :
    Calls Try.prog 18 #[(.pointer (some ⟨r, 0, none⟩)), .int .i64 now] w (Ret fun u w' => Rd w' Fr 2 u (L.takeWhile (due now)).length (entsL (L.takeWhile (due now))) ∧ Mods (fun k => k = r) w w' ∧ ∃ v', TwoL w' q r lim s (L.dropWhile (due now)) n0 v' Fd Fr) :=
  ret_use (rtake_K w r lim L Fr now ⟨v, h.hr⟩) fun _ _ ⟨e1, e2, v', e3⟩ => ⟨e1, e2, v', h.turnr e2 e3 fun _ e => .inl e⟩
theorem TwoL.all (h : TwoL w q r lim s L n0 v Fd Fr) (h0 : 0 < lim) (most : Int) (hl : (s.2 : Int) ≤ most) :
    Calls Try.prog 20 #[(.pointer (some ⟨q, 0, none⟩)), .int .i64 most] w (Ret fun u w' => Tum.Own w' (fun b => w.heap.size ≤ b) 29 2 u (srt s).length (entsL (srt s)) ∧ Mods No w w') := by
  have := allq_K w q lim s Fd most h.hq h0
  rw [upTo_all fun _ => by rw [srt_len]; exact hl] at this
  exact this
end
end Go.Proofs.Ytmfpgghpnkmkpaa
