/- What connections have: whole frames, and perhaps a beginning of a lost one; no program here. -/
import Derived.Test.YtmfpgghpnkmkpaaDoorSinkX
namespace Go.Proofs.YtmfpgghpnkmkpaaDoor
open Go.Tum
/-- From frame k on, a connection with these bytes left may end so that the next one begins at k'. -/
inductive Fits (l : List (List UInt8)) (wh : List Int) (fl : Bool) : List UInt8 → Nat → Nat → Prop
  | stop (k : Nat) (hk : k ≤ l.length) : Fits l wh fl [] k k
  | skip (k k' : Nat) (rest : List UInt8) (h : l[k]? = some []) (hf : Fits l wh fl rest (k + 1) k') : Fits l wh fl rest k k'
  | lost (k : Nat) (rest b : List UInt8) (h : l[k]? = some b) (hb : b ≠ []) (hw : (k : Int) ∉ wh) (hf : fl = true) (hp : rest.length < b.length) (hpre : b.take rest.length = rest) : Fits l wh fl rest k (k + 1)
  | whole (k k' : Nat) (rest b : List UInt8) (h : l[k]? = some b) (hb : b ≠ []) (hw : (k : Int) ∈ wh) (hf : Fits l wh fl rest (k + 1) k') : Fits l wh fl (b ++ rest) k k'
theorem Fits.inv {l : List (List UInt8)} {wh : List Int} {fl : Bool} {rest : List UInt8} {k k' : Nat} (h : Fits l wh fl rest k k') :
    (rest = [] ∧ k' = k ∧ k ≤ l.length) ∨ (l[k]? = some [] ∧ Fits l wh fl rest (k + 1) k') ∨
    (∃ b, l[k]? = some b ∧ b ≠ [] ∧ (k : Int) ∉ wh ∧ fl = true ∧ rest.length < b.length ∧ b.take rest.length = rest ∧ k' = k + 1) ∨
    ∃ b r, l[k]? = some b ∧ b ≠ [] ∧ (k : Int) ∈ wh ∧ rest = b ++ r ∧ Fits l wh fl r (k + 1) k' := by
  cases h with
  | stop _ hk => exact .inl ⟨rfl, rfl, hk⟩
  | skip _ _ _ h hf => exact .inr (.inl ⟨h, hf⟩)
  | lost _ _ b h hb hw hf hp hpre => exact .inr (.inr (.inl ⟨b, h, hb, hw, hf, hp, hpre, rfl⟩))
  | whole _ _ r b h hb hw hf => exact .inr (.inr (.inr ⟨b, r, h, hb, hw, rfl, hf⟩))
theorem Fits.le {l : List (List UInt8)} {wh : List Int} {fl : Bool} {rest : List UInt8} {k k' : Nat} (h : Fits l wh fl rest k k') : k' ≤ l.length := by
  induction h with
  | stop k hk => exact hk
  | skip k k' rest h hf ih => exact ih
  | lost k rest b h hb hw hf hp hpre => exact (List.getElem?_eq_some_iff.1 h).1
  | whole k k' rest b h hb hw hf ih => exact ih
def Chain (l : List (List UInt8)) (wh : List Int) : List ConnS → Nat → Nat → Prop
  | [], k, k' => k = k'
  | c :: cs, k, k'' => ∃ k', Fits l wh c.failed c.bytes k k' ∧ Chain l wh cs k' k''
theorem Chain.snoc {l : List (List UInt8)} {wh : List Int} : ∀ {cs : List ConnS} {c : ConnS} {k k' k'' : Nat}, Chain l wh cs k k' → Fits l wh c.failed c.bytes k' k'' → Chain l wh (cs ++ [c]) k k''
  | [], c, k, k', k'', h, f => by cases h; exact ⟨k'', f, rfl⟩
  | d :: cs, c, k, k', k'', ⟨m, h1, h2⟩, f => ⟨m, h1, Chain.snoc h2 f⟩
/-- Frames k to i - 1 lie whole in acc. -/
inductive Part (l : List (List UInt8)) (wh : List Int) : List UInt8 → Nat → Nat → Prop
  | nil (k : Nat) : Part l wh [] k k
  | snoc (acc b : List UInt8) (k i : Nat) (h : Part l wh acc k i) (hb : l[i]? = some b) (hw : b = [] ∨ (i : Int) ∈ wh) : Part l wh (acc ++ b) k (i + 1)
theorem Part.fits {l : List (List UInt8)} {wh : List Int} {fl : Bool} {acc : List UInt8} {k i : Nat} (h : Part l wh acc k i) : ∀ {rest : List UInt8} {k' : Nat}, Fits l wh fl rest i k' → Fits l wh fl (acc ++ rest) k k' := by
  induction h with
  | nil k => intro rest k' f; exact f
  | snoc acc b k i h hb hw ih =>
    intro rest k' f
    rw [List.append_assoc]
    refine ih ?_
    by_cases he : b = []
    · subst he
      exact .skip i k' rest hb f
    · rcases hw with e | e
      · exact absurd e he
      · exact .whole i k' rest b hb he e f
theorem Part.le {l : List (List UInt8)} {wh : List Int} {acc : List UInt8} {k i : Nat} (h : Part l wh acc k i) : k ≤ i := by
  induction h with
  | nil k => exact Nat.le_refl _
  | snoc acc b k i h hb hw ih => omega
theorem Part.none {l : List (List UInt8)} {wh : List Int} {acc : List UInt8} {k i : Nat} (h : Part l wh acc k i) : acc = [] → ∀ j, k ≤ j → j < i → l[j]? = some [] := by
  induction h with
  | nil k => intro _ j h1 h2; omega
  | snoc acc b k i h hb hw ih =>
    intro e j h1 h2
    obtain ⟨e1, e2⟩ := List.append_eq_nil_iff.1 e
    rcases Nat.lt_or_ge j i with h3 | h3
    · exact ih e1 j h1 h3
    · obtain rfl : j = i := by omega
      rw [hb, e2]
theorem sendGo_split (plan : Plan) : ∀ (f : Nat) (acc : List UInt8) (wr idle : Nat) (b : List UInt8), idle < 64 → 64 * b.length + (64 - idle) ≤ f →
    ∃ taken left wr' fl, sendGo plan f acc wr idle b = (acc ++ taken, wr', left, fl) ∧ b = taken ++ left ∧ (fl = false → left = [])
  | 0, acc, wr, idle, b, h1, h2 => by omega
  | f + 1, acc, wr, idle, b, h1, h2 => by
    have hle := pick_le plan wr b.length
    have htd := List.take_append_drop (pick plan wr b.length).1 b
    unfold sendGo
    by_cases hz : b.length = 0
    · rw [if_pos hz]
      have : b = [] := List.eq_nil_of_length_eq_zero hz
      subst this
      exact ⟨[], [], wr, false, by simp, rfl, fun _ => rfl⟩
    · rw [if_neg hz]
      by_cases hf : (pick plan wr b.length).2 = true
      · rw [if_pos hf]
        exact ⟨_, _, wr + 1, true, rfl, htd.symm, fun e => by cases e⟩
      · rw [if_neg hf]
        by_cases hk : 0 < (pick plan wr b.length).1
        · rw [if_pos hk]
          obtain ⟨t, r, wr', fl, e1, e2, e3⟩ := sendGo_split plan f (acc ++ b.take (pick plan wr b.length).1) (wr + 1) 0 (b.drop (pick plan wr b.length).1) (by decide) (by rw [List.length_drop]; omega)
          refine ⟨b.take (pick plan wr b.length).1 ++ t, r, wr', fl, by rw [e1, List.append_assoc], ?_, e3⟩
          rw [List.append_assoc, ← e2, htd]
        · rw [if_neg hk]
          by_cases hi : idle + 1 = 64
          · rw [if_pos hi]
            exact ⟨_, _, wr + 1, true, rfl, htd.symm, fun e => by cases e⟩
          · rw [if_neg hi]
            obtain ⟨t, r, wr', fl, e1, e2, e3⟩ := sendGo_split plan f (acc ++ b.take (pick plan wr b.length).1) (wr + 1) (idle + 1) (b.drop (pick plan wr b.length).1) (by omega) (by rw [List.length_drop]; omega)
            refine ⟨b.take (pick plan wr b.length).1 ++ t, r, wr', fl, by rw [e1, List.append_assoc], ?_, e3⟩
            rw [List.append_assoc, ← e2, htd]
theorem send_split (plan : Plan) (s : SinkS) (b : List UInt8) (hb : b ≠ []) {base : List ConnS} {acc : List UInt8} (ho : opened s.conns = base ++ [⟨acc, false⟩]) :
    ∃ taken left fl, (send plan s b).1.conns = base ++ [⟨acc ++ taken, fl⟩] ∧ b = taken ++ left ∧ (fl = false → left = []) ∧ (send plan s b).2 = decide (left = []) := by
  have hz : ¬ b.length = 0 := fun e => hb (List.eq_nil_of_length_eq_zero e)
  obtain ⟨t, r, wr', fl, e1, e2, e3⟩ := sendGo_split plan (fuel b) acc s.writes 0 b (by decide) (by unfold fuel; omega)
  have hl : lastBytes (base ++ [(⟨acc, false⟩ : ConnS)]) = acc := by simp [lastBytes]
  refine ⟨t, r, fl, ?_, e2, e3, ?_⟩
  · unfold send
    rw [if_neg hz, ho, hl, List.dropLast_concat]
    dsimp only
    rw [e1]
  · unfold send
    rw [if_neg hz, ho, hl]
    dsimp only
    rw [e1]
    cases r <;> simp
/-- What holds of the connections after i frames. -/
def Cov (l : List (List UInt8)) (wh : List Int) (i : Nat) (cs : List ConnS) : Prop := ∃ base acc k, opened cs = base ++ [⟨acc, false⟩] ∧ Chain l wh base 0 k ∧ Part l wh acc k i
theorem opened_failed (base : List ConnS) (x : List UInt8) : opened (base ++ [⟨x, true⟩]) = base ++ [⟨x, true⟩] ++ [⟨[], false⟩] := by
  unfold opened
  rw [if_neg (by simp [lastOpen])]
theorem opened_open (base : List ConnS) (x : List UInt8) : opened (base ++ [⟨x, false⟩]) = base ++ [⟨x, false⟩] := by
  unfold opened
  rw [if_pos (by simp [lastOpen])]
theorem cov_step {plan : Plan} {l : List (List UInt8)} {wh : List Int} {i : Nat} {s : SinkS} {b : List UInt8} (h : Cov l wh i s.conns) (hb : l[i]? = some b) (hw : (send plan s b).2 = true ↔ (i : Int) ∈ wh) : Cov l wh (i + 1) (send plan s b).1.conns := by
  obtain ⟨base, acc, k, ho, hc, hp⟩ := h
  have hi := (List.getElem?_eq_some_iff.1 hb).1
  by_cases he : b = []
  · subst he
    have e : (send plan s []).1 = s := by unfold send; rw [if_pos List.length_nil]
    rw [e]
    exact ⟨base, acc, k, ho, hc, by simpa using hp.snoc acc [] k i hb (.inl rfl)⟩
  · obtain ⟨t, r, fl, e1, e2, e3, e4⟩ := send_split plan s b he ho
    rw [e4, decide_eq_true_iff] at hw
    rw [e1]
    cases fl with
    | false =>
      have hr := e3 rfl
      subst hr
      rw [List.append_nil] at e2
      subst e2
      exact ⟨base, acc ++ b, k, opened_open _ _, hc, hp.snoc acc b k i hb (.inr (hw.1 rfl))⟩
    | true =>
      refine ⟨base ++ [⟨acc ++ t, true⟩], [], i + 1, opened_failed _ _, hc.snoc (hp.fits ?_), .nil _⟩
      by_cases hr : r = []
      · subst hr
        rw [List.append_nil] at e2
        subst e2
        have := Fits.whole (l := l) (wh := wh) (fl := true) i (i + 1) [] b hb he (hw.1 rfl) (.stop (i + 1) hi)
        rwa [List.append_nil] at this
      · refine .lost i t b hb he (fun e => hr (hw.2 e)) rfl ?_ ?_
        · have : 0 < r.length := List.length_pos_iff.2 hr
          rw [e2, List.length_append]
          omega
        · rw [e2, List.take_left]
theorem whole_keep (plan : Plan) (l : List (List UInt8)) (j : Nat) : ∀ d i, j < i → i + d = l.length → ((j : Int) ∈ (after plan l i).whole ↔ (j : Int) ∈ (after plan l l.length).whole)
  | 0, i, _, h => by rw [show i = l.length by omega]
  | d + 1, i, hj, h => by
    rw [← whole_keep plan l j d (i + 1) (by omega) (by omega)]
    obtain ⟨b, hb⟩ : ∃ b, l[i]? = some b := ⟨_, List.getElem?_eq_getElem (by omega)⟩
    rw [after_succ plan l i b hb]
    have hn : ¬((after plan l i).any = true ∧ (i : Int) ≤ (after plan l i).last) := fun e => by have := (named plan l i (by omega)).last e.1; omega
    rcases (frame_parts (plan := plan) (b := b) hn).2 with ⟨e, _⟩ | ⟨e, _⟩
    · rw [e, List.mem_append, List.mem_singleton]
      exact ⟨.inl, fun h => h.resolve_right (by omega)⟩
    · rw [e]
theorem cov (plan : Plan) (l : List (List UInt8)) : ∀ i, i ≤ l.length → Cov l (after plan l l.length).whole i (after plan l i).conns
  | 0, _ => ⟨[], [], 0, rfl, rfl, .nil 0⟩
  | i + 1, hi => by
    have h := cov plan l i (by omega)
    obtain ⟨b, hb⟩ : ∃ b, l[i]? = some b := ⟨_, List.getElem?_eq_getElem (by omega)⟩
    have hk := whole_keep plan l i (l.length - (i + 1)) (i + 1) (by omega) (by omega)
    have hnm := named plan l i (by omega)
    have hn : ¬((after plan l i).any = true ∧ (i : Int) ≤ (after plan l i).last) := fun e => by have := hnm.last e.1; omega
    rw [after_succ plan l i b hb] at hk ⊢
    obtain ⟨f1, f2⟩ := frame_parts (plan := plan) (b := b) hn
    rw [f1]
    refine cov_step (s := { after plan l i with any := true, last := (i : Int) }) h hb ?_
    rw [← hk]
    have hni : (i : Int) ∉ (after plan l i).whole := fun e => by have := (hnm.wlt _ e).2; omega
    unfold frame
    rw [if_neg hn]
    dsimp only
    have hsw : ∀ s0, (send plan s0 b).1.whole = s0.whole ∧ (send plan s0 b).1.lost = s0.lost := fun s0 => by unfold send; split <;> exact ⟨rfl, rfl⟩
    have h3 := (hsw { after plan l i with any := true, last := (i : Int) }).1
    dsimp only at h3
    split
    · rename_i ht
      simp [ht]
    · rename_i ht
      dsimp only
      rw [h3]
      exact ⟨fun e => absurd e ht, fun e => absurd e hni⟩
theorem covered (plan : Plan) (l : List (List UInt8)) : ∃ k, Chain l (after plan l l.length).whole (after plan l l.length).conns 0 k ∧ k ≤ l.length ∧ ∀ j, k ≤ j → j < l.length → l[j]? = some [] := by
  obtain ⟨base, acc, k, ho, hc, hp⟩ := cov plan l l.length (Nat.le_refl _)
  generalize after plan l l.length = s at ho hc hp
  unfold opened at ho
  split at ho
  · rw [ho]
    have := hp.fits (fl := false) (.stop l.length (Nat.le_refl _))
    rw [List.append_nil] at this
    exact ⟨l.length, hc.snoc this, Nat.le_refl _, fun j h1 h2 => by omega⟩
  · have e1 := List.append_inj_left' ho rfl
    have e2 := List.append_inj_right' ho rfl
    rw [e1]
    injection e2 with e2 _
    injection e2 with e2 _
    exact ⟨k, hc, hp.le, hp.none e2.symm⟩
end Go.Proofs.YtmfpgghpnkmkpaaDoor
