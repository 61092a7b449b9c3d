/- Queues in plain Lean: what Set, Take, At make of what a queue has. -/
import Derived.Test.YtmfpgghpnkmkpaaDueJ
namespace Go.Proofs.Ytmfpgghpnkmkpaa
open Go.RowKit Go.Tum
theorem has_at {s : QS} (h : QI s.1 s.2) {x : Ent} (hx : Has s.1 s.2 x) : atQ s x.1 = (x.2, true) := by
  obtain ⟨i, hi, rfl⟩ := hx
  unfold atQ
  rw [spot_of h.keys hi rfl]
theorem no_at {s : QS} {key : List UInt8} (hx : ∀ x, Has s.1 s.2 x → x.1 ≠ key) : atQ s key = (0, false) := by
  unfold atQ
  rw [spot_no fun i hi => hx _ ⟨i, hi, rfl⟩]
theorem at_cases {s : QS} (h : QI s.1 s.2) (key : List UInt8) : (∃ t, Has s.1 s.2 (key, t) ∧ atQ s key = (t, true)) ∨ ((∀ x, Has s.1 s.2 x → x.1 ≠ key) ∧ atQ s key = (0, false)) := by
  cases hs : spot s.1 s.2 key with
  | some i =>
    obtain ⟨h1, h2⟩ := spot_some hs
    have h3 : Has s.1 s.2 (key, (s.1 i).2) := ⟨i, h1, by rw [← h2]⟩
    exact .inl ⟨_, h3, has_at h h3⟩
  | none =>
    have h1 : ∀ x, Has s.1 s.2 x → x.1 ≠ key := by
      rintro _ ⟨i, hi, rfl⟩
      exact spot_none hs i hi
    exact .inr ⟨h1, no_at h1⟩
/-- Set where there is room. -/
theorem set_has {s : QS} (h : QI s.1 s.2) (lim : Int) (key : List UInt8) (t : Int) (hr : (∃ x, Has s.1 s.2 x ∧ x.1 = key) ∨ (s.2 : Int) < lim) :
    (setQ lim s key t).2 = 0 ∧ QI (setQ lim s key t).1.1 (setQ lim s key t).1.2 ∧ (∀ x, Has (setQ lim s key t).1.1 (setQ lim s key t).1.2 x ↔ x = (key, t) ∨ (x.1 ≠ key ∧ Has s.1 s.2 x)) ∧
    (setQ lim s key t).1.2 = if (spot s.1 s.2 key).isSome then s.2 else s.2 + 1 := by
  unfold setQ
  cases hs : spot s.1 s.2 key with
  | some i =>
    obtain ⟨h1, h2⟩ := spot_some hs
    obtain ⟨k1, k2⟩ := h.fix h1 t
    dsimp only
    rw [h2] at k1 k2 ⊢
    exact ⟨rfl, k1, k2, (if_pos rfl).symm⟩
  | none =>
    have hn := spot_none hs
    have hlt : ¬ lim ≤ (s.2 : Int) := by
      rcases hr with ⟨x, ⟨i, hi, rfl⟩, e⟩ | hr
      · exact absurd e (hn i hi)
      · omega
    dsimp only
    rw [if_neg hlt]
    have hx : ∀ y, Has s.1 s.2 y → y.1 ≠ key := by
      rintro _ ⟨i, hi, rfl⟩
      exact hn i hi
    obtain ⟨k1, k2⟩ := h.push (key, t) hx
    refine ⟨rfl, k1, fun x => (k2 x).trans ⟨fun e => ?_, fun e => ?_⟩, rfl⟩
    · rcases e with e | e
      · exact .inl e
      · exact .inr ⟨hx x e, e⟩
    · rcases e with e | ⟨_, e⟩
      · exact .inl e
      · exact .inr e
theorem set_full {s : QS} {lim : Int} {key : List UInt8} {t : Int} (h1 : ∀ x, Has s.1 s.2 x → x.1 ≠ key) (h2 : lim ≤ (s.2 : Int)) : setQ lim s key t = (s, 70) := by
  unfold setQ
  rw [spot_no fun i hi => h1 _ ⟨i, hi, rfl⟩]
  exact if_pos h2
/-- All that a list tells, set one after another. -/
def sets (lim : Int) (l : List Ent) : QS := l.foldl (fun s x => (setQ lim s x.1 x.2).1) (d0, 0)
theorem sets_snoc (lim : Int) (l : List Ent) (x : Ent) : sets lim (l ++ [x]) = (setQ lim (sets lim l) x.1 x.2).1 := by unfold sets; rw [List.foldl_append]; rfl
theorem snoc_ind {α : Type} {P : List α → Prop} (h0 : P []) (hs : ∀ l x, P l → P (l ++ [x])) (l : List α) : P l := by
  have h : ∀ n (l : List α), l.length = n → P l := by
    intro n
    induction n with
    | zero => intro l hl; rw [List.eq_nil_of_length_eq_zero hl]; exact h0
    | succ n ih =>
      intro l hl
      rcases List.eq_nil_or_concat l with rfl | ⟨m, x, rfl⟩
      · simp at hl
      · rw [List.concat_eq_append] at hl ⊢
        exact hs m x (ih m (by simpa using hl))
  exact h _ l rfl
/-- the last entry of a key -/
def lastOf (l : List Ent) (x : Ent) : Prop := ∃ a b, l = a ++ x :: b ∧ ∀ y ∈ b, y.1 ≠ x.1
theorem lastOf_snoc {l : List Ent} {y x : Ent} : lastOf (l ++ [y]) x ↔ x = y ∨ (x.1 ≠ y.1 ∧ lastOf l x) := by
  constructor
  · rintro ⟨a, b, e, h⟩
    rcases List.eq_nil_or_concat b with rfl | ⟨b, z, rfl⟩
    · have := List.append_inj' e rfl
      exact .inl (by simpa using this.2.symm)
    · have e2 : l ++ [y] = (a ++ x :: b) ++ [z] := by rw [e]; simp
      obtain ⟨e3, e4⟩ := List.append_inj' e2 rfl
      injection e4 with e4
      subst e4
      exact .inr ⟨fun e5 => h y (by simp) e5.symm, a, b, e3, fun w hw => h w (by simp [hw])⟩
  · rintro (rfl | ⟨h1, a, b, rfl, h2⟩)
    · exact ⟨l, [], rfl, by simp⟩
    · refine ⟨a, b ++ [y], by simp, fun w hw => ?_⟩
      rcases List.mem_append.1 hw with hw | hw
      · exact h2 w hw
      · rw [List.mem_singleton.1 hw]; exact Ne.symm h1
theorem lastOf_any {l : List Ent} {x : Ent} (h : x ∈ l) : ∃ y, lastOf l y ∧ y.1 = x.1 := by
  induction l using snoc_ind with
  | h0 => cases h
  | hs l y ih =>
    by_cases e : x.1 = y.1
    · exact ⟨y, lastOf_snoc.2 (.inl rfl), e.symm⟩
    · rcases List.mem_append.1 h with h | h
      · obtain ⟨z, hz, ez⟩ := ih h
        exact ⟨z, lastOf_snoc.2 (.inr ⟨by rw [ez]; exact e, hz⟩), ez⟩
      · rw [List.mem_singleton.1 h] at e; exact absurd rfl e
/-- What the queue is behind them. -/
structure Sets (lim : Int) (l : List Ent) : Prop where
  qi : QI (sets lim l).1 (sets lim l).2
  le : (sets lim l).2 ≤ l.length
  cap : ((sets lim l).2 : Int) ≤ lim
  pos : l ≠ [] → 0 < (sets lim l).2
  has : ((l.length : Nat) : Int) ≤ lim → ∀ x, Has (sets lim l).1 (sets lim l).2 x ↔ lastOf l x
  err : ∀ x : Ent, (setQ lim (sets lim l) x.1 x.2).2 = 0 ∨ ((setQ lim (sets lim l) x.1 x.2).2 = 70 ∧ lim ≤ (l.length : Int))
theorem spot_has {s : QS} {key : List UInt8} (h : (spot s.1 s.2 key).isSome = true) : ∃ x, Has s.1 s.2 x ∧ x.1 = key := by
  obtain ⟨i, hi⟩ := Option.isSome_iff_exists.1 h
  obtain ⟨h1, h2⟩ := spot_some hi
  exact ⟨_, ⟨i, h1, rfl⟩, h2⟩
theorem set_err {s : QS} (h : QI s.1 s.2) (lim : Int) (x : Ent) : ((setQ lim s x.1 x.2).2 = 0 ∧ ((∃ y, Has s.1 s.2 y ∧ y.1 = x.1) ∨ (s.2 : Int) < lim)) ∨ (setQ lim s x.1 x.2 = (s, 70) ∧ lim ≤ (s.2 : Int) ∧ ∀ y, Has s.1 s.2 y → y.1 ≠ x.1) := by
  by_cases h1 : (spot s.1 s.2 x.1).isSome = true
  · have h2 := spot_has h1
    exact .inl ⟨(set_has h lim x.1 x.2 (.inl h2)).1, .inl h2⟩
  · by_cases h2 : (s.2 : Int) < lim
    · exact .inl ⟨(set_has h lim x.1 x.2 (.inr h2)).1, .inr h2⟩
    · have h3 : ∀ y, Has s.1 s.2 y → y.1 ≠ x.1 := by
        rintro _ ⟨i, hi, rfl⟩ e
        rw [spot_of h.keys hi e] at h1
        exact h1 rfl
      exact .inr ⟨set_full h3 (by omega), by omega, h3⟩
theorem sets_all (lim : Int) (hl : 0 < lim) (l : List Ent) : Sets lim l := by
  induction l using snoc_ind with
  | h0 =>
    refine ⟨qi_zero _, Nat.le_refl _, by show ((0 : Nat) : Int) ≤ lim; omega, fun h => absurd rfl h, fun _ x => ⟨?_, ?_⟩, fun x => ?_⟩
    · rintro ⟨i, hi, _⟩; exact absurd hi (Nat.not_lt_zero _)
    · rintro ⟨a, b, e, _⟩; simp at e
    · exact .inl ((set_has (s := sets lim []) (qi_zero _) lim x.1 x.2 (.inr (by show ((0 : Nat) : Int) < lim; omega))).1)
  | hs l y ih =>
    have hs := sets_snoc lim l y
    have key : QI (sets lim (l ++ [y])).1 (sets lim (l ++ [y])).2 ∧ (sets lim (l ++ [y])).2 ≤ l.length + 1 ∧ ((sets lim (l ++ [y])).2 : Int) ≤ lim ∧ 0 < (sets lim (l ++ [y])).2 ∧ (((l.length + 1 : Nat) : Int) ≤ lim → ∀ x, Has (sets lim (l ++ [y])).1 (sets lim (l ++ [y])).2 x ↔ lastOf (l ++ [y]) x) := by
      rw [hs]
      rcases set_err ih.qi lim y with ⟨_, hr⟩ | ⟨he, hf, hn⟩
      · obtain ⟨_, k1, k2, k3⟩ := set_has ih.qi lim y.1 y.2 hr
        have hle := ih.le
        have hcap := ih.cap
        have hz : (setQ lim (sets lim l) y.1 y.2).1.2 ≤ l.length + 1 ∧ ((setQ lim (sets lim l) y.1 y.2).1.2 : Int) ≤ lim := by
          rw [k3]
          split
          · exact ⟨by omega, hcap⟩
          · rename_i hc
            rcases hr with ⟨z, ⟨i, hi, rfl⟩, e⟩ | hr
            · rw [spot_of ih.qi.keys hi e] at hc; exact absurd rfl hc
            · omega
        refine ⟨k1, hz.1, hz.2, ?_, fun hlen x => ?_⟩
        · obtain ⟨i, hi, _⟩ := (k2 (y.1, y.2)).2 (.inl rfl)
          omega
        · rw [k2, lastOf_snoc, ih.has (by omega)]
      · rw [he]
        have h3 := ih.le
        have h4 := ih.cap
        dsimp only
        exact ⟨ih.qi, by omega, ih.cap, by omega, fun hlen => by omega⟩
    obtain ⟨k1, k2, k3, k4, k5⟩ := key
    refine ⟨k1, by simpa using k2, k3, fun _ => k4, fun hlen => k5 (by simpa using hlen), fun x => ?_⟩
    rcases set_err k1 lim x with ⟨h, _⟩ | ⟨h, h2, _⟩
    · exact .inl h
    · refine .inr ⟨by rw [h], ?_⟩
      simp only [List.length_append, List.length_cons, List.length_nil]
      omega
/-- What Take tells and leaves. -/
structure Took (now : Int) (s : QS) (T : List Ent) (r : QS) : Prop where
  qi : QI r.1 r.2
  sum : T.length + r.2 = s.2
  late : ∀ x ∈ T, x.2 ≤ now
  left : ∀ x, Has r.1 r.2 x → now < x.2
  all : ∀ x, Has s.1 s.2 x ↔ x ∈ T ∨ Has r.1 r.2 x
  gone : ∀ x ∈ T, ∀ y, Has r.1 r.2 y → y.1 ≠ x.1
  order : T.Pairwise fun a b => before a b = true
theorem before_total {a b : Ent} (h : a ≠ b) : before a b = true ∨ before b a = true := by
  simp only [before, decide_eq_true_eq]
  rcases Int.lt_trichotomy a.2 b.2 with h1 | h1 | h1
  · exact .inl (.inl h1)
  · have h2 : Lib.compareBytes a.1 b.1 ≠ 0 := fun e => h (Prod.ext ((cb_zero _ _).1 e) h1)
    rcases Int.lt_or_lt_of_ne h2 with h3 | h3
    · exact .inl (.inr ⟨h1, h3⟩)
    · exact .inr (.inr ⟨h1.symm, by rw [cb_swap]; omega⟩)
  · exact .inr (.inl h1)
theorem take_all (now : Int) : ∀ (n : Nat) (s : QS), s.2 = n → QI s.1 s.2 → Took now s (takeQ now s.2 s).1 (takeQ now s.2 s).2 := by
  intro n
  induction n with
  | zero =>
    intro s hn h
    rw [takeQ_stop (.inl hn)]
    refine ⟨h, by simp, by simp, ?_, by simp, by simp, List.Pairwise.nil⟩
    rintro x ⟨i, hi, _⟩
    dsimp only at hi
    omega
  | succ n ih =>
    intro s hn h
    obtain ⟨d, m⟩ := s
    dsimp only at hn h
    subst hn
    by_cases hl : now < (d 0).2
    · rw [takeQ_stop (.inr hl)]
      refine ⟨h, by simp, by simp, fun x hx => ?_, by simp, by simp, List.Pairwise.nil⟩
      have h1 := h.first hx
      unfold before at h1
      simp only [decide_eq_false_iff_not, not_or] at h1
      omega
    · dsimp only
      rw [takeQ_go (by omega)]
      obtain ⟨k1, k2⟩ := h.pop
      have hq := ih (popped before d n, n) rfl k1
      have h0 : Has d (n + 1) (d 0) := ⟨0, by omega, rfl⟩
      dsimp only at hq ⊢
      have hall : ∀ y, Has d (n + 1) y ↔ y = d 0 ∨ Has (popped before d n) n y := fun y => by
        rw [k2]
        by_cases e : y = d 0
        · subst e; exact ⟨fun _ => .inl rfl, fun _ => h0⟩
        · exact ⟨fun hy => .inr ⟨e, hy⟩, fun hy => by rcases hy with hy | hy; exact absurd hy e; exact hy.2⟩
      have hne : ∀ y, Has (popped before d n) n y → y.1 ≠ (d 0).1 := fun y hy e => ((k2 y).1 hy).1 (h.one ((k2 y).1 hy).2 h0 e)
      refine ⟨hq.qi, by have := hq.sum; simp only [List.length_cons]; omega, ?_, hq.left, fun x => ?_, ?_, ?_⟩
      · intro x hx
        rcases List.mem_cons.1 hx with rfl | hx
        · omega
        · exact hq.late x hx
      · rw [hall, hq.all, List.mem_cons, or_assoc]
      · intro x hx y hy
        rcases List.mem_cons.1 hx with rfl | hx
        · exact hne y ((hq.all y).2 (.inr hy))
        · exact hq.gone x hx y hy
      · refine List.pairwise_cons.2 ⟨fun y hy => ?_, hq.order⟩
        have hy2 := (hq.all y).2 (.inl hy)
        have h1 := h.first ((k2 y).1 hy2).2
        rcases before_total (fun e => ((k2 y).1 hy2).1 e.symm : d 0 ≠ y) with h2 | h2
        · exact h2
        · rw [h2] at h1; cases h1
theorem next_took {now : Int} {s : QS} {T : List Ent} {r : QS} (h : Took now s T r) : (r.2 = 0 ∧ nextQ r = (([], 0), false)) ∨ (0 < r.2 ∧ nextQ r = (r.1 0, true) ∧ now < (r.1 0).2) := by
  rcases Nat.eq_zero_or_pos r.2 with hz | hz
  · exact .inl ⟨hz, if_pos hz⟩
  · exact .inr ⟨hz, if_neg (by omega), h.left _ ⟨0, hz, rfl⟩⟩
/-- the check behind it: the last entry of a key -/
theorem last_took {lim now : Int} {l : List Ent} {T : List Ent} {r : QS} (hs : Sets lim l) (hl : (l.length : Int) ≤ lim) (h : Took now (sets lim l) T r) {x : Ent} (hx : lastOf l x) :
    (now < x.2 ∧ atQ r x.1 = (x.2, true)) ∨ (x.2 ≤ now ∧ (atQ r x.1).2 = false) := by
  rcases (h.all x).1 ((hs.has hl x).2 hx) with hT | hR
  · exact .inr ⟨h.late x hT, by rw [no_at (h.gone x hT)]⟩
  · exact .inl ⟨h.left x hR, has_at h.qi hR⟩
end Go.Proofs.Ytmfpgghpnkmkpaa
