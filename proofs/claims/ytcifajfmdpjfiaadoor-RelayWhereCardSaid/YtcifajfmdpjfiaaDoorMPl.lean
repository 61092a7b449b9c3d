/- Texts of one part together. -/
import Derived.Lib.Bytealg
import Derived.Laws.Bits64
import Derived.Deep.LoopGhost
import Derived.Lib.ItoaMem
/- Binary heaps over functions of places: what container/heap's up and down do; no program here. -/
namespace Go.Tum
section
variable {α : Type}
def sw (d : Nat → α) (i j : Nat) : Nat → α := fun k => if k = i then d j else if k = j then d i else d k
/-- e holds what d holds, places below n shuffled -/
def Shuf (n : Nat) (d e : Nat → α) : Prop := ∃ π ρ : Nat → Nat, (∀ k, k < n → π k < n ∧ ρ k < n) ∧ (∀ k, ρ (π k) = k ∧ π (ρ k) = k) ∧ (∀ k, n ≤ k → π k = k) ∧ ∀ k, e k = d (π k)
theorem Shuf.refl (n : Nat) (d : Nat → α) : Shuf n d d := ⟨id, id, fun _ h => ⟨h, h⟩, fun _ => ⟨rfl, rfl⟩, fun _ _ => rfl, fun _ => rfl⟩
theorem Shuf.trans {n : Nat} {a b c : Nat → α} (h : Shuf n a b) (k : Shuf n b c) : Shuf n a c := by
  obtain ⟨p, q, h1, h2, h3, h4⟩ := h
  obtain ⟨r, s, k1, k2, k3, k4⟩ := k
  exact ⟨fun x => p (r x), fun x => s (q x), fun x hx => ⟨(h1 _ (k1 x hx).1).1, (k1 _ (h1 x hx).2).2⟩, fun x => ⟨by dsimp only; rw [(h2 (r x)).1, (k2 x).1], by dsimp only; rw [(k2 (q x)).2, (h2 x).2]⟩, fun x hx => by dsimp only; rw [k3 x hx, h3 x hx], fun x => by dsimp only; rw [k4, h4]⟩
theorem Shuf.sw (n : Nat) (d : Nat → α) {i j : Nat} (hi : i < n) (hj : j < n) : Shuf n d (sw d i j) := by
  refine ⟨fun k => if k = i then j else if k = j then i else k, fun k => if k = i then j else if k = j then i else k, fun k hk => ?_, fun k => ?_, fun k hk => ?_, fun k => ?_⟩
  · dsimp only; split <;> (try split) <;> omega
  · dsimp only; constructor <;> (repeat' split) <;> omega
  · dsimp only; rw [if_neg (by omega), if_neg (by omega)]
  · unfold Tum.sw; dsimp only; split <;> (try split) <;> rfl
theorem Shuf.mem {n : Nat} {d e : Nat → α} (h : Shuf n d e) (x : α) : (∃ k, k < n ∧ e k = x) ↔ ∃ k, k < n ∧ d k = x := by
  obtain ⟨p, q, h1, h2, h3, h4⟩ := h
  constructor
  · rintro ⟨k, hk, rfl⟩
    exact ⟨p k, (h1 k hk).1, (h4 k).symm⟩
  · rintro ⟨k, hk, rfl⟩
    exact ⟨q k, (h1 k hk).2, by rw [h4, (h2 k).2]⟩
theorem Shuf.inj {β : Type} {n : Nat} {d e : Nat → α} (h : Shuf n d e) (key : α → β) (hd : ∀ i j, i < n → j < n → key (d i) = key (d j) → i = j) : ∀ i j, i < n → j < n → key (e i) = key (e j) → i = j := by
  obtain ⟨p, q, h1, h2, h3, h4⟩ := h
  intro i j hi hj he
  rw [h4, h4] at he
  have := hd _ _ (h1 i hi).1 (h1 j hj).1 he
  rw [← (h2 i).1, ← (h2 j).1, this]
/-- An order in which the heaps stand. -/
structure Ord (lt : α → α → Bool) : Prop where
  trans : ∀ a b c, lt a b = true → lt b c = true → lt a c = true
  not : ∀ a b c, lt b a = false → lt c b = false → lt c a = false
  asym : ∀ a b, lt a b = true → lt b a = false
def par (k : Nat) : Nat := (k - 1) / 2
theorem par_lt {k : Nat} (h : 0 < k) : par k < k := by unfold par; omega
theorem par_zero : par 0 = 0 := rfl
def IsHeap (lt : α → α → Bool) (d : Nat → α) (n : Nat) : Prop := ∀ k, 0 < k → k < n → lt (d k) (d (par k)) = false
/-- A heap but for what stands at j, which may be too small for its place. -/
structure UpTo (lt : α → α → Bool) (d : Nat → α) (n j : Nat) : Prop where
  rest : ∀ k, 0 < k → k < n → k ≠ j → lt (d k) (d (par k)) = false
  kids : ∀ k, 0 < k → k < n → par k = j → 0 < j → lt (d k) (d (par j)) = false
def up (lt : α → α → Bool) : Nat → (Nat → α) → Nat → (Nat → α)
  | 0, d, _ => d
  | f + 1, d, j => if par j = j ∨ lt (d j) (d (par j)) = false then d else up lt f (sw d (par j) j) (par j)
theorem up_heap {lt : α → α → Bool} (ho : Ord lt) (n : Nat) : ∀ (f : Nat) (d : Nat → α) (j : Nat), j ≤ f → j < n → UpTo lt d n j → IsHeap lt (up lt (f + 1) d j) n ∧ Shuf n d (up lt (f + 1) d j) := by
  intro f
  induction f with
  | zero =>
    intro d j hj hn h
    obtain rfl : j = 0 := by omega
    unfold up
    rw [if_pos (.inl rfl)]
    exact ⟨fun k h1 h2 => h.rest k h1 h2 (by omega), Shuf.refl _ _⟩
  | succ f ih =>
    intro d j hj hn h
    unfold up
    by_cases hs : par j = j ∨ lt (d j) (d (par j)) = false
    · rw [if_pos hs]
      refine ⟨fun k h1 h2 => ?_, Shuf.refl _ _⟩
      by_cases e : k = j
      · subst e
        rcases hs with e | e
        · have := par_lt h1; omega
        · exact e
      · exact h.rest k h1 h2 e
    · rw [if_neg hs]
      have hj0 : 0 < j := by
        rcases Nat.eq_zero_or_pos j with e | e
        · exact absurd (.inl (by rw [e]; rfl)) hs
        · exact e
      have hlt : lt (d j) (d (par j)) = true := by
        cases hl : lt (d j) (d (par j)) with
        | true => rfl
        | false => exact absurd (.inr hl) hs
      have hp := par_lt hj0
      have hsw : ∀ k, sw d (par j) j k = if k = par j then d j else if k = j then d (par j) else d k := fun k => rfl
      have hr := ih (sw d (par j) j) (par j) (by omega) (by omega) ⟨fun k h1 h2 h3 => ?_, fun k h1 h2 h3 h4 => ?_⟩
      · exact ⟨hr.1, (Shuf.sw n d (by omega) hn).trans hr.2⟩
      · have hpk := par_lt h1
        rw [hsw, hsw, if_neg h3]
        by_cases e : k = j
        · subst e
          rw [if_pos rfl, if_pos rfl]
          exact ho.asym _ _ hlt
        · rw [if_neg e]
          by_cases e1 : par k = par j
          · rw [if_pos e1]
            have h5 := h.rest k h1 h2 e
            rw [e1] at h5
            cases hc : lt (d k) (d j) with
            | false => rfl
            | true => rw [ho.trans _ _ _ hc hlt] at h5; cases h5
          · rw [if_neg e1]
            by_cases e2 : par k = j
            · rw [if_pos e2]
              exact h.kids k h1 h2 e2 hj0
            · rw [if_neg e2]
              exact h.rest k h1 h2 e
      · have hpk := par_lt h1
        have hpp := par_lt h4
        rw [hsw, hsw, if_neg (show ¬ par (par j) = par j by omega), if_neg (show ¬ par (par j) = j by omega), if_neg (show ¬ k = par j by omega)]
        have h5 := h.rest (par j) h4 (by omega) (by omega)
        by_cases e : k = j
        · rw [if_pos e]
          exact h5
        · rw [if_neg e]
          have h6 := h.rest k h1 h2 e
          rw [h3] at h6
          exact ho.not _ _ _ h5 h6
/-- A heap but for what stands at i, which may be too great for its place, and for t's standing below its parent. -/
structure DownTo (lt : α → α → Bool) (d : Nat → α) (n t i : Nat) : Prop where
  rest : ∀ k, 0 < k → k < n → par k ≠ i → k ≠ t → lt (d k) (d (par k)) = false
  kids : ∀ k, 0 < k → k < n → par k = i → i ≠ t → lt (d k) (d (par i)) = false
/-- the smaller child -/
def kid (lt : α → α → Bool) (d : Nat → α) (n i : Nat) : Nat := if 2 * i + 2 < n ∧ lt (d (2 * i + 2)) (d (2 * i + 1)) = true then 2 * i + 2 else 2 * i + 1
def down (lt : α → α → Bool) : Nat → (Nat → α) → Nat → Nat → (Nat → α) × Nat
  | 0, d, _, i => (d, i)
  | f + 1, d, n, i => if n ≤ 2 * i + 1 ∨ lt (d (kid lt d n i)) (d i) = false then (d, i) else down lt f (sw d i (kid lt d n i)) n (kid lt d n i)
theorem par_kid (k i : Nat) (h : 0 < k) : par k = i ↔ k = 2 * i + 1 ∨ k = 2 * i + 2 := by unfold par; omega
theorem kid_of {lt : α → α → Bool} (ho : Ord lt) (d : Nat → α) {n i : Nat} (h : 2 * i + 1 < n) : i < kid lt d n i ∧ kid lt d n i < n ∧ par (kid lt d n i) = i ∧ ∀ k, 0 < k → k < n → par k = i → lt (d k) (d (kid lt d n i)) = false := by
  have hself : ∀ a, lt a a = false := fun a => by
    cases hc : lt a a with
    | false => rfl
    | true => rw [ho.asym a a hc] at hc; cases hc
  unfold kid
  split
  · rename_i hc
    refine ⟨by omega, hc.1, by unfold par; omega, fun k h1 h2 h3 => ?_⟩
    rcases (par_kid k i h1).1 h3 with rfl | rfl
    · exact ho.asym _ _ hc.2
    · exact hself _
  · rename_i hc
    refine ⟨by omega, h, by unfold par; omega, fun k h1 h2 h3 => ?_⟩
    rcases (par_kid k i h1).1 h3 with rfl | rfl
    · exact hself _
    · cases hl : lt (d (2 * i + 2)) (d (2 * i + 1)) with
      | false => rfl
      | true => exact absurd ⟨h2, hl⟩ hc
/-- What down leaves: a heap but for t's standing below its parent. -/
theorem down_heap {lt : α → α → Bool} (ho : Ord lt) (n t : Nat) : ∀ (f : Nat) (d : Nat → α) (i : Nat), n ≤ i + f → i < n → t ≤ i → DownTo lt d n t i →
    (∀ k, 0 < k → k < n → k ≠ t → lt ((down lt (f + 1) d n i).1 k) ((down lt (f + 1) d n i).1 (par k)) = false) ∧ Shuf n d (down lt (f + 1) d n i).1 ∧ i ≤ (down lt (f + 1) d n i).2 ∧ (down lt (f + 1) d n i).2 < n ∧
    (∀ k, k < i → (down lt (f + 1) d n i).1 k = d k) ∧ ((down lt (f + 1) d n i).2 = i → (down lt (f + 1) d n i).1 = d) ∧ (i < (down lt (f + 1) d n i).2 → (down lt (f + 1) d n i).1 i = d (kid lt d n i) ∧ 2 * i + 1 < n) := by
  intro f
  induction f with
  | zero => intro d i h1 h2; omega
  | succ f ih =>
    intro d i h1 h2 ht h
    unfold down
    by_cases hs : n ≤ 2 * i + 1 ∨ lt (d (kid lt d n i)) (d i) = false
    · rw [if_pos hs]
      refine ⟨fun k k1 k2 k3 => ?_, Shuf.refl _ _, Nat.le_refl _, h2, fun _ _ => rfl, fun _ => rfl, fun e => absurd e (Nat.lt_irrefl _)⟩
      by_cases e : par k = i
      · rcases hs with hs | hs
        · rcases (par_kid k i k1).1 e with e1 | e1 <;> omega
        · have hlt : 2 * i + 1 < n := by rcases (par_kid k i k1).1 e with e1 | e1 <;> omega
          have h3 := (kid_of ho d hlt).2.2.2 k k1 k2 e
          rw [e]
          exact ho.not _ _ _ hs h3
      · exact h.rest k k1 k2 e k3
    · rw [if_neg hs]
      have hlt : 2 * i + 1 < n := by
        rcases Nat.lt_or_ge (2 * i + 1) n with e | e
        · exact e
        · exact absurd (.inl e) hs
      have hl : lt (d (kid lt d n i)) (d i) = true := by
        cases hl : lt (d (kid lt d n i)) (d i) with
        | true => rfl
        | false => exact absurd (.inr hl) hs
      obtain ⟨c1, c2, c3, c4⟩ := kid_of ho d hlt
      generalize kid lt d n i = c at hl c1 c2 c3 c4 ⊢
      have hsw : ∀ k, sw d i c k = if k = i then d c else if k = c then d i else d k := fun k => rfl
      have hr := ih (sw d i c) c (by omega) c2 (by omega) ⟨fun k k1 k2 k3 k4 => ?_, fun k k1 k2 k3 k4 => ?_⟩
      · obtain ⟨r1, r2, r3, r4, r5, r6, r7⟩ := hr
        refine ⟨r1, (Shuf.sw n d h2 c2).trans r2, by omega, r4, fun k hk => ?_, fun e => by omega, fun _ => ⟨?_, hlt⟩⟩
        · rw [r5 k (by omega), hsw, if_neg (by omega), if_neg (by omega)]
        · rw [r5 i c1, hsw, if_pos rfl]
      · have hpk := par_lt k1
        rw [hsw, hsw]
        by_cases e : k = c
        · subst e
          rw [if_neg (by omega), if_pos rfl, if_pos c3]
          exact ho.asym _ _ hl
        · by_cases e1 : par k = i
          · rw [if_neg (by omega), if_neg e, if_pos e1]
            exact c4 k k1 k2 e1
          · rw [if_neg e1, if_neg k3]
            by_cases e2 : k = i
            · subst e2
              rw [if_pos rfl]
              exact h.kids c (by omega) c2 c3 k4
            · rw [if_neg e2, if_neg e]
              exact h.rest k k1 k2 e1 k4
      · have hpk := par_lt k1
        rw [hsw, hsw, if_neg (by omega), if_neg (by omega), if_pos c3]
        have := h.rest k k1 k2 (by omega) (by omega)
        rw [k3] at this
        exact this
theorem heap_min {lt : α → α → Bool} (ho : Ord lt) {d : Nat → α} {n : Nat} (h : IsHeap lt d n) : ∀ m k, k ≤ m → k < n → lt (d k) (d 0) = false := by
  have hself : ∀ a, lt a a = false := fun a => by
    cases hc : lt a a with
    | false => rfl
    | true => rw [ho.asym a a hc] at hc; cases hc
  intro m
  induction m with
  | zero =>
    intro k hk hn
    have e : k = 0 := by omega
    rw [e]
    exact hself _
  | succ m ih =>
    intro k hk hn
    rcases Nat.eq_zero_or_pos k with e | e
    · subst e; exact hself _
    · have hp := par_lt e
      exact ho.not _ _ _ (ih (par k) (by omega) (by omega)) (h k e hn)
/-- one more -/
def pushed (lt : α → α → Bool) (d : Nat → α) (n : Nat) (x : α) : Nat → α := up lt (n + 1) (fun k => if k = n then x else d k) n
theorem pushed_heap {lt : α → α → Bool} (ho : Ord lt) {d : Nat → α} {n : Nat} (h : IsHeap lt d n) (x : α) : IsHeap lt (pushed lt d n x) (n + 1) ∧ Shuf (n + 1) (fun k => if k = n then x else d k) (pushed lt d n x) := by
  refine up_heap ho (n + 1) n _ n (Nat.le_refl _) (Nat.lt_succ_self _) ⟨fun k h1 h2 h3 => ?_, fun k h1 h2 h3 h4 => ?_⟩
  · have hp := par_lt h1
    rw [if_neg h3, if_neg (by omega)]
    exact h k h1 (by omega)
  · have hp := par_lt h1
    omega
/-- the first taken away: it stands at n then -/
def popped (lt : α → α → Bool) (d : Nat → α) (n : Nat) : Nat → α := (down lt (n + 1) (sw d 0 n) n 0).1
theorem popped_heap {lt : α → α → Bool} (ho : Ord lt) {d : Nat → α} {n : Nat} (h : IsHeap lt d (n + 1)) : IsHeap lt (popped lt d n) n ∧ Shuf n (sw d 0 n) (popped lt d n) ∧ popped lt d n n = d 0 := by
  have hlast : sw d 0 n n = d 0 := by
    unfold sw
    split
    · rename_i e; rw [e]
    · rw [if_pos rfl]
  rcases Nat.eq_zero_or_pos n with e | e
  · subst e
    refine ⟨fun k h1 h2 => by omega, ?_, ?_⟩
    · unfold popped down; rw [if_pos (.inl (by omega))]; exact Shuf.refl _ _
    · unfold popped down; rw [if_pos (.inl (by omega))]; exact hlast
  · have hd := down_heap ho n 0 n (sw d 0 n) 0 (by omega) e (Nat.le_refl _) ⟨fun k h1 h2 h3 h4 => by
      have hp := par_lt h1
      unfold sw
      rw [if_neg (by omega), if_neg (by omega), if_neg h3, if_neg (by omega)]
      exact h k h1 (by omega), fun k h1 h2 h3 h4 => absurd rfl h4⟩
    obtain ⟨r1, r2, _⟩ := hd
    refine ⟨fun k h1 h2 => r1 k h1 h2 (by omega), r2, ?_⟩
    obtain ⟨p, q, _, _, h3, h4⟩ := r2
    exact (h4 n).trans (by rw [h3 n (Nat.le_refl _)]; exact hlast)
/-- what stands at i set right -/
def fixed (lt : α → α → Bool) (d : Nat → α) (n i : Nat) : Nat → α := if i < (down lt (n + 1) d n i).2 then (down lt (n + 1) d n i).1 else up lt (i + 1) (down lt (n + 1) d n i).1 i
theorem fixed_heap' {lt : α → α → Bool} (ho : Ord lt) {d : Nat → α} {n i : Nat} (hi : i < n) (h : IsHeap lt d n) (d' : Nat → α) (hne' : ∀ k, k < n → k ≠ i → d' k = d k) :
    IsHeap lt (fixed lt d' n i) n ∧ Shuf n d' (fixed lt d' n i) := by
  obtain ⟨r1, r2, r3, r4, r5, r6, r7⟩ := down_heap ho n i n d' i (by omega) hi (Nat.le_refl _) ⟨fun k h1 h2 h3 h4 => by have hp := par_lt h1; rw [hne' k h2 h4, hne' _ (by omega) h3]; exact h k h1 h2, fun k h1 h2 h3 h4 => absurd rfl h4⟩
  unfold fixed
  by_cases hm : i < (down lt (n + 1) d' n i).2
  · rw [if_pos hm]
    refine ⟨fun k h1 h2 => ?_, r2⟩
    by_cases e : k = i
    · subst e
      obtain ⟨e1, e2⟩ := r7 hm
      obtain ⟨c1, c2, c3, _⟩ := kid_of ho d' e2
      have hp := par_lt h1
      rw [e1, r5 _ hp, hne' _ c2 (by omega), hne' _ (by omega) (by omega)]
      have h3 := h (kid lt d' n k) (by omega) c2
      rw [c3] at h3
      exact ho.not _ _ _ (h k h1 h2) h3
    · exact r1 k h1 h2 e
  · rw [if_neg hm]
    have he := r6 (by omega)
    rw [he] at r1 ⊢
    exact up_heap ho n i d' i (Nat.le_refl _) hi ⟨r1, fun k h1 h2 h3 h4 => by
      have hp := par_lt h1
      have hp2 := par_lt h4
      rw [hne' k h2 (by omega), hne' _ (by omega) (by omega)]
      have h5 := h k h1 h2
      rw [h3] at h5
      exact ho.not _ _ _ (h i h4 hi) h5⟩
theorem fixed_heap {lt : α → α → Bool} (ho : Ord lt) {d : Nat → α} {n i : Nat} (hi : i < n) (h : IsHeap lt d n) (x : α) :
    IsHeap lt (fixed lt (fun k => if k = i then x else d k) n i) n ∧ Shuf n (fun k => if k = i then x else d k) (fixed lt (fun k => if k = i then x else d k) n i) :=
  fixed_heap' ho hi h _ fun _ _ hk => if_neg hk
/-- what stands at i taken away: it stands at n then -/
def removed (lt : α → α → Bool) (d : Nat → α) (n i : Nat) : Nat → α := if n = i then d else fixed lt (sw d i n) n i
theorem removed_heap {lt : α → α → Bool} (ho : Ord lt) {d : Nat → α} {n i : Nat} (hi : i ≤ n) (h : IsHeap lt d (n + 1)) : IsHeap lt (removed lt d n i) n ∧ Shuf n (sw d i n) (removed lt d n i) := by
  unfold removed
  by_cases e : n = i
  · rw [if_pos e]
    refine ⟨fun k h1 h2 => h k h1 (by omega), ?_⟩
    subst e
    have e2 : sw d n n = d := funext fun k => by unfold sw; by_cases e : k = n; (· rw [if_pos e, e]); (· rw [if_neg e, if_neg e])
    rw [e2]
    exact Shuf.refl _ _
  · rw [if_neg e]
    exact fixed_heap' ho (by omega) (d := d) (fun k h1 h2 => h k h1 (by omega)) _ fun k h1 h2 => by unfold sw; rw [if_neg h2, if_neg (by omega)]
end
end Go.Tum

/- Package due in plain words: the order of entries. No program here. -/
namespace Go.Tum
open Go.Lib
theorem cb_swap : ∀ a b : List UInt8, compareBytes b a = -compareBytes a b
  | [], [] => by simp [compareBytes]
  | [], _ :: _ => by simp [compareBytes]
  | _ :: _, [] => by simp [compareBytes]
  | a :: as, b :: bs => by
    have h := cb_swap as bs
    simp only [compareBytes]
    by_cases h1 : a < b
    · have h2 : ¬ b < a := fun h => absurd (UInt8.lt_trans h1 h) (UInt8.lt_irrefl _)
      simp only [h1, h2, if_true, if_false]
      rfl
    · by_cases h2 : b < a
      · simp only [h1, h2, if_true, if_false]
      · simp only [h1, h2, if_false, h]
theorem cb_zero : ∀ a b : List UInt8, compareBytes a b = 0 ↔ a = b
  | [], [] => by simp [compareBytes]
  | [], _ :: _ => by simp [compareBytes]
  | _ :: _, [] => by simp [compareBytes]
  | a :: as, b :: bs => by
    have h := cb_zero as bs
    simp only [compareBytes]
    by_cases h1 : a < b
    · rw [if_pos h1]
      refine ⟨fun e => by omega, fun e => ?_⟩
      injection e with e _
      subst e
      exact absurd h1 (UInt8.lt_irrefl _)
    · by_cases h2 : b < a
      · rw [if_neg h1, if_pos h2]
        refine ⟨fun e => by omega, fun e => ?_⟩
        injection e with e _
        subst e
        exact absurd h2 (UInt8.lt_irrefl _)
      · rw [if_neg h1, if_neg h2, h]
        have e : a = b := by
          have h3 := UInt8.not_lt.1 h1
          have h4 := UInt8.not_lt.1 h2
          exact UInt8.le_antisymm h4 h3
        subst e
        simp
theorem cb_trans : ∀ a b c : List UInt8, compareBytes a b < 0 → compareBytes b c < 0 → compareBytes a c < 0
  | [], [], _, h1, _ => by simp [compareBytes] at h1
  | [], _ :: _, [], _, h2 => by simp [compareBytes] at h2
  | [], _ :: _, _ :: _, _, _ => by simp [compareBytes]
  | _ :: _, [], _, h1, _ => by simp [compareBytes] at h1
  | _ :: _, _ :: _, [], _, h2 => by simp [compareBytes] at h2
  | a :: as, b :: bs, c :: cs, h1, h2 => by
    have h := cb_trans as bs cs
    simp only [compareBytes] at h1 h2 ⊢
    by_cases e1 : a < b
    · by_cases e2 : b < c
      · rw [if_pos (UInt8.lt_trans e1 e2)]; decide
      · rw [if_neg e2] at h2
        by_cases e3 : c < b
        · rw [if_pos e3] at h2; omega
        · have e : b = c := UInt8.le_antisymm (UInt8.not_lt.1 e3) (UInt8.not_lt.1 e2)
          subst e
          rw [if_pos e1]; decide
    · rw [if_neg e1] at h1
      by_cases e2 : b < a
      · rw [if_pos e2] at h1; omega
      · have e : a = b := UInt8.le_antisymm (UInt8.not_lt.1 e2) (UInt8.not_lt.1 e1)
        subst e
        rw [if_neg e2] at h1
        by_cases e3 : a < c
        · rw [if_pos e3]; decide
        · rw [if_neg e3] at h2 ⊢
          by_cases e4 : c < a
          · rw [if_pos e4] at h2; omega
          · rw [if_neg e4] at h2 ⊢
            exact h h1 h2
/-- An entry: its key, and when it is due. -/
abbrev Ent := List UInt8 × Int
def before (a b : Ent) : Bool := decide (a.2 < b.2 ∨ a.2 = b.2 ∧ compareBytes a.1 b.1 < 0)
theorem before_ord : Ord before where
  trans a b c h1 h2 := by
    simp only [before, decide_eq_true_eq] at h1 h2 ⊢
    rcases h1 with h1 | ⟨h1, k1⟩
    · rcases h2 with h2 | ⟨h2, k2⟩
      · exact .inl (by omega)
      · exact .inl (by omega)
    · rcases h2 with h2 | ⟨h2, k2⟩
      · exact .inl (by omega)
      · exact .inr ⟨by omega, cb_trans _ _ _ k1 k2⟩
  not a b c h1 h2 := by
    simp only [before, decide_eq_false_iff_not, not_or, not_and, Int.not_lt] at h1 h2 ⊢
    refine ⟨by omega, fun e => ?_⟩
    have e1 : b.2 = a.2 := by omega
    have e2 : c.2 = b.2 := by omega
    have k1 := h1.2 e1
    have k2 := h2.2 e2
    rcases Int.lt_or_eq_of_le k1 with q1 | q1
    · rcases Int.lt_or_eq_of_le k2 with q2 | q2
      · have p1 : compareBytes a.1 b.1 < 0 := by rw [cb_swap]; omega
        have p2 : compareBytes b.1 c.1 < 0 := by rw [cb_swap]; omega
        have p3 := cb_trans _ _ _ p1 p2
        rw [cb_swap]
        omega
      · have := (cb_zero _ _).1 q2.symm
        rw [this]
        exact k1
    · have := (cb_zero _ _).1 q1.symm
      rw [← this]
      exact k2
  asym a b h := by
    simp only [before, decide_eq_true_eq] at h
    simp only [before, decide_eq_false_iff_not, not_or, not_and, Int.not_lt]
    rcases h with h | ⟨h, k⟩
    · exact ⟨by omega, fun e => by omega⟩
    · exact ⟨by omega, fun _ => by rw [cb_swap]; omega⟩
/-- A queue's pile: a heap of entries whose keys are distinct. -/
structure QI (d : Nat → Ent) (n : Nat) : Prop where
  heap : IsHeap before d n
  keys : ∀ i j, i < n → j < n → (d i).1 = (d j).1 → i = j
def Has (d : Nat → Ent) (n : Nat) (x : Ent) : Prop := ∃ k, k < n ∧ d k = x
theorem qi_zero (d : Nat → Ent) : QI d 0 := ⟨fun _ _ h => absurd h (Nat.not_lt_zero _), fun _ _ h => absurd h (Nat.not_lt_zero _)⟩
theorem QI.one {d : Nat → Ent} {n : Nat} (h : QI d n) {x y : Ent} (hx : Has d n x) (hy : Has d n y) (e : x.1 = y.1) : x = y := by
  obtain ⟨i, hi, rfl⟩ := hx
  obtain ⟨j, hj, rfl⟩ := hy
  rw [h.keys i j hi hj e]
theorem QI.first {d : Nat → Ent} {n : Nat} (h : QI d n) {x : Ent} (hx : Has d n x) : before x (d 0) = false := by
  obtain ⟨i, hi, rfl⟩ := hx
  exact heap_min before_ord h.heap i i (Nat.le_refl _) hi
/-- a key moved -/
theorem QI.fix {d : Nat → Ent} {n i : Nat} (h : QI d n) (hi : i < n) (t : Int) :
    QI (fixed before (fun k => if k = i then ((d i).1, t) else d k) n i) n ∧ ∀ x, Has (fixed before (fun k => if k = i then ((d i).1, t) else d k) n i) n x ↔ x = ((d i).1, t) ∨ (x.1 ≠ (d i).1 ∧ Has d n x) := by
  obtain ⟨h1, h2⟩ := fixed_heap before_ord hi h.heap ((d i).1, t)
  have hk : ∀ k, ((fun k => if k = i then ((d i).1, t) else d k) k).1 = (d k).1 := fun k => by
    dsimp only
    split
    · rename_i e; rw [e]
    · rfl
  refine ⟨⟨h1, h2.inj Prod.fst fun a b ha hb e => ?_⟩, fun x => ?_⟩
  · rw [hk, hk] at e
    exact h.keys a b ha hb e
  · refine (h2.mem x).trans ⟨?_, ?_⟩
    · rintro ⟨k, hkn, rfl⟩
      by_cases e : k = i
      · exact .inl (by rw [if_pos e])
      · rw [if_neg e]
        exact .inr ⟨fun e2 => e (h.keys k i hkn hi e2), k, hkn, rfl⟩
    · rintro (rfl | ⟨h3, k, hkn, rfl⟩)
      · exact ⟨i, hi, if_pos rfl⟩
      · exact ⟨k, hkn, if_neg fun e => h3 (by rw [e])⟩
/-- a key put in -/
theorem QI.push {d : Nat → Ent} {n : Nat} (h : QI d n) (x : Ent) (hx : ∀ y, Has d n y → y.1 ≠ x.1) :
    QI (pushed before d n x) (n + 1) ∧ ∀ y, Has (pushed before d n x) (n + 1) y ↔ y = x ∨ Has d n y := by
  obtain ⟨h1, h2⟩ := pushed_heap before_ord h.heap x
  refine ⟨⟨h1, h2.inj Prod.fst fun a b ha hb e => ?_⟩, fun y => ?_⟩
  · by_cases ea : a = n
    · by_cases eb : b = n
      · omega
      · rw [if_pos ea, if_neg eb] at e
        exact absurd e.symm (hx _ ⟨b, by omega, rfl⟩)
    · by_cases eb : b = n
      · rw [if_neg ea, if_pos eb] at e
        exact absurd e (hx _ ⟨a, by omega, rfl⟩)
      · rw [if_neg ea, if_neg eb] at e
        exact h.keys a b (by omega) (by omega) e
  · refine (h2.mem y).trans ⟨?_, ?_⟩
    · rintro ⟨k, hkn, rfl⟩
      by_cases e : k = n
      · exact .inl (by rw [if_pos e])
      · rw [if_neg e]
        exact .inr ⟨k, by omega, rfl⟩
    · rintro (rfl | ⟨k, hkn, rfl⟩)
      · exact ⟨n, Nat.lt_succ_self _, if_pos rfl⟩
      · exact ⟨k, by omega, if_neg (by omega)⟩
/-- the first taken out -/
theorem QI.pop {d : Nat → Ent} {n : Nat} (h : QI d (n + 1)) : QI (popped before d n) n ∧ ∀ y, Has (popped before d n) n y ↔ y ≠ d 0 ∧ Has d (n + 1) y := by
  obtain ⟨h1, h2, _⟩ := popped_heap before_ord h.heap
  have hs : ∀ k, k < n → sw d 0 n k = if k = 0 then d n else d k := fun k hk => by
    unfold sw
    split
    · rfl
    · rw [if_neg (by omega)]
  refine ⟨⟨h1, h2.inj Prod.fst fun a b ha hb e => ?_⟩, fun y => ?_⟩
  · rw [hs a ha, hs b hb] at e
    by_cases ea : a = 0
    · by_cases eb : b = 0
      · omega
      · rw [if_pos ea, if_neg eb] at e
        have := h.keys n b (by omega) (by omega) e
        omega
    · by_cases eb : b = 0
      · rw [if_neg ea, if_pos eb] at e
        have := h.keys a n (by omega) (by omega) e
        omega
      · rw [if_neg ea, if_neg eb] at e
        exact h.keys a b (by omega) (by omega) e
  · refine (h2.mem y).trans ⟨?_, ?_⟩
    · rintro ⟨k, hkn, rfl⟩
      rw [hs k hkn]
      by_cases e : k = 0
      · rw [if_pos e]
        refine ⟨fun e2 => ?_, n, Nat.lt_succ_self _, rfl⟩
        have := h.keys n 0 (by omega) (by omega) (by rw [e2])
        omega
      · rw [if_neg e]
        refine ⟨fun e2 => ?_, k, by omega, rfl⟩
        exact e (h.keys k 0 (by omega) (by omega) (by rw [e2]))
    · rintro ⟨h3, k, hkn, rfl⟩
      by_cases e : k = n
      · subst e
        have hn : 0 < k := by
          rcases Nat.eq_zero_or_pos k with e2 | e2
          · subst e2; exact absurd rfl h3
          · exact e2
        exact ⟨0, hn, by rw [hs 0 hn, if_pos rfl]⟩
      · have hk0 : k ≠ 0 := fun e2 => h3 (by rw [e2])
        exact ⟨k, by omega, by rw [hs k (by omega), if_neg hk0]⟩
end Go.Tum

/- Hashes from byte to byte, in plain Lean. No program here. -/
namespace Go.Tum
def stepN (M p h : Nat) (b : UInt8) : Nat := (h ^^^ b.toNat) * p % M
def fnv64 (s : List UInt8) : Nat := s.foldl (stepN 18446744073709551616 1099511628211) 14695981039346656037
def fnv32 (s : List UInt8) : Nat := s.foldl (stepN 4294967296 16777619) 2166136261
theorem stepN_lt {M p h : Nat} {b : UInt8} (hM : 0 < M) : stepN M p h b < M := Nat.mod_lt _ hM
theorem fold_lt {M p : Nat} (hM : 0 < M) : ∀ (s : List UInt8) (h : Nat), h < M → s.foldl (stepN M p) h < M
  | [], _, h => h
  | _ :: s, _, _ => fold_lt hM s _ (stepN_lt hM)
theorem fnv64_lt (s : List UInt8) : fnv64 s < 18446744073709551616 := fold_lt (by decide) s _ (by decide)
theorem fnv32_lt (s : List UInt8) : fnv32 s < 4294967296 := fold_lt (by decide) s _ (by decide)
theorem fold_next {f : Nat → UInt8 → Nat} {a : Nat} {s : List UInt8} {i : Nat} (h : i < s.length) : (s.take (i + 1)).foldl f a = f ((s.take i).foldl f a) s[i] := by
  rw [List.take_succ_eq_append_getElem h, List.foldl_append]; rfl
theorem byte_lt (b : UInt8) : b.toNat < 256 := b.toNat_lt
theorem step64_nat {n : Nat} (h : n < 18446744073709551616) (b : UInt8) (p : Nat) : IntKind.u64.wrap (bits BinOp.xor IntKind.u64 (n : Int) (IntKind.u64.wrap (b.toNat : Int)) * (p : Int)) = ((stepN 18446744073709551616 p n b : Nat) : Int) := by
  have hb := byte_lt b
  rw [IntKind.wrap_u64 (b.toNat : Int), Int.emod_eq_of_lt (by omega) (by omega), bits_xor_u64_nat _ _ h (by omega), IntKind.wrap_u64]
  unfold stepN
  rw [Int.natCast_emod, Int.natCast_mul]
  rfl
theorem wrap_u32 (n : Int) : IntKind.u32.wrap n = n % 4294967296 := by simp [IntKind.wrap, IntKind.bits, IntKind.signed]
theorem bits_xor_u32_nat (a b : Nat) (ha : a < 4294967296) (hb : b < 4294967296) : bits .xor .u32 (a : Int) (b : Int) = ((a ^^^ b : Nat) : Int) := by
  have hx : a ^^^ b < 2 ^ 32 := Nat.xor_lt_two_pow (by omega) (by omega)
  have h1 : (BitVec.ofInt 32 (a : Int)).toNat = a := by
    rw [BitVec.ofInt_natCast, BitVec.toNat_ofNat]; exact Nat.mod_eq_of_lt (by omega)
  have h2 : (BitVec.ofInt 32 (b : Int)).toNat = b := by
    rw [BitVec.ofInt_natCast, BitVec.toNat_ofNat]; exact Nat.mod_eq_of_lt (by omega)
  show IntKind.u32.wrap ((BitVec.ofInt 32 (a : Int) ^^^ BitVec.ofInt 32 (b : Int)).toNat : Int) = _
  rw [BitVec.toNat_xor, h1, h2, wrap_u32]
  omega
theorem step32_nat {n : Nat} (h : n < 4294967296) (b : UInt8) (p : Nat) : IntKind.u32.wrap (bits BinOp.xor IntKind.u32 (n : Int) (IntKind.u32.wrap (b.toNat : Int)) * (p : Int)) = ((stepN 4294967296 p n b : Nat) : Int) := by
  have hb := byte_lt b
  rw [wrap_u32 (b.toNat : Int), Int.emod_eq_of_lt (by omega) (by omega), bits_xor_u32_nat _ _ h (by omega), wrap_u32]
  unfold stepN
  rw [Int.natCast_emod, Int.natCast_mul]
  rfl
/-- 32 bits reckoned in 64. -/
theorem stepR_nat {n : Nat} (h : n < 4294967296) (b : UInt8) : (IntKind.u64.wrap (bits BinOp.xor IntKind.u64 (n : Int) (IntKind.u64.wrap (b.toNat : Int)) * 16777619)).tmod 4294967296 = ((stepN 4294967296 16777619 n b : Nat) : Int) := by
  have h1 := step64_nat (n := n) (by omega) b 16777619
  rw [show ((16777619 : Nat) : Int) = 16777619 from rfl] at h1
  rw [h1]
  unfold stepN
  rw [Int.tmod_eq_emod_of_nonneg (by omega)]
  omega
theorem xor_lt {k a b : Nat} (ha : a < 2 ^ k) (hb : b < 2 ^ k) : a ^^^ b < 2 ^ k := Nat.xor_lt_two_pow ha hb
theorem mul_inj {M p q x y : Nat} (hpq : p * q % M = 1) (hx : x < M) (hy : y < M) (h : x * p % M = y * p % M) : x = y := by
  have h1 : x * p * q % M = y * p * q % M := by rw [Nat.mul_mod (x * p), h, ← Nat.mul_mod]
  rw [Nat.mul_assoc, Nat.mul_assoc, Nat.mul_mod, hpq, Nat.mul_mod y, hpq, Nat.mul_one, Nat.mul_one, Nat.mod_mod, Nat.mod_mod, Nat.mod_eq_of_lt hx, Nat.mod_eq_of_lt hy] at h1
  exact h1
theorem xor_right_inj' {a b c : Nat} (h : a ^^^ c = b ^^^ c) : a = b := by
  have := congrArg (· ^^^ c) h
  simpa [Nat.xor_assoc] using this
theorem xor_left_inj' {a b c : Nat} (h : c ^^^ a = c ^^^ b) : a = b := by
  have := congrArg (c ^^^ ·) h
  simpa [← Nat.xor_assoc] using this
structure Odd2 (M p : Nat) : Prop where
  k : ∃ k, M = 2 ^ k ∧ 8 ≤ k
  q : ∃ q, p * q % M = 1
section
variable {M p : Nat} (o : Odd2 M p)
include o
theorem Odd2.one : 1 < M := by
  obtain ⟨k, rfl, h⟩ := o.k
  exact Nat.one_lt_two_pow (by omega)
theorem Odd2.xlt {h : Nat} (hh : h < M) (b : UInt8) : h ^^^ b.toNat < M := by
  obtain ⟨k, rfl, h8⟩ := o.k
  exact Nat.xor_lt_two_pow hh (Nat.lt_of_lt_of_le (byte_lt b) (by have := Nat.pow_le_pow_right (n := 2) (by decide) h8; simpa using this))
theorem Odd2.step_h {a b : Nat} (ha : a < M) (hb : b < M) (c : UInt8) (h : stepN M p a c = stepN M p b c) : a = b := by
  obtain ⟨q, hq⟩ := o.q
  exact xor_right_inj' (mul_inj hq (o.xlt ha c) (o.xlt hb c) h)
theorem Odd2.step_b {a : Nat} (ha : a < M) {c d : UInt8} (h : stepN M p a c = stepN M p a d) : c = d := by
  obtain ⟨q, hq⟩ := o.q
  have := xor_left_inj' (mul_inj hq (o.xlt ha c) (o.xlt ha d) h)
  exact UInt8.toNat_inj.1 this
theorem Odd2.fold_h : ∀ (s : List UInt8) {a b : Nat}, a < M → b < M → s.foldl (stepN M p) a = s.foldl (stepN M p) b → a = b
  | [], _, _, _, _, h => h
  | c :: s, a, b, ha, hb, h => o.step_h ha hb c (Odd2.fold_h s (stepN_lt (by have := o.one; omega)) (stepN_lt (by have := o.one; omega)) h)
/-- Texts that differ in one byte have unlike hashes. -/
theorem Odd2.one_byte {a0 : Nat} (h0 : a0 < M) (u v : List UInt8) (c d : UInt8) : ((u ++ c :: v).foldl (stepN M p) a0 = (u ++ d :: v).foldl (stepN M p) a0) ↔ c = d := by
  have hM : 0 < M := by have := o.one; omega
  refine ⟨fun h => ?_, fun h => by rw [h]⟩
  rw [List.foldl_append, List.foldl_append, List.foldl_cons, List.foldl_cons] at h
  exact o.step_b (fold_lt hM u _ h0) (o.fold_h v (stepN_lt hM) (stepN_lt hM) h)
end
theorem odd64 : Odd2 18446744073709551616 1099511628211 := ⟨⟨64, by decide, by decide⟩, ⟨14886173955864302971, by decide⟩⟩
theorem odd32 : Odd2 4294967296 16777619 := ⟨⟨32, by decide, by decide⟩, ⟨899433627, by decide⟩⟩
theorem fnv64_byte (u v : List UInt8) (c d : UInt8) : (fnv64 (u ++ c :: v) = fnv64 (u ++ d :: v)) ↔ c = d := odd64.one_byte (by decide) u v c d
theorem fnv32_byte (u v : List UInt8) (c d : UInt8) : (fnv32 (u ++ c :: v) = fnv32 (u ++ d :: v)) ↔ c = d := odd32.one_byte (by decide) u v c d
end Go.Tum

/- Rings in plain Lean: texts and places in order, sorted lists, what is picked. No program here. -/
namespace Go.Tum
open Go.Lib
/-- A strict order in which whatever two that are not one can be told apart. -/
structure STO {α : Type} (lt : α → α → Bool) : Prop where
  irrefl : ∀ a, lt a a = false
  trans : ∀ a b c, lt a b = true → lt b c = true → lt a c = true
  total : ∀ a b, a ≠ b → lt a b = true ∨ lt b a = true
section
variable {α : Type} {lt : α → α → Bool} (o : STO lt)
include o
theorem STO.asym {a b : α} (h : lt a b = true) : lt b a = false := by
  cases h2 : lt b a with
  | false => rfl
  | true => have := o.trans a b a h h2; rw [o.irrefl] at this; cases this
theorem STO.le_trans {a b c : α} (h1 : lt b a = false) (h2 : lt c b = false) : lt c a = false := by
  cases h : lt c a with
  | false => rfl
  | true =>
    by_cases e : b = c
    · subst e; rw [h] at h1; cases h1
    · rcases o.total b c e with h3 | h3
      · have := o.trans _ _ _ h3 h; rw [h1] at this; cases this
      · rw [h3] at h2; cases h2
theorem STO.eq_of {a b : α} (h1 : lt a b = false) (h2 : lt b a = false) : a = b := by
  by_cases e : a = b
  · exact e
  · rcases o.total a b e with h | h
    · rw [h] at h1; cases h1
    · rw [h] at h2; cases h2
end
/-- Rising, equals may stand side by side. -/
abbrev Rising {α : Type} (lt : α → α → Bool) (l : List α) : Prop := l.Pairwise fun x y => lt y x = false
theorem rising_eq {α : Type} {lt : α → α → Bool} (o : STO lt) : ∀ {l m : List α}, l.Perm m → Rising lt l → Rising lt m → l = m
  | [], m, h, _, _ => (List.nil_perm.1 h).symm
  | x :: l, [], h, _, _ => absurd h.length_eq (by simp)
  | x :: l, y :: m, h, h1, h2 => by
    unfold Rising at h1 h2
    rw [List.pairwise_cons] at h1 h2
    have e : x = y := by
      by_cases e : x = y
      · exact e
      · have hx : x ∈ m := by
          rcases List.mem_cons.1 (h.mem_iff.1 (by simp : x ∈ x :: l)) with k | k
          · exact absurd k e
          · exact k
        have hy : y ∈ l := by
          rcases List.mem_cons.1 (h.mem_iff.2 (by simp : y ∈ y :: m)) with k | k
          · exact absurd k.symm e
          · exact k
        exact o.eq_of (h2.1 x hx) (h1.1 y hy)
    subst e
    rw [rising_eq o h.cons_inv h1.2 h2.2]
/-- All sorted. -/
def sortL {α : Type} (lt : α → α → Bool) (l : List α) : List α := l.mergeSort fun x y => !lt y x
theorem sortL_perm {α : Type} (lt : α → α → Bool) (l : List α) : (sortL lt l).Perm l := List.mergeSort_perm _ _
theorem sortL_rising {α : Type} {lt : α → α → Bool} (o : STO lt) (l : List α) : Rising lt (sortL lt l) := by
  have h1 : (sortL lt l).Pairwise fun x y => (!lt y x) = true := by
    unfold sortL
    refine List.pairwise_mergeSort (fun a b c ha hb => ?_) (fun a b => ?_) _
    · simp only [Bool.not_eq_true'] at ha hb ⊢
      exact o.le_trans ha hb
    · cases hab : lt b a with
      | false => simp
      | true => simp [o.asym hab]
  exact h1.imp fun h => by simpa using h
theorem sortL_eq {α : Type} {lt : α → α → Bool} (o : STO lt) {l m : List α} (h : l.Perm m) (hl : Rising lt l) : l = sortL lt m := rising_eq o (h.trans (sortL_perm lt m).symm) hl (sortL_rising o m)
theorem sortL_congr {α : Type} {lt : α → α → Bool} (o : STO lt) {l m : List α} (h : l.Perm m) : sortL lt l = sortL lt m := sortL_eq o ((sortL_perm lt l).trans h) (sortL_rising o l)
/-- One more, behind its like. -/
def insR {α : Type} (lt : α → α → Bool) (l : List α) (p : α) : List α := (l.reverse.dropWhile (lt p)).reverse ++ p :: (l.reverse.takeWhile (lt p)).reverse
theorem insR_split {α : Type} (lt : α → α → Bool) (l : List α) (p : α) : l = (l.reverse.dropWhile (lt p)).reverse ++ (l.reverse.takeWhile (lt p)).reverse := by
  rw [← List.reverse_append, List.takeWhile_append_dropWhile, List.reverse_reverse]
theorem insR_perm {α : Type} (lt : α → α → Bool) (l : List α) (p : α) : (insR lt l p).Perm (l ++ [p]) := by
  conv => rhs; rw [insR_split lt l p]
  unfold insR
  rw [List.append_assoc]
  exact List.Perm.append_left _ (List.perm_append_singleton _ _).symm
theorem insR_rising {α : Type} {lt : α → α → Bool} (o : STO lt) {l : List α} (h : Rising lt l) (p : α) : Rising lt (insR lt l p) := by
  have hs := insR_split lt l p
  obtain ⟨A, hA⟩ : ∃ A, A = (l.reverse.dropWhile (lt p)).reverse := ⟨_, rfl⟩
  obtain ⟨B, hB⟩ : ∃ B, B = (l.reverse.takeWhile (lt p)).reverse := ⟨_, rfl⟩
  have hb : ∀ y ∈ B, lt p y = true := fun y hy => by
    rw [hB, List.mem_reverse] at hy
    exact List.all_eq_true.1 List.all_takeWhile y hy
  have ha : ∀ x ∈ A, lt p x = false := by
    cases hd : l.reverse.dropWhile (lt p) with
    | nil => intro x hx; rw [hA, hd] at hx; cases hx
    | cons z D =>
      have hz : lt p z = false := by
        have := List.head_dropWhile_not (lt p) (l := l.reverse) (by rw [hd]; simp)
        simpa [hd] using this
      intro x hx
      rw [hA, hd, List.reverse_cons] at hx
      rcases List.mem_append.1 hx with k | k
      · have hAz : A = D.reverse ++ [z] := by rw [hA, hd, List.reverse_cons]
        rw [hs, ← hA, hAz] at h
        have h2 := (List.pairwise_append.1 (List.pairwise_append.1 h).1).2.2 x k z (by simp)
        exact o.le_trans h2 hz
      · rw [List.mem_singleton.1 k]; exact hz
  unfold insR
  rw [← hA, ← hB]
  rw [hs, ← hA, ← hB] at h
  obtain ⟨k1, k2, k3⟩ := List.pairwise_append.1 h
  refine List.pairwise_append.2 ⟨k1, List.pairwise_cons.2 ⟨fun y hy => o.asym (hb y hy), k2⟩, fun x hx y hy => ?_⟩
  rcases List.mem_cons.1 hy with rfl | hy
  · exact ha x hx
  · exact k3 x hx y hy
/-- Two lists made one. -/
def mergeL {α : Type} (lt : α → α → Bool) : List α → List α → List α
  | [], b => b
  | x :: a, [] => x :: a
  | x :: a, y :: b => if lt x y then x :: mergeL lt a (y :: b) else y :: mergeL lt (x :: a) b
termination_by a b => a.length + b.length
section
variable {α : Type} {lt : α → α → Bool}
theorem mergeL_nil (a : List α) : mergeL lt a [] = a := by cases a <;> simp [mergeL]
theorem mergeL_perm : ∀ (a b : List α), (mergeL lt a b).Perm (a ++ b)
  | [], b => by simp [mergeL]
  | x :: a, [] => by simp [mergeL]
  | x :: a, y :: b => by
    unfold mergeL
    split
    · exact (mergeL_perm a (y :: b)).cons x
    · exact ((mergeL_perm (x :: a) b).cons y).trans (List.perm_middle.symm)
termination_by a b => a.length + b.length
theorem mergeL_rising (o : STO lt) : ∀ {a b : List α}, Rising lt a → Rising lt b → Rising lt (mergeL lt a b)
  | [], b, _, hb => by simpa [mergeL] using hb
  | x :: a, [], ha, _ => by simpa [mergeL] using ha
  | x :: a, y :: b, ha, hb => by
    have ha' := List.pairwise_cons.1 ha
    have hb' := List.pairwise_cons.1 hb
    unfold mergeL
    split
    · rename_i h
      refine List.pairwise_cons.2 ⟨fun z hz => ?_, mergeL_rising o ha'.2 hb⟩
      rcases List.mem_append.1 ((mergeL_perm a (y :: b)).mem_iff.1 hz) with k | k
      · exact ha'.1 z k
      · rcases List.mem_cons.1 k with rfl | k
        · exact o.asym h
        · exact o.le_trans (o.asym h) (hb'.1 z k)
    · rename_i h
      have h : lt x y = false := by simpa using h
      refine List.pairwise_cons.2 ⟨fun z hz => ?_, mergeL_rising o ha hb'.2⟩
      rcases List.mem_append.1 ((mergeL_perm (x :: a) b).mem_iff.1 hz) with k | k
      · rcases List.mem_cons.1 k with rfl | k
        · exact h
        · exact o.le_trans h (ha'.1 z k)
      · exact hb'.1 z k
termination_by a b => a.length + b.length
end
/-! ### Texts and places -/
abbrev Tx := List UInt8
def ltT (a b : Tx) : Bool := decide (compareBytes a b < 0)
theorem sto_T : STO ltT where
  irrefl a := by have := (cb_zero a a).2 rfl; simp [ltT, this]
  trans a b c h1 h2 := by
    simp only [ltT, decide_eq_true_eq] at *
    exact cb_trans a b c h1 h2
  total a b h := by
    simp only [ltT, decide_eq_true_eq]
    have h1 := cb_swap a b
    have h2 : compareBytes a b ≠ 0 := fun e => h ((cb_zero a b).1 e)
    omega
abbrev Plc := Nat × Tx
def ltP (a b : Plc) : Bool := decide (a.1 < b.1 ∨ a.1 = b.1 ∧ compareBytes a.2 b.2 < 0)
theorem sto_P : STO ltP where
  irrefl a := by have := (cb_zero a.2 a.2).2 rfl; simp [ltP, this]
  trans a b c h1 h2 := by
    simp only [ltP, decide_eq_true_eq] at *
    rcases h1 with h1 | ⟨e1, h1⟩
    · rcases h2 with h2 | ⟨e2, h2⟩
      · exact .inl (by omega)
      · exact .inl (by omega)
    · rcases h2 with h2 | ⟨e2, h2⟩
      · exact .inl (by omega)
      · exact .inr ⟨by omega, cb_trans _ _ _ h1 h2⟩
  total a b h := by
    simp only [ltP, decide_eq_true_eq]
    have h1 := cb_swap a.2 b.2
    by_cases e : a.1 = b.1
    · have h2 : compareBytes a.2 b.2 ≠ 0 := fun e2 => h (Prod.ext e ((cb_zero _ _).1 e2))
      omega
    · omega
def cmpP (a b : Plc) : Int := if a = b then 0 else if a.1 < b.1 then -1 else if b.1 < a.1 then 1 else compareBytes a.2 b.2
theorem cmpP_lt (a b : Plc) : decide (cmpP a b < 0) = ltP a b := by
  unfold cmpP ltP
  by_cases e : a = b
  · subst e
    have := (cb_zero a.2 a.2).2 rfl
    simp [this]
  · rw [if_neg e]
    by_cases h1 : a.1 < b.1
    · simp [h1]
    · rw [if_neg h1]
      by_cases h2 : b.1 < a.1
      · rw [if_pos h2]
        have h3 : ¬ (a.1 < b.1 ∨ a.1 = b.1 ∧ compareBytes a.2 b.2 < 0) := by omega
        rw [decide_eq_false h3]
        rfl
      · rw [if_neg h2]
        have h3 : a.1 = b.1 := by omega
        simp [h3]
theorem bytesLess_lt : ∀ a b : Tx, Op.bytesLess a b = ltT a b
  | [], [] => by simp [Op.bytesLess, ltT, compareBytes]
  | [], _ :: _ => by simp [Op.bytesLess, ltT, compareBytes]
  | _ :: _, [] => by simp [Op.bytesLess, ltT, compareBytes]
  | a :: x, b :: y => by
    have h := bytesLess_lt x y
    simp only [ltT] at h ⊢
    simp only [Op.bytesLess, compareBytes, h]
    by_cases h1 : a < b
    · simp [h1]
    · by_cases h2 : b < a
      · have h3 : a ≠ b := fun e => h1 (e ▸ h2)
        simp [h1, h2, h3]
      · have e : a = b := UInt8.le_antisymm (UInt8.not_lt.1 h2) (UInt8.not_lt.1 h1)
        subst e
        simp [h1]
/-- A text among sorted ones. -/
def insT (L : List Tx) (x : Tx) : List Tx := L.takeWhile (ltT · x) ++ x :: L.dropWhile (ltT · x)
/-- Each once, as they come. -/
def dd : List Tx → List Tx → List Tx
  | acc, [] => acc
  | acc, x :: l => if x ∈ acc then dd acc l else dd (acc ++ [x]) l
theorem dd_snoc (x : Tx) : ∀ (l acc : List Tx), dd acc (l ++ [x]) = if x ∈ dd acc l then dd acc l else dd acc l ++ [x]
  | [], acc => by by_cases h : x ∈ acc <;> simp [dd, h]
  | y :: l, acc => by
    simp only [List.cons_append, dd]
    split
    · exact dd_snoc x l acc
    · exact dd_snoc x l _
theorem dd_prefix : ∀ (l acc : List Tx), acc <+: dd acc l
  | [], acc => List.prefix_rfl
  | x :: l, acc => by
    simp only [dd]
    split
    · exact dd_prefix l acc
    · exact (List.prefix_append acc [x]).trans (dd_prefix l _)
theorem dd_append (l m acc : List Tx) : dd acc (l ++ m) = dd (dd acc l) m := by
  induction l generalizing acc with
  | nil => rfl
  | cons x l ih =>
    simp only [List.cons_append, dd]
    split <;> exact ih _
theorem dd_mem (x : Tx) : ∀ (l acc : List Tx), x ∈ dd acc l ↔ x ∈ acc ∨ x ∈ l
  | [], acc => by simp [dd]
  | y :: l, acc => by
    simp only [dd, List.mem_cons]
    split
    · rename_i h
      rw [dd_mem x l acc]
      constructor
      · rintro (k | k); exact .inl k; exact .inr (.inr k)
      · rintro (k | k | k); exact .inl k; exact .inl (k ▸ h); exact .inr k
    · rw [dd_mem x l _]
      simp only [List.mem_append, List.mem_singleton]
      constructor
      · rintro ((k | k) | k); exact .inl k; exact .inr (.inl k); exact .inr (.inr k)
      · rintro (k | k | k); exact .inl (.inl k); exact .inl (.inr k); exact .inr k
theorem dd_nodup : ∀ (l acc : List Tx), acc.Nodup → (dd acc l).Nodup
  | [], _, h => h
  | y :: l, acc, h => by
    simp only [dd]
    split
    · exact dd_nodup l acc h
    · rename_i hy
      refine dd_nodup l _ ?_
      rw [List.nodup_append]
      refine ⟨h, by simp, fun a ha b hb e => hy ?_⟩
      rw [← List.mem_singleton.1 hb, ← e]; exact ha
theorem dd_filter (p : Tx → Bool) : ∀ (l acc : List Tx), (dd acc l).filter p = dd (acc.filter p) (l.filter p)
  | [], acc => rfl
  | y :: l, acc => by
    simp only [dd, List.filter_cons]
    by_cases hp : p y = true
    · simp only [hp, if_true, dd]
      have hm : y ∈ acc.filter p ↔ y ∈ acc := by simp [hp]
      by_cases h : y ∈ acc
      · rw [if_pos h, if_pos (hm.2 h)]; exact dd_filter p l acc
      · rw [if_neg h, if_neg (fun e => h (hm.1 e)), dd_filter p l _]; simp [hp]
    · have hp' : p y = false := by simpa using hp
      simp only [hp', Bool.false_eq_true, if_false]
      by_cases h : y ∈ acc
      · rw [if_pos h]; exact dd_filter p l acc
      · rw [if_neg h, dd_filter p l _]; simp [hp']
end Go.Tum

/- Searches in sorted lists, in plain Lean. No program here. -/
namespace Go.Tum
open Go.Lib
theorem tw_at {α : Type} {p : α → Bool} {L : List α} {i : Nat} (h : ∀ y ∈ L.take i, p y = true) (hs : L.length ≤ i ∨ ∃ x, L[i]? = some x ∧ p x = false) : L.takeWhile p = L.take i ∧ L.dropWhile p = L.drop i := by
  induction L generalizing i with
  | nil => simp
  | cons y L ih =>
    cases i with
    | zero =>
      rcases hs with hs | ⟨x, hx, hp⟩
      · simp at hs
      · simp only [List.getElem?_cons_zero, Option.some.injEq] at hx
        subst hx
        simp [hp]
    | succ i =>
      have h1 : p y = true := h y (by simp)
      obtain ⟨a, b⟩ := ih (i := i) (fun z hz => h z (by simp [hz])) (by
        rcases hs with hs | ⟨x, hx, hp⟩
        · exact .inl (by simpa using hs)
        · exact .inr ⟨x, by simpa using hx, hp⟩)
      simp [h1, a, b]
theorem tw_len {α : Type} {p : α → Bool} {L : List α} {i : Nat} (hi : i ≤ L.length) (h : ∀ y ∈ L.take i, p y = true) (hs : L.length ≤ i ∨ ∃ x, L[i]? = some x ∧ p x = false) : (L.takeWhile p).length = i := by
  rw [(tw_at h hs).1, List.length_take, Nat.min_eq_left hi]
theorem mem_take_idx {α : Type} {L : List α} {i : Nat} {y : α} (h : y ∈ L.take i) : ∃ k, k < i ∧ L[k]? = some y := by
  rw [List.mem_take_iff_getElem] at h
  obtain ⟨k, hk, rfl⟩ := h
  exact ⟨k, by omega, List.getElem?_eq_getElem (by omega)⟩
theorem mem_drop_idx {α : Type} {L : List α} {i : Nat} {y : α} (h : y ∈ L.drop i) : ∃ k, i ≤ k ∧ L[k]? = some y := by
  obtain ⟨k, hk, e⟩ := List.getElem_of_mem h
  rw [List.getElem_drop] at e
  exact ⟨i + k, by omega, by rw [List.length_drop] at hk; rw [List.getElem?_eq_getElem (by omega), e]⟩
/-- A list along which p turns from true to false once. -/
abbrev Down {α : Type} (p : α → Bool) (L : List α) : Prop := L.Pairwise fun x y => p y = true → p x = true
theorem down_at {α : Type} {p : α → Bool} {L : List α} (h : Down p L) {i j : Nat} {x y : α} (hij : i ≤ j) (hx : L[i]? = some x) (hy : L[j]? = some y) (hp : p y = true) : p x = true := by
  rcases Nat.eq_or_lt_of_le hij with e | e
  · subst e; rw [hx] at hy; injection hy with hy; rw [hy]; exact hp
  · obtain ⟨h1, e1⟩ := List.getElem?_eq_some_iff.1 hx
    obtain ⟨h2, e2⟩ := List.getElem?_eq_some_iff.1 hy
    have := List.pairwise_iff_getElem.1 h i j h1 h2 e
    rw [e1, e2] at this
    exact this hp
theorem down_left {α : Type} {p : α → Bool} {L : List α} (h : Down p L) {m : Nat} {x : α} (hx : L[m]? = some x) (hp : p x = true) : ∀ y ∈ L.take (m + 1), p y = true := fun y hy => by
  obtain ⟨k, hk, hy⟩ := mem_take_idx hy
  exact down_at h (by omega) hy hx hp
theorem down_right {α : Type} {p : α → Bool} {L : List α} (h : Down p L) {m : Nat} {x : α} (hx : L[m]? = some x) (hp : p x = false) : ∀ y ∈ L.drop m, p y = false := fun y hy => by
  obtain ⟨k, hk, hy⟩ := mem_drop_idx hy
  cases hq : p y with
  | false => rfl
  | true => have := down_at h hk hx hy hq; rw [hp] at this; cases this
theorem down_len {α : Type} {p : α → Bool} {L : List α} {i : Nat} (hi : i ≤ L.length) (h1 : ∀ y ∈ L.take i, p y = true) (h2 : ∀ y ∈ L.drop i, p y = false) : (L.takeWhile p).length = i := by
  refine tw_len hi h1 ?_
  rcases Nat.lt_or_ge i L.length with h | h
  · exact .inr ⟨L[i], List.getElem?_eq_getElem h, h2 _ (by rw [List.mem_drop_iff_getElem]; exact ⟨0, by simpa using h, by simp⟩)⟩
  · exact .inl h
/-- Strictly rising. -/
abbrev Strict {α : Type} (lt : α → α → Bool) (L : List α) : Prop := L.Pairwise fun x y => lt x y = true
theorem Strict.down {α : Type} {lt : α → α → Bool} (o : STO lt) {L : List α} (h : Strict lt L) (t : α) : Down (lt · t) L := h.imp fun k hb => o.trans _ _ _ k hb
theorem Strict.rising {α : Type} {lt : α → α → Bool} (o : STO lt) {L : List α} (h : Strict lt L) : Rising lt L := h.imp fun k => o.asym k
theorem Strict.nodup {α : Type} {lt : α → α → Bool} (o : STO lt) {L : List α} (h : Strict lt L) : L.Nodup := h.imp fun k e => by subst e; rw [o.irrefl] at k; cases k
def posT (N : List Tx) (t : Tx) : Nat := (N.takeWhile (ltT · t)).length
theorem posT_le (N : List Tx) (t : Tx) : posT N t ≤ N.length := (List.takeWhile_prefix _).length_le
/-- Where a text that is there stands. -/
theorem pos_found {N : List Tx} (hN : Strict ltT N) {i : Nat} {t : Tx} (h1 : ∀ y ∈ N.take i, ltT y t = true) : (∃ x, N[i]? = some x ∧ x = t) ↔ (t ∈ N ∧ ∀ y ∈ N.drop i, ltT y t = false) := by
  constructor
  · rintro ⟨x, hx, rfl⟩
    exact ⟨List.mem_of_getElem? hx, down_right (hN.down sto_T x) hx (sto_T.irrefl x)⟩
  · rintro ⟨hm, h2⟩
    obtain ⟨k, hk, e⟩ := List.getElem_of_mem hm
    have hk' : N[k]? = some t := by rw [List.getElem?_eq_getElem hk, e]
    have hik : i ≤ k := by
      rcases Nat.lt_or_ge k i with h | h
      · have := h1 t (by rw [List.mem_take_iff_getElem]; exact ⟨k, by omega, e⟩)
        rw [sto_T.irrefl] at this; cases this
      · exact h
    have hi : i < N.length := by omega
    refine ⟨N[i], List.getElem?_eq_getElem hi, ?_⟩
    rcases Nat.eq_or_lt_of_le hik with e2 | e2
    · subst e2; exact e
    · have h3 := List.pairwise_iff_getElem.1 hN i k hi hk e2
      have h4 := h2 N[i] (by rw [List.mem_drop_iff_getElem]; exact ⟨0, by simpa using hi, by simp⟩)
      rw [e] at h3
      rw [h3] at h4
      cases h4
end Go.Tum

/- A ring in plain Lean: its nodes tell its places. No program here. -/
namespace Go.Tum
open Go.Lib
/-- A node's i-th place. -/
def newP (s : Tx) (i : Nat) : Plc := (fnv64 (s ++ [58] ++ Lib.itoa (i : Int)), s)
def news (c : Nat) (s : Tx) : List Plc := (List.range c).map (newP s)
theorem news_len (c : Nat) (s : Tx) : (news c s).length = c := by simp [news]
theorem news_mem {c : Nat} {s : Tx} {p : Plc} (h : p ∈ news c s) : p.2 = s := by
  obtain ⟨i, _, rfl⟩ := List.mem_map.1 h
  rfl
theorem news_next (c : Nat) (s : Tx) : news (c + 1) s = news c s ++ [newP s c] := by simp [news, List.range_succ]
def placesOf (c : Nat) (N : List Tx) : List Plc := sortL ltP (N.flatMap (news c))
theorem placesOf_rising (c : Nat) (N : List Tx) : Rising ltP (placesOf c N) := sortL_rising sto_P _
theorem placesOf_perm (c : Nat) (N : List Tx) : (placesOf c N).Perm (N.flatMap (news c)) := sortL_perm _ _
theorem flat_len (c : Nat) : ∀ N : List Tx, (N.flatMap (news c)).length = N.length * c
  | [] => by simp
  | x :: N => by rw [List.flatMap_cons, List.length_append, flat_len c N, news_len, List.length_cons, Nat.add_mul, Nat.one_mul, Nat.add_comm]
theorem placesOf_len (c : Nat) (N : List Tx) : (placesOf c N).length = N.length * c := by rw [(placesOf_perm c N).length_eq, flat_len]
theorem placesOf_mem {c : Nat} {N : List Tx} {p : Plc} (h : p ∈ placesOf c N) : p.2 ∈ N := by
  obtain ⟨s, hs, hp⟩ := List.mem_flatMap.1 ((placesOf_perm c N).mem_iff.1 h)
  rw [news_mem hp]; exact hs
theorem placesOf_has {c : Nat} (hc : 0 < c) {N : List Tx} {s : Tx} (h : s ∈ N) : ∃ p ∈ placesOf c N, p.2 = s :=
  ⟨newP s 0, (placesOf_perm c N).mem_iff.2 (List.mem_flatMap.2 ⟨s, h, List.mem_map.2 ⟨0, List.mem_range.2 hc, rfl⟩⟩), rfl⟩
theorem placesOf_congr {c : Nat} {N M : List Tx} (h : N.Perm M) : placesOf c N = placesOf c M := sortL_congr sto_P (h.flatMap_right (news c))
theorem placesOf_nil (c : Nat) : placesOf c [] = [] := by simp [placesOf, sortL]
/-- A node more. -/
theorem insT_perm (N : List Tx) (s : Tx) : (insT N s).Perm (s :: N) := by
  unfold insT
  conv => rhs; rw [show N = N.takeWhile (ltT · s) ++ N.dropWhile (ltT · s) from (List.takeWhile_append_dropWhile).symm]
  exact List.perm_middle
theorem insT_mem (N : List Tx) (s x : Tx) : x ∈ insT N s ↔ x = s ∨ x ∈ N := by rw [(insT_perm N s).mem_iff, List.mem_cons]
theorem insT_len (N : List Tx) (s : Tx) : (insT N s).length = N.length + 1 := (insT_perm N s).length_eq
theorem insT_at (N : List Tx) (s : Tx) : insT N s = N.take (posT N s) ++ s :: N.drop (posT N s) := by
  unfold insT posT
  obtain ⟨A, hA⟩ : ∃ A, A = N.takeWhile (ltT · s) := ⟨_, rfl⟩
  obtain ⟨B, hB⟩ : ∃ B, B = N.dropWhile (ltT · s) := ⟨_, rfl⟩
  have h : N = A ++ B := by rw [hA, hB]; exact (List.takeWhile_append_dropWhile).symm
  rw [← hA, ← hB, h]
  simp
theorem insT_strict {N : List Tx} (h : Strict ltT N) {s : Tx} (hs : s ∉ N) : Strict ltT (insT N s) := by
  have hsplit : N = N.takeWhile (ltT · s) ++ N.dropWhile (ltT · s) := (List.takeWhile_append_dropWhile).symm
  have hdown := h.down sto_T s
  have ha : ∀ x ∈ N.takeWhile (ltT · s), ltT x s = true := fun x hx => List.all_eq_true.1 List.all_takeWhile x hx
  have hb : ∀ y ∈ N.dropWhile (ltT · s), ltT s y = true := fun y hy => by
    have hyN : y ∈ N := by rw [hsplit]; exact List.mem_append.2 (.inr hy)
    have h1 : ltT y s = false := by
      cases hd : N.dropWhile (ltT · s) with
      | nil => rw [hd] at hy; cases hy
      | cons z D =>
        have hz : ltT z s = false := by
          have := List.head_dropWhile_not (ltT · s) (l := N) (by rw [hd]; simp)
          simpa [hd] using this
        rw [hd] at hy
        rcases List.mem_cons.1 hy with rfl | hy
        · exact hz
        · cases hq : ltT y s with
          | false => rfl
          | true =>
            rw [hsplit, hd] at hdown
            have := (List.pairwise_cons.1 (List.pairwise_append.1 hdown).2.1).1 y hy hq
            dsimp only at this; rw [hz] at this; cases this
    rcases sto_T.total y s (fun e => hs (e ▸ hyN)) with h2 | h2
    · rw [h1] at h2; cases h2
    · exact h2
  have h2 := h
  rw [hsplit] at h2
  obtain ⟨k1, k2, k3⟩ := List.pairwise_append.1 h2
  unfold insT
  refine List.pairwise_append.2 ⟨k1, List.pairwise_cons.2 ⟨hb, k2⟩, fun x hx y hy => ?_⟩
  rcases List.mem_cons.1 hy with rfl | hy
  · exact ha x hx
  · exact k3 x hx y hy
theorem placesOf_ins (c : Nat) (N : List Tx) (s : Tx) : sortL ltP (placesOf c N ++ news c s) = placesOf c (insT N s) := by
  refine sortL_congr sto_P ?_
  refine ((placesOf_perm c N).append_right _).trans ?_
  refine (List.perm_append_comm).trans ?_
  exact ((insT_perm N s).flatMap_right (news c)).symm
/-- A node less. -/
theorem placesOf_del (c : Nat) (N : List Tx) (s : Tx) : (placesOf c N).filter (fun p => !decide (p.2 = s)) = placesOf c (N.filter fun x => !decide (x = s)) := by
  refine sortL_eq sto_P ?_ ((placesOf_rising c N).sublist List.filter_sublist)
  refine ((placesOf_perm c N).filter _).trans ?_
  induction N with
  | nil => simp
  | cons x N ih =>
    rw [List.flatMap_cons, List.filter_append, List.filter_cons]
    by_cases h : x = s
    · have h1 : (news c x).filter (fun p => !decide (p.2 = s)) = [] := List.filter_eq_nil_iff.2 fun p hp => by rw [news_mem hp, h]; simp
      rw [h1, h]
      simpa using ih
    · have h1 : (news c x).filter (fun p => !decide (p.2 = s)) = news c x := List.filter_eq_self.2 fun p hp => by rw [news_mem hp]; simp [h]
      rw [h1]
      simp only [h, decide_false, Bool.not_false, if_true, List.flatMap_cons]
      exact List.Perm.append_left _ ih
theorem filter_at {N : List Tx} (h : Strict ltT N) {s : Tx} (hs : s ∈ N) : N.take (posT N s) ++ N.drop (posT N s + 1) = N.filter (fun x => !decide (x = s)) ∧ posT N s < N.length := by
  obtain ⟨i, hi, e⟩ := List.getElem_of_mem hs
  have hi' : N[i]? = some s := by rw [List.getElem?_eq_getElem hi, e]
  have hp : posT N s = i := by
    refine tw_len (by omega) (fun y hy => ?_) (.inr ⟨s, hi', sto_T.irrefl s⟩)
    obtain ⟨k, hk, hy⟩ := mem_take_idx hy
    obtain ⟨hkl, rfl⟩ := List.getElem?_eq_some_iff.1 hy
    have := List.pairwise_iff_getElem.1 h k i hkl hi hk
    rwa [e] at this
  rw [hp]
  refine ⟨?_, hi⟩
  have hn := h.nodup sto_T
  obtain ⟨A, B, hA, hB, hN⟩ : ∃ A B, N.take i = A ∧ N.drop (i + 1) = B ∧ N = A ++ s :: B := ⟨_, _, rfl, rfl, by rw [← e, List.getElem_cons_drop, List.take_append_drop]⟩
  rw [hA, hB, hN]
  rw [hN] at hn
  rw [List.nodup_append] at hn
  obtain ⟨n1, n2, n3⟩ := hn
  rw [List.nodup_cons] at n2
  rw [List.filter_append, List.filter_cons]
  simp only [decide_true, Bool.not_true, Bool.false_eq_true, if_false]
  rw [List.filter_eq_self.2 fun x hx => by simpa using fun e => n3 x hx s (by simp) e, List.filter_eq_self.2 fun x hx => by simpa using fun e : x = s => n2.1 (e ▸ hx)]
/-- What Add does to the nodes, and tells. -/
def addV (N : List Tx) (s : Tx) : List Tx × Int := if !decide (1 ≤ s.length ∧ s.length ≤ 200) then (N, 130) else if s ∈ N ∧ N.length < 64 then (N, 132) else if 64 ≤ N.length then (N, 130) else (insT N s, 0)
def delV (N : List Tx) (s : Tx) : List Tx × Int := if s ∈ N then (N.filter fun x => !decide (x = s), 0) else (N, 133)
/-- The places from one on, round. -/
def turned (L : List Plc) (i : Nat) : List Plc := L.drop i ++ L.take i
def pickV (L : List Plc) (h : Nat) (n : Int) : List Tx := if n < 1 then [] else (dd [] ((turned L (posOf L h)).map (·.2))).take n.toNat
where posOf (L : List Plc) (h : Nat) : Nat := (L.takeWhile fun p => decide (p.1 < h)).length
theorem turned_len (L : List Plc) (i : Nat) : (turned L i).length = L.length := by simp [turned]; omega
theorem turned_get (L : List Plc) {f : Nat} (hf : f ≤ L.length) {i : Nat} (hi : i < L.length) : (turned L f)[i]? = L[(f + i) % L.length]? := by
  unfold turned
  by_cases h : f + i < L.length
  · rw [Nat.mod_eq_of_lt h, List.getElem?_append_left (by simp; omega), List.getElem?_drop]
  · rw [Nat.mod_eq_sub_mod (by omega), Nat.mod_eq_of_lt (by omega), List.getElem?_append_right (by simp; omega), List.length_drop, List.getElem?_take_of_lt (by omega)]
    congr 1
    omega
end Go.Tum

/- A ring in plain Lean: what is picked. No program here. -/
namespace Go.Tum
theorem dd_len : ∀ (l acc : List Tx), (dd acc l).length ≤ acc.length + l.length
  | [], acc => Nat.le_refl _
  | x :: l, acc => by
    simp only [dd]
    split
    · have := dd_len l acc; simp only [List.length_cons]; omega
    · have := dd_len l (acc ++ [x]); simp only [List.length_cons, List.length_append, List.length_nil] at this ⊢; omega
theorem dd_step {T : List Tx} {i : Nat} {x : Tx} (h : T[i]? = some x) : dd [] (T.take (i + 1)) = if x ∈ dd [] (T.take i) then dd [] (T.take i) else dd [] (T.take i) ++ [x] := by
  rw [List.take_add_one, h]
  exact dd_snoc x _ _
theorem dd_cut (T : List Tx) (i : Nat) : (dd [] T).take (dd [] (T.take i)).length = dd [] (T.take i) := by
  have h : dd [] T = dd (dd [] (T.take i)) (T.drop i) := by rw [← dd_append, List.take_append_drop]
  rw [h]
  exact (List.prefix_iff_eq_take.1 (dd_prefix (T.drop i) (dd [] (T.take i)))).symm
theorem posOf_le (L : List Plc) (h : Nat) : pickV.posOf L h ≤ L.length := (List.takeWhile_sublist _).length_le
theorem pick_none {L : List Plc} {h : Nat} {n : Int} (hn : n < 1) : pickV L h n = [] := if_pos hn
theorem pick_all {L : List Plc} {h : Nat} {n : Int} (hn : ¬ n < 1) {f : Nat} (hf : f = pickV.posOf L h) {T : List Tx} (hT : T = (turned L f).map (·.2)) (hl : ((dd [] T).length : Int) < n) : pickV L h n = dd [] T := by
  subst hf hT
  unfold pickV
  rw [if_neg hn]
  exact List.take_of_length_le (by omega)
theorem pick_cut {L : List Plc} {h : Nat} {n : Int} (hn : ¬ n < 1) {f : Nat} (hf : f = pickV.posOf L h) {T : List Tx} (hT : T = (turned L f).map (·.2)) {i : Nat} (hl : ((dd [] (T.take i)).length : Int) = n) : pickV L h n = dd [] (T.take i) := by
  subst hf hT
  unfold pickV
  rw [if_neg hn, show n.toNat = (dd [] (((turned L (pickV.posOf L h)).map (·.2)).take i)).length by omega]
  exact dd_cut _ _
end Go.Tum

/- A ring in plain Lean: made of nodes. No program here. -/
namespace Go.Tum
/-- The nodes, rising. -/
def nodesOf (l : List Tx) : List Tx := l.foldl insT []
theorem foldT_perm : ∀ (l N : List Tx), (l.foldl insT N).Perm (N ++ l)
  | [], N => by simp
  | x :: l, N => by
    rw [List.foldl_cons]
    refine (foldT_perm l (insT N x)).trans ?_
    refine ((insT_perm N x).append_right l).trans ?_
    exact List.perm_middle.symm
theorem nodesOf_perm (l : List Tx) : (nodesOf l).Perm l := by have := foldT_perm l []; rwa [List.nil_append] at this
theorem nodesOf_mem (l : List Tx) (x : Tx) : x ∈ nodesOf l ↔ x ∈ l := (nodesOf_perm l).mem_iff
theorem nodesOf_len (l : List Tx) : (nodesOf l).length = l.length := (nodesOf_perm l).length_eq
theorem nodesOf_next {l : List Tx} {i : Nat} {x : Tx} (h : l[i]? = some x) : nodesOf (l.take (i + 1)) = insT (nodesOf (l.take i)) x := by
  unfold nodesOf
  rw [List.take_add_one, h, List.foldl_append]
  rfl
theorem nodup_next {l : List Tx} {i : Nat} {x : Tx} (h : l[i]? = some x) : (l.take (i + 1)).Nodup ↔ (l.take i).Nodup ∧ x ∉ l.take i := by
  rw [List.take_add_one, h, Option.toList_some, List.nodup_append]
  constructor
  · rintro ⟨h1, _, h3⟩
    exact ⟨h1, fun e => h3 x e x (by simp) rfl⟩
  · rintro ⟨h1, h2⟩
    exact ⟨h1, by simp, fun a ha b hb e => h2 (by rw [List.mem_singleton] at hb; rw [← hb, ← e]; exact ha)⟩
def newE (l : List Tx) (n : Int) : Int := if n < 1 ∨ 128 < n then 131 else if 64 < l.length ∨ (l.any fun s => !decide (1 ≤ s.length ∧ s.length ≤ 200)) = true then 130 else if l.Nodup then 0 else 132
theorem newE_copies {l : List Tx} {n : Int} (h : n < 1 ∨ 128 < n) : newE l n = 131 := if_pos h
theorem newE_nodes {l : List Tx} {n : Int} (h : ¬ (n < 1 ∨ 128 < n)) (h2 : 64 < l.length ∨ (l.any fun s => !decide (1 ≤ s.length ∧ s.length ≤ 200)) = true) : newE l n = 130 := by
  unfold newE; rw [if_neg h, if_pos h2]
theorem newE_there {l : List Tx} {n : Int} (h : ¬ (n < 1 ∨ 128 < n)) (h2 : ¬ (64 < l.length ∨ (l.any fun s => !decide (1 ≤ s.length ∧ s.length ≤ 200)) = true)) {i : Nat} {x : Tx} (hx : l[i]? = some x) (hm : x ∈ l.take i) : newE l n = 132 := by
  unfold newE; rw [if_neg h, if_neg h2, if_neg]
  intro hn
  have h1 : (l.take (i + 1)).Nodup := hn.sublist (List.take_sublist _ _)
  exact ((nodup_next hx).1 h1).2 hm
theorem newE_ok {l : List Tx} {n : Int} (h : ¬ (n < 1 ∨ 128 < n)) (h2 : ¬ (64 < l.length ∨ (l.any fun s => !decide (1 ≤ s.length ∧ s.length ≤ 200)) = true)) (hn : l.Nodup) : newE l n = 0 := by
  unfold newE; rw [if_neg h, if_neg h2, if_pos hn]
theorem newE_zero {l : List Tx} {n : Int} (h : newE l n = 0) : 1 ≤ n ∧ n ≤ 128 ∧ l.length ≤ 64 ∧ (∀ s ∈ l, 1 ≤ s.length ∧ s.length ≤ 200) ∧ l.Nodup := by
  unfold newE at h
  split at h
  · cases h
  · rename_i h1
    split at h
    · cases h
    · rename_i h2
      split at h
      · rename_i h3
        rw [not_or] at h1 h2
        refine ⟨by omega, by omega, by omega, fun s hs => ?_, h3⟩
        have h4 := h2.2
        rw [Bool.not_eq_true, List.any_eq_false] at h4
        have := h4 s hs
        cases hd : decide (1 ≤ s.length ∧ s.length ≤ 200) with
        | true => exact of_decide_eq_true hd
        | false => rw [hd] at this; exact absurd rfl this
      · cases h
/-- The first of what is picked, if any. -/
def getV (L : List Plc) (h : Nat) : Tx × Bool := match pickV L h 1 with
  | [] => ([], false)
  | x :: _ => (x, true)
end Go.Tum

/- A ring in plain Lean: how many are picked. No program here. -/
namespace Go.Tum
theorem turned_mem {L : List Plc} {f : Nat} {p : Plc} : p ∈ turned L f ↔ p ∈ L := by
  unfold turned
  rw [(List.perm_append_comm).mem_iff, List.take_append_drop]
theorem picked_mem {c : Nat} (hc : 0 < c) {N : List Tx} {f : Nat} (x : Tx) : x ∈ dd [] ((turned (placesOf c N) f).map (·.2)) ↔ x ∈ N := by
  rw [dd_mem, List.mem_map]
  constructor
  · rintro (h | ⟨p, hp, rfl⟩)
    · cases h
    · exact placesOf_mem (turned_mem.1 hp)
  · intro h
    obtain ⟨p, hp, e⟩ := placesOf_has hc h
    exact .inr ⟨p, turned_mem.2 hp, e⟩
theorem picked_perm {c : Nat} (hc : 0 < c) {N : List Tx} (hN : N.Nodup) (f : Nat) : (dd [] ((turned (placesOf c N) f).map (·.2))).Perm N :=
  (List.perm_ext_iff_of_nodup (dd_nodup _ _ List.nodup_nil) hN).2 fun x => picked_mem hc x
/-- All nodes, from a hash on. -/
def allV (L : List Plc) (h : Nat) : List Tx := dd [] ((turned L (pickV.posOf L h)).map (·.2))
theorem allV_perm {c : Nat} (hc : 0 < c) {N : List Tx} (hN : N.Nodup) (h : Nat) : (allV (placesOf c N) h).Perm N := picked_perm hc hN _
theorem pick_take (L : List Plc) (h : Nat) (n : Int) : pickV L h n = (allV L h).take n.toNat := by
  unfold pickV allV
  split
  · rw [show n.toNat = 0 by omega]; rfl
  · rfl
theorem pick_len {c : Nat} (hc : 0 < c) {N : List Tx} (hN : N.Nodup) (h : Nat) (n : Int) : (pickV (placesOf c N) h n).length = min n.toNat N.length := by
  rw [pick_take, List.length_take, (allV_perm hc hN h).length_eq]
theorem getV_eq (L : List Plc) (h : Nat) : getV L h = match allV L h with
  | [] => ([], false)
  | x :: _ => (x, true) := by
  unfold getV
  rw [pick_take]
  cases allV L h <;> rfl
end Go.Tum

/- A ring in plain Lean: a list without a text. No program here. -/
namespace Go.Tum
abbrev less1 (l : List Tx) (s : Tx) : List Tx := l.filter fun x => !decide (x = s)
theorem less1_not {l : List Tx} {s : Tx} (h : s ∉ l) : less1 l s = l := List.filter_eq_self.2 fun x hx => by
  have : x ≠ s := fun e => h (e ▸ hx)
  simp [this]
theorem less1_take {A : List Tx} (hA : A.Nodup) {i : Nat} {x : Tx} (hx : A[i]? = some x) : less1 (A.take i) x = A.take i := by
  refine less1_not fun h => ?_
  have h1 : (A.take (i + 1)).Nodup := hA.sublist (List.take_sublist _ _)
  exact ((nodup_next hx).1 h1).2 h
theorem less1_len : ∀ {l : List Tx} {x : Tx}, l.Nodup → x ∈ l → (less1 l x).length + 1 = l.length
  | y :: l, x, hn, hx => by
    rw [List.nodup_cons] at hn
    by_cases e : y = x
    · subst e
      have h1 := less1_not hn.1
      unfold less1 at h1 ⊢
      rw [List.filter_cons]
      simp only [decide_true, Bool.not_true, Bool.false_eq_true, if_false, h1, List.length_cons]
    · have hx' : x ∈ l := by
        rcases List.mem_cons.1 hx with h | h
        · exact absurd h.symm e
        · exact h
      have h1 := less1_len hn.2 hx'
      unfold less1 at h1 ⊢
      rw [List.filter_cons]
      simp only [e, decide_false, Bool.not_false, if_true, List.length_cons, h1]
theorem allV_nodup (L : List Plc) (h : Nat) : (allV L h).Nodup := dd_nodup _ _ List.nodup_nil
end Go.Tum

/- A ring in plain Lean: what the reference's put makes. No program here. -/
namespace Go.Tum
theorem insR_at {l : List Plc} {p : Plc} {j : Nat} (hj : j ≤ l.length) (h1 : ∀ y ∈ l.drop j, ltP p y = true) (h2 : ∀ x, j ≠ 0 → l[j - 1]? = some x → ltP p x = false) : insR ltP l p = l.take j ++ p :: l.drop j := by
  have hs : l.reverse = (l.drop j).reverse ++ (l.take j).reverse := by rw [← List.reverse_append, List.take_append_drop]
  have ht : l.reverse.takeWhile (ltP p) = (l.drop j).reverse ∧ l.reverse.dropWhile (ltP p) = (l.take j).reverse := by
    rw [hs]
    have ha : ∀ y ∈ (l.drop j).reverse, ltP p y = true := fun y hy => h1 y (List.mem_reverse.1 hy)
    have hb : (l.take j).reverse = [] ∨ ∃ x B, (l.take j).reverse = x :: B ∧ ltP p x = false := by
      rcases Nat.eq_zero_or_pos j with h0 | h0
      · left; subst h0; simp
      · right
        obtain ⟨x, hx⟩ : ∃ x, l[j - 1]? = some x := ⟨_, List.getElem?_eq_getElem (by omega)⟩
        refine ⟨x, (l.take (j - 1)).reverse, ?_, h2 x (by omega) hx⟩
        have : l.take j = l.take (j - 1) ++ [x] := by
          conv => lhs; rw [show j = (j - 1) + 1 by omega, List.take_add_one, hx]
          rfl
        rw [this, List.reverse_append]; rfl
    rw [List.takeWhile_append_of_pos ha, List.dropWhile_append_of_pos ha]
    rcases hb with e | ⟨x, B, e, hx⟩
    · rw [e]; simp
    · rw [e, List.takeWhile_cons, List.dropWhile_cons, hx]; simp
  unfold insR
  rw [ht.1, ht.2, List.reverse_reverse, List.reverse_reverse]
theorem fold_insR : ∀ (m acc : List Plc), Rising ltP acc → Rising ltP (m.foldl (insR ltP) acc) ∧ (m.foldl (insR ltP) acc).Perm (acc ++ m)
  | [], acc, h => ⟨h, by simp⟩
  | p :: m, acc, h => by
    obtain ⟨h1, h2⟩ := fold_insR m (insR ltP acc p) (insR_rising sto_P h p)
    refine ⟨h1, h2.trans ?_⟩
    refine ((insR_perm ltP acc p).append_right m).trans ?_
    rw [List.append_assoc]; rfl
theorem merged {c : Nat} {N : List Tx} {s : Tx} : mergeL ltP (placesOf c N) ((news c s).foldl (insR ltP) []) = placesOf c (insT N s) := by
  obtain ⟨h1, h2⟩ := fold_insR (news c s) [] List.Pairwise.nil
  rw [← placesOf_ins]
  refine sortL_eq sto_P ((mergeL_perm _ _).trans ((List.Perm.append_left _ h2).trans ?_)) (mergeL_rising sto_P (placesOf_rising c N) h1)
  simp
end Go.Tum

/- A relay in plain Lean: stations, dealing, taking. No program here. -/
namespace Go.Tum
/-- Path, value (high, low), time. -/
abbrev Rcd := Tx × Int × Int × Int
structure Stn where
  L : List Rcd
  sent : Nat
  dropped : Nat
def stn0 : Stn := ⟨[], 0, 0⟩
/-- What has no room is dropped, or the oldest. -/
def deal (H : Nat) (nw : Bool) (x : Rcd) (s : Stn) : Stn :=
  if s.L.length < H then ⟨s.L ++ [x], s.sent, s.dropped⟩ else if nw then ⟨s.L, s.sent, s.dropped + 1⟩ else ⟨s.L.drop 1 ++ [x], s.sent, s.dropped + 1⟩
theorem deal_len {H : Nat} {nw : Bool} {x : Rcd} {s : Stn} (h0 : 1 ≤ H) (h : s.L.length ≤ H) : (deal H nw x s).L.length ≤ H := by
  unfold deal
  split
  · simp; omega
  · split
    · exact h
    · simp; omega
/-- The names that a record goes to, of those in line. -/
def wants (dn : List Tx) (R : Nat) (l : List Tx) : List Tx := (l.filter fun s => !decide (s ∈ dn)).take R
theorem wants_le (dn : List Tx) (R : Nat) (l : List Tx) : (wants dn R l).length ≤ R := by unfold wants; rw [List.length_take]; omega
theorem wants_snoc (dn : List Tx) (R : Nat) (l : List Tx) (s : Tx) : wants dn R (l ++ [s]) = if s ∈ dn ∨ (wants dn R l).length = R then wants dn R l else wants dn R l ++ [s] := by
  unfold wants
  rw [List.filter_append, List.filter_cons, List.filter_nil]
  by_cases h : s ∈ dn
  · rw [if_pos (Or.inl h)]
    simp [h]
  · simp only [h, decide_false, Bool.not_false, if_true, false_or]
    by_cases h2 : R ≤ (l.filter fun s => !decide (s ∈ dn)).length
    · rw [if_pos (by rw [List.length_take]; omega), List.take_append_of_le_length h2]
    · rw [if_neg (by rw [List.length_take]; omega), List.take_of_length_le (by simp; omega), List.take_of_length_le (by omega)]
theorem wants_mem {dn : List Tx} {R : Nat} {l : List Tx} {s : Tx} (h : s ∈ wants dn R l) : s ∈ l ∧ s ∉ dn := by
  have h1 := List.mem_filter.1 (List.mem_of_mem_take h)
  exact ⟨h1.1, by simpa using h1.2⟩
theorem wants_all (R : Nat) (l : List Tx) (h : l.length ≤ R) : wants [] R l = l := by
  unfold wants
  rw [List.filter_eq_self.2 fun s _ => by simp, List.take_of_length_le h]
/-- A record dealt at each of some names. -/
def dealAll (H : Nat) (nw : Bool) (N : List Tx) (x : Rcd) (l : List Tx) (S : List Stn) : List Stn := l.foldl (fun S s => S.modify (posT N s) (deal H nw x)) S
theorem dealAll_snoc (H : Nat) (nw : Bool) (N : List Tx) (x : Rcd) (l : List Tx) (s : Tx) (S : List Stn) : dealAll H nw N x (l ++ [s]) S = (dealAll H nw N x l S).modify (posT N s) (deal H nw x) := by
  unfold dealAll; rw [List.foldl_append]; rfl
theorem dealAll_len (H : Nat) (nw : Bool) (N : List Tx) (x : Rcd) : ∀ (l : List Tx) (S : List Stn), (dealAll H nw N x l S).length = S.length
  | [], _ => rfl
  | s :: l, S => by
    have h := dealAll_len H nw N x l (S.modify (posT N s) (deal H nw x))
    rw [List.length_modify] at h
    exact h
theorem dealAll_get (H : Nat) (nw : Bool) {N : List Tx} (x : Rcd) : ∀ (l : List Tx) (S : List Stn), l.Nodup → (∀ a ∈ l, ∀ b ∈ l, posT N a = posT N b → a = b) → ∀ i, (dealAll H nw N x l S)[i]? = if ∃ s ∈ l, posT N s = i then (S[i]?).map (deal H nw x) else S[i]?
  | [], S, _, _, i => by simp [dealAll]
  | s :: l, S, hn, hp, i => by
    rw [List.nodup_cons] at hn
    have ih := dealAll_get H nw x l (S.modify (posT N s) (deal H nw x)) hn.2 (fun a ha b hb => hp a (List.mem_cons_of_mem _ ha) b (List.mem_cons_of_mem _ hb)) i
    rw [show dealAll H nw N x (s :: l) S = dealAll H nw N x l (S.modify (posT N s) (deal H nw x)) from rfl, ih, List.getElem?_modify]
    by_cases h1 : posT N s = i
    · have h2 : ¬ ∃ t ∈ l, posT N t = i := fun ⟨t, ht, e⟩ => hn.1 (by rw [hp s (by simp) t (List.mem_cons_of_mem _ ht) (by rw [h1, e])]; exact ht)
      rw [if_neg h2, if_pos ⟨s, by simp, h1⟩]
      simp [h1]
    · have h3 : (∃ t ∈ s :: l, posT N t = i) ↔ ∃ t ∈ l, posT N t = i := by
        constructor
        · rintro ⟨t, ht, e⟩
          rcases List.mem_cons.1 ht with rfl | ht
          · exact absurd e h1
          · exact ⟨t, ht, e⟩
        · rintro ⟨t, ht, e⟩
          exact ⟨t, List.mem_cons_of_mem _ ht, e⟩
      simp only [h3, if_neg h1, id_map']
theorem pos_at {N : List Tx} (hN : Strict ltT N) {i : Nat} {s : Tx} (h : N[i]? = some s) : posT N s = i := by
  obtain ⟨hi, e⟩ := List.getElem?_eq_some_iff.1 h
  refine tw_len (by omega) (fun y hy => ?_) (.inr ⟨s, h, sto_T.irrefl s⟩)
  obtain ⟨k, hk, hy⟩ := mem_take_idx hy
  obtain ⟨hkl, rfl⟩ := List.getElem?_eq_some_iff.1 hy
  have := List.pairwise_iff_getElem.1 hN k i hkl hi hk
  rwa [e] at this
theorem pos_of {N : List Tx} (hN : Strict ltT N) {s : Tx} (h : s ∈ N) : N[posT N s]? = some s := by
  obtain ⟨i, hi, e⟩ := List.getElem_of_mem h
  have h1 : N[i]? = some s := by rw [List.getElem?_eq_getElem hi, e]
  rw [pos_at hN h1, h1]
theorem pos_inj {N : List Tx} (hN : Strict ltT N) {a b : Tx} (ha : a ∈ N) (hb : b ∈ N) (h : posT N a = posT N b) : a = b := by
  have h1 := pos_of hN ha
  have h2 := pos_of hN hb
  rw [h, h2] at h1
  injection h1 with h1
  exact h1.symm
/-- Dealt to all. -/
theorem dealAll_all (H : Nat) (nw : Bool) {N : List Tx} (hN : Strict ltT N) (x : Rcd) {l : List Tx} (hl : l.Perm N) {S : List Stn} (hS : S.length = N.length) : dealAll H nw N x l S = S.map (deal H nw x) := by
  apply List.ext_getElem?
  intro i
  rw [dealAll_get H nw x l S (hl.nodup_iff.2 (hN.nodup sto_T)) (fun a ha b hb => pos_inj hN (hl.mem_iff.1 ha) (hl.mem_iff.1 hb)) i, List.getElem?_map]
  rcases Nat.lt_or_ge i N.length with h | h
  · rw [if_pos ⟨N[i], hl.mem_iff.2 (List.getElem_mem h), pos_at hN (List.getElem?_eq_getElem h)⟩]
  · rw [List.getElem?_eq_none (by omega)]
    simp
/-- What is taken, and what is left. -/
def takeS (n : Nat) (s : Stn) : List Rcd × Stn := (s.L.take n, ⟨s.L.drop n, s.sent + (s.L.take n).length, s.dropped⟩)
/-- What is down: a name is there once. -/
def awayF (dn : List Tx) : Tx → Option Int := fun k => if k ∈ dn then some 1 else none
end Go.Tum

/- A relay in plain Lean: what one destination holds that has taken nothing. No program here. -/
namespace Go.Tum
/-- What has been dealt to one station that took nothing. -/
def dealt (H : Nat) (nw : Bool) (l : List Rcd) : Stn := ⟨if nw then l.take H else l.drop (l.length - H), 0, l.length - H⟩
theorem dealt_nil (H : Nat) (nw : Bool) : dealt H nw [] = stn0 := by unfold dealt stn0; simp
theorem dealt_len (H : Nat) (nw : Bool) (l : List Rcd) : (dealt H nw l).L.length = min H l.length := by
  unfold dealt
  cases nw
  · simp; omega
  · simp
theorem dealt_snoc {H : Nat} (h1 : 1 ≤ H) (nw : Bool) (l : List Rcd) (x : Rcd) : deal H nw x (dealt H nw l) = dealt H nw (l ++ [x]) := by
  have hl := dealt_len H nw l
  unfold deal
  rw [hl]
  have e1 : (l ++ [x]).length = l.length + 1 := by simp
  by_cases h : l.length < H
  · rw [if_pos (by omega)]
    unfold dealt
    cases nw
    · simp only [Bool.false_eq_true, if_false, e1]
      rw [show l.length - H = 0 by omega, show l.length + 1 - H = 0 by omega, List.drop_zero, List.drop_zero]
    · simp only [if_true, e1]
      rw [List.take_of_length_le (by omega), List.take_of_length_le (by omega), show l.length - H = 0 by omega, show l.length + 1 - H = 0 by omega]
  · rw [if_neg (by omega)]
    unfold dealt
    cases nw
    · simp only [Bool.false_eq_true, if_false, e1]
      rw [List.drop_drop, show l.length - H + 1 = l.length + 1 - H by omega, List.drop_append_of_le_length (by omega)]
    · simp only [if_true, e1]
      rw [List.take_append_of_le_length (by omega), show l.length - H + 1 = l.length + 1 - H by omega]
end Go.Tum
