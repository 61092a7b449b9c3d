/- Binary heaps over functions of places: what container/heap's up and down do; no program here. -/
namespace Go.Tum
section
variable {α : Type}
def sw (d : Nat → α) (i j : Nat) : Nat → α := fun k => if k = i then d j else if k = j then d i else d k
/-- e holds what d holds, places below n shuffled -/
def Shuf (n : Nat) (d e : Nat → α) : Prop := ∃ π ρ : Nat → Nat, (∀ k, k < n → π k < n ∧ ρ k < n) ∧ (∀ k, ρ (π k) = k ∧ π (ρ k) = k) ∧ (∀ k, n ≤ k → π k = k) ∧ ∀ k, e k = d (π k)
theorem Shuf.refl (n : Nat) (d : Nat → α) : Shuf n d d := ⟨id, id, fun _ h => ⟨h, h⟩, fun _ => ⟨rfl, rfl⟩, fun _ _ => rfl, fun _ => rfl⟩
theorem Shuf.trans {n : Nat} {a b c : Nat → α} (h : Shuf n a b) (k : Shuf n b c) : Shuf n a c := by
  obtain ⟨p, q, h1, h2, h3, h4⟩ := h
  obtain ⟨r, s, k1, k2, k3, k4⟩ := k
  exact ⟨fun x => p (r x), fun x => s (q x), fun x hx => ⟨(h1 _ (k1 x hx).1).1, (k1 _ (h1 x hx).2).2⟩, fun x => ⟨by dsimp only; rw [(h2 (r x)).1, (k2 x).1], by dsimp only; rw [(k2 (q x)).2, (h2 x).2]⟩, fun x hx => by dsimp only; rw [k3 x hx, h3 x hx], fun x => by dsimp only; rw [k4, h4]⟩
theorem Shuf.sw (n : Nat) (d : Nat → α) {i j : Nat} (hi : i < n) (hj : j < n) : Shuf n d (sw d i j) := by
  refine ⟨fun k => if k = i then j else if k = j then i else k, fun k => if k = i then j else if k = j then i else k, fun k hk => ?_, fun k => ?_, fun k hk => ?_, fun k => ?_⟩
  · dsimp only; split <;> (try split) <;> omega
  · dsimp only; constructor <;> (repeat' split) <;> omega
  · dsimp only; rw [if_neg (by omega), if_neg (by omega)]
  · unfold Tum.sw; dsimp only; split <;> (try split) <;> rfl
theorem Shuf.mem {n : Nat} {d e : Nat → α} (h : Shuf n d e) (x : α) : (∃ k, k < n ∧ e k = x) ↔ ∃ k, k < n ∧ d k = x := by
  obtain ⟨p, q, h1, h2, h3, h4⟩ := h
  constructor
  · rintro ⟨k, hk, rfl⟩
    exact ⟨p k, (h1 k hk).1, (h4 k).symm⟩
  · rintro ⟨k, hk, rfl⟩
    exact ⟨q k, (h1 k hk).2, by rw [h4, (h2 k).2]⟩
theorem Shuf.inj {β : Type} {n : Nat} {d e : Nat → α} (h : Shuf n d e) (key : α → β) (hd : ∀ i j, i < n → j < n → key (d i) = key (d j) → i = j) : ∀ i j, i < n → j < n → key (e i) = key (e j) → i = j := by
  obtain ⟨p, q, h1, h2, h3, h4⟩ := h
  intro i j hi hj he
  rw [h4, h4] at he
  have := hd _ _ (h1 i hi).1 (h1 j hj).1 he
  rw [← (h2 i).1, ← (h2 j).1, this]
/-- An order in which the heaps stand. -/
structure Ord (lt : α → α → Bool) : Prop where
  trans : ∀ a b c, lt a b = true → lt b c = true → lt a c = true
  not : ∀ a b c, lt b a = false → lt c b = false → lt c a = false
  asym : ∀ a b, lt a b = true → lt b a = false
def par (k : Nat) : Nat := (k - 1) / 2
theorem par_lt {k : Nat} (h : 0 < k) : par k < k := by unfold par; omega
theorem par_zero : par 0 = 0 := rfl
def IsHeap (lt : α → α → Bool) (d : Nat → α) (n : Nat) : Prop := ∀ k, 0 < k → k < n → lt (d k) (d (par k)) = false
/-- A heap but for what stands at j, which may be too small for its place. -/
structure UpTo (lt : α → α → Bool) (d : Nat → α) (n j : Nat) : Prop where
  rest : ∀ k, 0 < k → k < n → k ≠ j → lt (d k) (d (par k)) = false
  kids : ∀ k, 0 < k → k < n → par k = j → 0 < j → lt (d k) (d (par j)) = false
def up (lt : α → α → Bool) : Nat → (Nat → α) → Nat → (Nat → α)
  | 0, d, _ => d
  | f + 1, d, j => if par j = j ∨ lt (d j) (d (par j)) = false then d else up lt f (sw d (par j) j) (par j)
theorem up_heap {lt : α → α → Bool} (ho : Ord lt) (n : Nat) : ∀ (f : Nat) (d : Nat → α) (j : Nat), j ≤ f → j < n → UpTo lt d n j → IsHeap lt (up lt (f + 1) d j) n ∧ Shuf n d (up lt (f + 1) d j) := by
  intro f
  induction f with
  | zero =>
    intro d j hj hn h
    obtain rfl : j = 0 := by omega
    unfold up
    rw [if_pos (.inl rfl)]
    exact ⟨fun k h1 h2 => h.rest k h1 h2 (by omega), Shuf.refl _ _⟩
  | succ f ih =>
    intro d j hj hn h
    unfold up
    by_cases hs : par j = j ∨ lt (d j) (d (par j)) = false
    · rw [if_pos hs]
      refine ⟨fun k h1 h2 => ?_, Shuf.refl _ _⟩
      by_cases e : k = j
      · subst e
        rcases hs with e | e
        · have := par_lt h1; omega
        · exact e
      · exact h.rest k h1 h2 e
    · rw [if_neg hs]
      have hj0 : 0 < j := by
        rcases Nat.eq_zero_or_pos j with e | e
        · exact absurd (.inl (by rw [e]; rfl)) hs
        · exact e
      have hlt : lt (d j) (d (par j)) = true := by
        cases hl : lt (d j) (d (par j)) with
        | true => rfl
        | false => exact absurd (.inr hl) hs
      have hp := par_lt hj0
      have hsw : ∀ k, sw d (par j) j k = if k = par j then d j else if k = j then d (par j) else d k := fun k => rfl
      have hr := ih (sw d (par j) j) (par j) (by omega) (by omega) ⟨fun k h1 h2 h3 => ?_, fun k h1 h2 h3 h4 => ?_⟩
      · exact ⟨hr.1, (Shuf.sw n d (by omega) hn).trans hr.2⟩
      · have hpk := par_lt h1
        rw [hsw, hsw, if_neg h3]
        by_cases e : k = j
        · subst e
          rw [if_pos rfl, if_pos rfl]
          exact ho.asym _ _ hlt
        · rw [if_neg e]
          by_cases e1 : par k = par j
          · rw [if_pos e1]
            have h5 := h.rest k h1 h2 e
            rw [e1] at h5
            cases hc : lt (d k) (d j) with
            | false => rfl
            | true => rw [ho.trans _ _ _ hc hlt] at h5; cases h5
          · rw [if_neg e1]
            by_cases e2 : par k = j
            · rw [if_pos e2]
              exact h.kids k h1 h2 e2 hj0
            · rw [if_neg e2]
              exact h.rest k h1 h2 e
      · have hpk := par_lt h1
        have hpp := par_lt h4
        rw [hsw, hsw, if_neg (show ¬ par (par j) = par j by omega), if_neg (show ¬ par (par j) = j by omega), if_neg (show ¬ k = par j by omega)]
        have h5 := h.rest (par j) h4 (by omega) (by omega)
        by_cases e : k = j
        · rw [if_pos e]
          exact h5
        · rw [if_neg e]
          have h6 := h.rest k h1 h2 e
          rw [h3] at h6
          exact ho.not _ _ _ h5 h6
/-- A heap but for what stands at i, which may be too great for its place, and for t's standing below its parent. -/
structure DownTo (lt : α → α → Bool) (d : Nat → α) (n t i : Nat) : Prop where
  rest : ∀ k, 0 < k → k < n → par k ≠ i → k ≠ t → lt (d k) (d (par k)) = false
  kids : ∀ k, 0 < k → k < n → par k = i → i ≠ t → lt (d k) (d (par i)) = false
/-- the smaller child -/
def kid (lt : α → α → Bool) (d : Nat → α) (n i : Nat) : Nat := if 2 * i + 2 < n ∧ lt (d (2 * i + 2)) (d (2 * i + 1)) = true then 2 * i + 2 else 2 * i + 1
def down (lt : α → α → Bool) : Nat → (Nat → α) → Nat → Nat → (Nat → α) × Nat
  | 0, d, _, i => (d, i)
  | f + 1, d, n, i => if n ≤ 2 * i + 1 ∨ lt (d (kid lt d n i)) (d i) = false then (d, i) else down lt f (sw d i (kid lt d n i)) n (kid lt d n i)
theorem par_kid (k i : Nat) (h : 0 < k) : par k = i ↔ k = 2 * i + 1 ∨ k = 2 * i + 2 := by unfold par; omega
theorem kid_of {lt : α → α → Bool} (ho : Ord lt) (d : Nat → α) {n i : Nat} (h : 2 * i + 1 < n) : i < kid lt d n i ∧ kid lt d n i < n ∧ par (kid lt d n i) = i ∧ ∀ k, 0 < k → k < n → par k = i → lt (d k) (d (kid lt d n i)) = false := by
  have hself : ∀ a, lt a a = false := fun a => by
    cases hc : lt a a with
    | false => rfl
    | true => rw [ho.asym a a hc] at hc; cases hc
  unfold kid
  split
  · rename_i hc
    refine ⟨by omega, hc.1, by unfold par; omega, fun k h1 h2 h3 => ?_⟩
    rcases (par_kid k i h1).1 h3 with rfl | rfl
    · exact ho.asym _ _ hc.2
    · exact hself _
  · rename_i hc
    refine ⟨by omega, h, by unfold par; omega, fun k h1 h2 h3 => ?_⟩
    rcases (par_kid k i h1).1 h3 with rfl | rfl
    · exact hself _
    · cases hl : lt (d (2 * i + 2)) (d (2 * i + 1)) with
      | false => rfl
      | true => exact absurd ⟨h2, hl⟩ hc
/-- What down leaves: a heap but for t's standing below its parent. -/
theorem down_heap {lt : α → α → Bool} (ho : Ord lt) (n t : Nat) : ∀ (f : Nat) (d : Nat → α) (i : Nat), n ≤ i + f → i < n → t ≤ i → DownTo lt d n t i →
    (∀ k, 0 < k → k < n → k ≠ t → lt ((down lt (f + 1) d n i).1 k) ((down lt (f + 1) d n i).1 (par k)) = false) ∧ Shuf n d (down lt (f + 1) d n i).1 ∧ i ≤ (down lt (f + 1) d n i).2 ∧ (down lt (f + 1) d n i).2 < n ∧
    (∀ k, k < i → (down lt (f + 1) d n i).1 k = d k) ∧ ((down lt (f + 1) d n i).2 = i → (down lt (f + 1) d n i).1 = d) ∧ (i < (down lt (f + 1) d n i).2 → (down lt (f + 1) d n i).1 i = d (kid lt d n i) ∧ 2 * i + 1 < n) := by
  intro f
  induction f with
  | zero => intro d i h1 h2; omega
  | succ f ih =>
    intro d i h1 h2 ht h
    unfold down
    by_cases hs : n ≤ 2 * i + 1 ∨ lt (d (kid lt d n i)) (d i) = false
    · rw [if_pos hs]
      refine ⟨fun k k1 k2 k3 => ?_, Shuf.refl _ _, Nat.le_refl _, h2, fun _ _ => rfl, fun _ => rfl, fun e => absurd e (Nat.lt_irrefl _)⟩
      by_cases e : par k = i
      · rcases hs with hs | hs
        · rcases (par_kid k i k1).1 e with e1 | e1 <;> omega
        · have hlt : 2 * i + 1 < n := by rcases (par_kid k i k1).1 e with e1 | e1 <;> omega
          have h3 := (kid_of ho d hlt).2.2.2 k k1 k2 e
          rw [e]
          exact ho.not _ _ _ hs h3
      · exact h.rest k k1 k2 e k3
    · rw [if_neg hs]
      have hlt : 2 * i + 1 < n := by
        rcases Nat.lt_or_ge (2 * i + 1) n with e | e
        · exact e
        · exact absurd (.inl e) hs
      have hl : lt (d (kid lt d n i)) (d i) = true := by
        cases hl : lt (d (kid lt d n i)) (d i) with
        | true => rfl
        | false => exact absurd (.inr hl) hs
      obtain ⟨c1, c2, c3, c4⟩ := kid_of ho d hlt
      generalize kid lt d n i = c at hl c1 c2 c3 c4 ⊢
      have hsw : ∀ k, sw d i c k = if k = i then d c else if k = c then d i else d k := fun k => rfl
      have hr := ih (sw d i c) c (by omega) c2 (by omega) ⟨fun k k1 k2 k3 k4 => ?_, fun k k1 k2 k3 k4 => ?_⟩
      · obtain ⟨r1, r2, r3, r4, r5, r6, r7⟩ := hr
        refine ⟨r1, (Shuf.sw n d h2 c2).trans r2, by omega, r4, fun k hk => ?_, fun e => by omega, fun _ => ⟨?_, hlt⟩⟩
        · rw [r5 k (by omega), hsw, if_neg (by omega), if_neg (by omega)]
        · rw [r5 i c1, hsw, if_pos rfl]
      · have hpk := par_lt k1
        rw [hsw, hsw]
        by_cases e : k = c
        · subst e
          rw [if_neg (by omega), if_pos rfl, if_pos c3]
          exact ho.asym _ _ hl
        · by_cases e1 : par k = i
          · rw [if_neg (by omega), if_neg e, if_pos e1]
            exact c4 k k1 k2 e1
          · rw [if_neg e1, if_neg k3]
            by_cases e2 : k = i
            · subst e2
              rw [if_pos rfl]
              exact h.kids c (by omega) c2 c3 k4
            · rw [if_neg e2, if_neg e]
              exact h.rest k k1 k2 e1 k4
      · have hpk := par_lt k1
        rw [hsw, hsw, if_neg (by omega), if_neg (by omega), if_pos c3]
        have := h.rest k k1 k2 (by omega) (by omega)
        rw [k3] at this
        exact this
theorem heap_min {lt : α → α → Bool} (ho : Ord lt) {d : Nat → α} {n : Nat} (h : IsHeap lt d n) : ∀ m k, k ≤ m → k < n → lt (d k) (d 0) = false := by
  have hself : ∀ a, lt a a = false := fun a => by
    cases hc : lt a a with
    | false => rfl
    | true => rw [ho.asym a a hc] at hc; cases hc
  intro m
  induction m with
  | zero =>
    intro k hk hn
    have e : k = 0 := by omega
    rw [e]
    exact hself _
  | succ m ih =>
    intro k hk hn
    rcases Nat.eq_zero_or_pos k with e | e
    · subst e; exact hself _
    · have hp := par_lt e
      exact ho.not _ _ _ (ih (par k) (by omega) (by omega)) (h k e hn)
/-- one more -/
def pushed (lt : α → α → Bool) (d : Nat → α) (n : Nat) (x : α) : Nat → α := up lt (n + 1) (fun k => if k = n then x else d k) n
theorem pushed_heap {lt : α → α → Bool} (ho : Ord lt) {d : Nat → α} {n : Nat} (h : IsHeap lt d n) (x : α) : IsHeap lt (pushed lt d n x) (n + 1) ∧ Shuf (n + 1) (fun k => if k = n then x else d k) (pushed lt d n x) := by
  refine up_heap ho (n + 1) n _ n (Nat.le_refl _) (Nat.lt_succ_self _) ⟨fun k h1 h2 h3 => ?_, fun k h1 h2 h3 h4 => ?_⟩
  · have hp := par_lt h1
    rw [if_neg h3, if_neg (by omega)]
    exact h k h1 (by omega)
  · have hp := par_lt h1
    omega
/-- the first taken away: it stands at n then -/
def popped (lt : α → α → Bool) (d : Nat → α) (n : Nat) : Nat → α := (down lt (n + 1) (sw d 0 n) n 0).1
theorem popped_heap {lt : α → α → Bool} (ho : Ord lt) {d : Nat → α} {n : Nat} (h : IsHeap lt d (n + 1)) : IsHeap lt (popped lt d n) n ∧ Shuf n (sw d 0 n) (popped lt d n) ∧ popped lt d n n = d 0 := by
  have hlast : sw d 0 n n = d 0 := by
    unfold sw
    split
    · rename_i e; rw [e]
    · rw [if_pos rfl]
  rcases Nat.eq_zero_or_pos n with e | e
  · subst e
    refine ⟨fun k h1 h2 => by omega, ?_, ?_⟩
    · unfold popped down; rw [if_pos (.inl (by omega))]; exact Shuf.refl _ _
    · unfold popped down; rw [if_pos (.inl (by omega))]; exact hlast
  · have hd := down_heap ho n 0 n (sw d 0 n) 0 (by omega) e (Nat.le_refl _) ⟨fun k h1 h2 h3 h4 => by
      have hp := par_lt h1
      unfold sw
      rw [if_neg (by omega), if_neg (by omega), if_neg h3, if_neg (by omega)]
      exact h k h1 (by omega), fun k h1 h2 h3 h4 => absurd rfl h4⟩
    obtain ⟨r1, r2, _⟩ := hd
    refine ⟨fun k h1 h2 => r1 k h1 h2 (by omega), r2, ?_⟩
    obtain ⟨p, q, _, _, h3, h4⟩ := r2
    exact (h4 n).trans (by rw [h3 n (Nat.le_refl _)]; exact hlast)
/-- what stands at i set right -/
def fixed (lt : α → α → Bool) (d : Nat → α) (n i : Nat) : Nat → α := if i < (down lt (n + 1) d n i).2 then (down lt (n + 1) d n i).1 else up lt (i + 1) (down lt (n + 1) d n i).1 i
theorem fixed_heap' {lt : α → α → Bool} (ho : Ord lt) {d : Nat → α} {n i : Nat} (hi : i < n) (h : IsHeap lt d n) (d' : Nat → α) (hne' : ∀ k, k < n → k ≠ i → d' k = d k) :
    IsHeap lt (fixed lt d' n i) n ∧ Shuf n d' (fixed lt d' n i) := by
  obtain ⟨r1, r2, r3, r4, r5, r6, r7⟩ := down_heap ho n i n d' i (by omega) hi (Nat.le_refl _) ⟨fun k h1 h2 h3 h4 => by have hp := par_lt h1; rw [hne' k h2 h4, hne' _ (by omega) h3]; exact h k h1 h2, fun k h1 h2 h3 h4 => absurd rfl h4⟩
  unfold fixed
  by_cases hm : i < (down lt (n + 1) d' n i).2
  · rw [if_pos hm]
    refine ⟨fun k h1 h2 => ?_, r2⟩
    by_cases e : k = i
    · subst e
      obtain ⟨e1, e2⟩ := r7 hm
      obtain ⟨c1, c2, c3, _⟩ := kid_of ho d' e2
      have hp := par_lt h1
      rw [e1, r5 _ hp, hne' _ c2 (by omega), hne' _ (by omega) (by omega)]
      have h3 := h (kid lt d' n k) (by omega) c2
      rw [c3] at h3
      exact ho.not _ _ _ (h k h1 h2) h3
    · exact r1 k h1 h2 e
  · rw [if_neg hm]
    have he := r6 (by omega)
    rw [he] at r1 ⊢
    exact up_heap ho n i d' i (Nat.le_refl _) hi ⟨r1, fun k h1 h2 h3 h4 => by
      have hp := par_lt h1
      have hp2 := par_lt h4
      rw [hne' k h2 (by omega), hne' _ (by omega) (by omega)]
      have h5 := h k h1 h2
      rw [h3] at h5
      exact ho.not _ _ _ (h i h4 hi) h5⟩
theorem fixed_heap {lt : α → α → Bool} (ho : Ord lt) {d : Nat → α} {n i : Nat} (hi : i < n) (h : IsHeap lt d n) (x : α) :
    IsHeap lt (fixed lt (fun k => if k = i then x else d k) n i) n ∧ Shuf n (fun k => if k = i then x else d k) (fixed lt (fun k => if k = i then x else d k) n i) :=
  fixed_heap' ho hi h _ fun _ _ hk => if_neg hk
/-- what stands at i taken away: it stands at n then -/
def removed (lt : α → α → Bool) (d : Nat → α) (n i : Nat) : Nat → α := if n = i then d else fixed lt (sw d i n) n i
theorem removed_heap {lt : α → α → Bool} (ho : Ord lt) {d : Nat → α} {n i : Nat} (hi : i ≤ n) (h : IsHeap lt d (n + 1)) : IsHeap lt (removed lt d n i) n ∧ Shuf n (sw d i n) (removed lt d n i) := by
  unfold removed
  by_cases e : n = i
  · rw [if_pos e]
    refine ⟨fun k h1 h2 => h k h1 (by omega), ?_⟩
    subst e
    have e2 : sw d n n = d := funext fun k => by unfold sw; by_cases e : k = n; (· rw [if_pos e, e]); (· rw [if_neg e, if_neg e])
    rw [e2]
    exact Shuf.refl _ _
  · rw [if_neg e]
    exact fixed_heap' ho (by omega) (d := d) (fun k h1 h2 => h k h1 (by omega)) _ fun k h1 h2 => by unfold sw; rw [if_neg h2, if_neg (by omega)]
end
end Go.Tum
