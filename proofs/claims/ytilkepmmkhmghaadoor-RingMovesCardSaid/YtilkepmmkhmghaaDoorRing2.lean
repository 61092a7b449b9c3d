/- Searches in sorted lists, in plain Lean. No program here. -/
import Derived.Test.YtilkepmmkhmghaaDoorRing
namespace Go.Tum
open Go.Lib
theorem tw_at {α : Type} {p : α → Bool} {L : List α} {i : Nat} (h : ∀ y ∈ L.take i, p y = true) (hs : L.length ≤ i ∨ ∃ x, L[i]? = some x ∧ p x = false) : L.takeWhile p = L.take i ∧ L.dropWhile p = L.drop i := by
  induction L generalizing i with
  | nil => simp
  | cons y L ih =>
    cases i with
    | zero =>
      rcases hs with hs | ⟨x, hx, hp⟩
      · simp at hs
      · simp only [List.getElem?_cons_zero, Option.some.injEq] at hx
        subst hx
        simp [hp]
    | succ i =>
      have h1 : p y = true := h y (by simp)
      obtain ⟨a, b⟩ := ih (i := i) (fun z hz => h z (by simp [hz])) (by
        rcases hs with hs | ⟨x, hx, hp⟩
        · exact .inl (by simpa using hs)
        · exact .inr ⟨x, by simpa using hx, hp⟩)
      simp [h1, a, b]
theorem tw_len {α : Type} {p : α → Bool} {L : List α} {i : Nat} (hi : i ≤ L.length) (h : ∀ y ∈ L.take i, p y = true) (hs : L.length ≤ i ∨ ∃ x, L[i]? = some x ∧ p x = false) : (L.takeWhile p).length = i := by
  rw [(tw_at h hs).1, List.length_take, Nat.min_eq_left hi]
theorem mem_take_idx {α : Type} {L : List α} {i : Nat} {y : α} (h : y ∈ L.take i) : ∃ k, k < i ∧ L[k]? = some y := by
  rw [List.mem_take_iff_getElem] at h
  obtain ⟨k, hk, rfl⟩ := h
  exact ⟨k, by omega, List.getElem?_eq_getElem (by omega)⟩
theorem mem_drop_idx {α : Type} {L : List α} {i : Nat} {y : α} (h : y ∈ L.drop i) : ∃ k, i ≤ k ∧ L[k]? = some y := by
  obtain ⟨k, hk, e⟩ := List.getElem_of_mem h
  rw [List.getElem_drop] at e
  exact ⟨i + k, by omega, by rw [List.length_drop] at hk; rw [List.getElem?_eq_getElem (by omega), e]⟩
/-- A list along which p turns from true to false once. -/
abbrev Down {α : Type} (p : α → Bool) (L : List α) : Prop := L.Pairwise fun x y => p y = true → p x = true
theorem down_at {α : Type} {p : α → Bool} {L : List α} (h : Down p L) {i j : Nat} {x y : α} (hij : i ≤ j) (hx : L[i]? = some x) (hy : L[j]? = some y) (hp : p y = true) : p x = true := by
  rcases Nat.eq_or_lt_of_le hij with e | e
  · subst e; rw [hx] at hy; injection hy with hy; rw [hy]; exact hp
  · obtain ⟨h1, e1⟩ := List.getElem?_eq_some_iff.1 hx
    obtain ⟨h2, e2⟩ := List.getElem?_eq_some_iff.1 hy
    have := List.pairwise_iff_getElem.1 h i j h1 h2 e
    rw [e1, e2] at this
    exact this hp
theorem down_left {α : Type} {p : α → Bool} {L : List α} (h : Down p L) {m : Nat} {x : α} (hx : L[m]? = some x) (hp : p x = true) : ∀ y ∈ L.take (m + 1), p y = true := fun y hy => by
  obtain ⟨k, hk, hy⟩ := mem_take_idx hy
  exact down_at h (by omega) hy hx hp
theorem down_right {α : Type} {p : α → Bool} {L : List α} (h : Down p L) {m : Nat} {x : α} (hx : L[m]? = some x) (hp : p x = false) : ∀ y ∈ L.drop m, p y = false := fun y hy => by
  obtain ⟨k, hk, hy⟩ := mem_drop_idx hy
  cases hq : p y with
  | false => rfl
  | true => have := down_at h hk hx hy hq; rw [hp] at this; cases this
theorem down_len {α : Type} {p : α → Bool} {L : List α} {i : Nat} (hi : i ≤ L.length) (h1 : ∀ y ∈ L.take i, p y = true) (h2 : ∀ y ∈ L.drop i, p y = false) : (L.takeWhile p).length = i := by
  refine tw_len hi h1 ?_
  rcases Nat.lt_or_ge i L.length with h | h
  · exact .inr ⟨L[i], List.getElem?_eq_getElem h, h2 _ (by rw [List.mem_drop_iff_getElem]; exact ⟨0, by simpa using h, by simp⟩)⟩
  · exact .inl h
/-- Strictly rising. -/
abbrev Strict {α : Type} (lt : α → α → Bool) (L : List α) : Prop := L.Pairwise fun x y => lt x y = true
theorem Strict.down {α : Type} {lt : α → α → Bool} (o : STO lt) {L : List α} (h : Strict lt L) (t : α) : Down (lt · t) L := h.imp fun k hb => o.trans _ _ _ k hb
theorem Strict.rising {α : Type} {lt : α → α → Bool} (o : STO lt) {L : List α} (h : Strict lt L) : Rising lt L := h.imp fun k => o.asym k
theorem Strict.nodup {α : Type} {lt : α → α → Bool} (o : STO lt) {L : List α} (h : Strict lt L) : L.Nodup := h.imp fun k e => by subst e; rw [o.irrefl] at k; cases k
def posT (N : List Tx) (t : Tx) : Nat := (N.takeWhile (ltT · t)).length
theorem posT_le (N : List Tx) (t : Tx) : posT N t ≤ N.length := (List.takeWhile_prefix _).length_le
/-- Where a text that is there stands. -/
theorem pos_found {N : List Tx} (hN : Strict ltT N) {i : Nat} {t : Tx} (h1 : ∀ y ∈ N.take i, ltT y t = true) : (∃ x, N[i]? = some x ∧ x = t) ↔ (t ∈ N ∧ ∀ y ∈ N.drop i, ltT y t = false) := by
  constructor
  · rintro ⟨x, hx, rfl⟩
    exact ⟨List.mem_of_getElem? hx, down_right (hN.down sto_T x) hx (sto_T.irrefl x)⟩
  · rintro ⟨hm, h2⟩
    obtain ⟨k, hk, e⟩ := List.getElem_of_mem hm
    have hk' : N[k]? = some t := by rw [List.getElem?_eq_getElem hk, e]
    have hik : i ≤ k := by
      rcases Nat.lt_or_ge k i with h | h
      · have := h1 t (by rw [List.mem_take_iff_getElem]; exact ⟨k, by omega, e⟩)
        rw [sto_T.irrefl] at this; cases this
      · exact h
    have hi : i < N.length := by omega
    refine ⟨N[i], List.getElem?_eq_getElem hi, ?_⟩
    rcases Nat.eq_or_lt_of_le hik with e2 | e2
    · subst e2; exact e
    · have h3 := List.pairwise_iff_getElem.1 hN i k hi hk e2
      have h4 := h2 N[i] (by rw [List.mem_drop_iff_getElem]; exact ⟨0, by simpa using hi, by simp⟩)
      rw [e] at h3
      rw [h3] at h4
      cases h4
end Go.Tum
