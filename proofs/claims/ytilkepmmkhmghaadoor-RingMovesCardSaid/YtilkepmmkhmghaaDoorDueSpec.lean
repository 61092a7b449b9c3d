/- Package due in plain words: the order of entries. No program here. -/
import Derived.Lib.Bytealg
import Derived.Test.YtilkepmmkhmghaaDoorHeap
namespace Go.Tum
open Go.Lib
theorem cb_swap : ∀ a b : List UInt8, compareBytes b a = -compareBytes a b
  | [], [] => by simp [compareBytes]
  | [], _ :: _ => by simp [compareBytes]
  | _ :: _, [] => by simp [compareBytes]
  | a :: as, b :: bs => by
    have h := cb_swap as bs
    simp only [compareBytes]
    by_cases h1 : a < b
    · have h2 : ¬ b < a := fun h => absurd (UInt8.lt_trans h1 h) (UInt8.lt_irrefl _)
      simp only [h1, h2, if_true, if_false]
      rfl
    · by_cases h2 : b < a
      · simp only [h1, h2, if_true, if_false]
      · simp only [h1, h2, if_false, h]
theorem cb_zero : ∀ a b : List UInt8, compareBytes a b = 0 ↔ a = b
  | [], [] => by simp [compareBytes]
  | [], _ :: _ => by simp [compareBytes]
  | _ :: _, [] => by simp [compareBytes]
  | a :: as, b :: bs => by
    have h := cb_zero as bs
    simp only [compareBytes]
    by_cases h1 : a < b
    · rw [if_pos h1]
      refine ⟨fun e => by omega, fun e => ?_⟩
      injection e with e _
      subst e
      exact absurd h1 (UInt8.lt_irrefl _)
    · by_cases h2 : b < a
      · rw [if_neg h1, if_pos h2]
        refine ⟨fun e => by omega, fun e => ?_⟩
        injection e with e _
        subst e
        exact absurd h2 (UInt8.lt_irrefl _)
      · rw [if_neg h1, if_neg h2, h]
        have e : a = b := by
          have h3 := UInt8.not_lt.1 h1
          have h4 := UInt8.not_lt.1 h2
          exact UInt8.le_antisymm h4 h3
        subst e
        simp
theorem cb_trans : ∀ a b c : List UInt8, compareBytes a b < 0 → compareBytes b c < 0 → compareBytes a c < 0
  | [], [], _, h1, _ => by simp [compareBytes] at h1
  | [], _ :: _, [], _, h2 => by simp [compareBytes] at h2
  | [], _ :: _, _ :: _, _, _ => by simp [compareBytes]
  | _ :: _, [], _, h1, _ => by simp [compareBytes] at h1
  | _ :: _, _ :: _, [], _, h2 => by simp [compareBytes] at h2
  | a :: as, b :: bs, c :: cs, h1, h2 => by
    have h := cb_trans as bs cs
    simp only [compareBytes] at h1 h2 ⊢
    by_cases e1 : a < b
    · by_cases e2 : b < c
      · rw [if_pos (UInt8.lt_trans e1 e2)]; decide
      · rw [if_neg e2] at h2
        by_cases e3 : c < b
        · rw [if_pos e3] at h2; omega
        · have e : b = c := UInt8.le_antisymm (UInt8.not_lt.1 e3) (UInt8.not_lt.1 e2)
          subst e
          rw [if_pos e1]; decide
    · rw [if_neg e1] at h1
      by_cases e2 : b < a
      · rw [if_pos e2] at h1; omega
      · have e : a = b := UInt8.le_antisymm (UInt8.not_lt.1 e2) (UInt8.not_lt.1 e1)
        subst e
        rw [if_neg e2] at h1
        by_cases e3 : a < c
        · rw [if_pos e3]; decide
        · rw [if_neg e3] at h2 ⊢
          by_cases e4 : c < a
          · rw [if_pos e4] at h2; omega
          · rw [if_neg e4] at h2 ⊢
            exact h h1 h2
/-- An entry: its key, and when it is due. -/
abbrev Ent := List UInt8 × Int
def before (a b : Ent) : Bool := decide (a.2 < b.2 ∨ a.2 = b.2 ∧ compareBytes a.1 b.1 < 0)
theorem before_ord : Ord before where
  trans a b c h1 h2 := by
    simp only [before, decide_eq_true_eq] at h1 h2 ⊢
    rcases h1 with h1 | ⟨h1, k1⟩
    · rcases h2 with h2 | ⟨h2, k2⟩
      · exact .inl (by omega)
      · exact .inl (by omega)
    · rcases h2 with h2 | ⟨h2, k2⟩
      · exact .inl (by omega)
      · exact .inr ⟨by omega, cb_trans _ _ _ k1 k2⟩
  not a b c h1 h2 := by
    simp only [before, decide_eq_false_iff_not, not_or, not_and, Int.not_lt] at h1 h2 ⊢
    refine ⟨by omega, fun e => ?_⟩
    have e1 : b.2 = a.2 := by omega
    have e2 : c.2 = b.2 := by omega
    have k1 := h1.2 e1
    have k2 := h2.2 e2
    rcases Int.lt_or_eq_of_le k1 with q1 | q1
    · rcases Int.lt_or_eq_of_le k2 with q2 | q2
      · have p1 : compareBytes a.1 b.1 < 0 := by rw [cb_swap]; omega
        have p2 : compareBytes b.1 c.1 < 0 := by rw [cb_swap]; omega
        have p3 := cb_trans _ _ _ p1 p2
        rw [cb_swap]
        omega
      · have := (cb_zero _ _).1 q2.symm
        rw [this]
        exact k1
    · have := (cb_zero _ _).1 q1.symm
      rw [← this]
      exact k2
  asym a b h := by
    simp only [before, decide_eq_true_eq] at h
    simp only [before, decide_eq_false_iff_not, not_or, not_and, Int.not_lt]
    rcases h with h | ⟨h, k⟩
    · exact ⟨by omega, fun e => by omega⟩
    · exact ⟨by omega, fun _ => by rw [cb_swap]; omega⟩
/-- A queue's pile: a heap of entries whose keys are distinct. -/
structure QI (d : Nat → Ent) (n : Nat) : Prop where
  heap : IsHeap before d n
  keys : ∀ i j, i < n → j < n → (d i).1 = (d j).1 → i = j
def Has (d : Nat → Ent) (n : Nat) (x : Ent) : Prop := ∃ k, k < n ∧ d k = x
theorem qi_zero (d : Nat → Ent) : QI d 0 := ⟨fun _ _ h => absurd h (Nat.not_lt_zero _), fun _ _ h => absurd h (Nat.not_lt_zero _)⟩
theorem QI.one {d : Nat → Ent} {n : Nat} (h : QI d n) {x y : Ent} (hx : Has d n x) (hy : Has d n y) (e : x.1 = y.1) : x = y := by
  obtain ⟨i, hi, rfl⟩ := hx
  obtain ⟨j, hj, rfl⟩ := hy
  rw [h.keys i j hi hj e]
theorem QI.first {d : Nat → Ent} {n : Nat} (h : QI d n) {x : Ent} (hx : Has d n x) : before x (d 0) = false := by
  obtain ⟨i, hi, rfl⟩ := hx
  exact heap_min before_ord h.heap i i (Nat.le_refl _) hi
/-- a key moved -/
theorem QI.fix {d : Nat → Ent} {n i : Nat} (h : QI d n) (hi : i < n) (t : Int) :
    QI (fixed before (fun k => if k = i then ((d i).1, t) else d k) n i) n ∧ ∀ x, Has (fixed before (fun k => if k = i then ((d i).1, t) else d k) n i) n x ↔ x = ((d i).1, t) ∨ (x.1 ≠ (d i).1 ∧ Has d n x) := by
  obtain ⟨h1, h2⟩ := fixed_heap before_ord hi h.heap ((d i).1, t)
  have hk : ∀ k, ((fun k => if k = i then ((d i).1, t) else d k) k).1 = (d k).1 := fun k => by
    dsimp only
    split
    · rename_i e; rw [e]
    · rfl
  refine ⟨⟨h1, h2.inj Prod.fst fun a b ha hb e => ?_⟩, fun x => ?_⟩
  · rw [hk, hk] at e
    exact h.keys a b ha hb e
  · refine (h2.mem x).trans ⟨?_, ?_⟩
    · rintro ⟨k, hkn, rfl⟩
      by_cases e : k = i
      · exact .inl (by rw [if_pos e])
      · rw [if_neg e]
        exact .inr ⟨fun e2 => e (h.keys k i hkn hi e2), k, hkn, rfl⟩
    · rintro (rfl | ⟨h3, k, hkn, rfl⟩)
      · exact ⟨i, hi, if_pos rfl⟩
      · exact ⟨k, hkn, if_neg fun e => h3 (by rw [e])⟩
/-- a key put in -/
theorem QI.push {d : Nat → Ent} {n : Nat} (h : QI d n) (x : Ent) (hx : ∀ y, Has d n y → y.1 ≠ x.1) :
    QI (pushed before d n x) (n + 1) ∧ ∀ y, Has (pushed before d n x) (n + 1) y ↔ y = x ∨ Has d n y := by
  obtain ⟨h1, h2⟩ := pushed_heap before_ord h.heap x
  refine ⟨⟨h1, h2.inj Prod.fst fun a b ha hb e => ?_⟩, fun y => ?_⟩
  · by_cases ea : a = n
    · by_cases eb : b = n
      · omega
      · rw [if_pos ea, if_neg eb] at e
        exact absurd e.symm (hx _ ⟨b, by omega, rfl⟩)
    · by_cases eb : b = n
      · rw [if_neg ea, if_pos eb] at e
        exact absurd e (hx _ ⟨a, by omega, rfl⟩)
      · rw [if_neg ea, if_neg eb] at e
        exact h.keys a b (by omega) (by omega) e
  · refine (h2.mem y).trans ⟨?_, ?_⟩
    · rintro ⟨k, hkn, rfl⟩
      by_cases e : k = n
      · exact .inl (by rw [if_pos e])
      · rw [if_neg e]
        exact .inr ⟨k, by omega, rfl⟩
    · rintro (rfl | ⟨k, hkn, rfl⟩)
      · exact ⟨n, Nat.lt_succ_self _, if_pos rfl⟩
      · exact ⟨k, by omega, if_neg (by omega)⟩
/-- the first taken out -/
theorem QI.pop {d : Nat → Ent} {n : Nat} (h : QI d (n + 1)) : QI (popped before d n) n ∧ ∀ y, Has (popped before d n) n y ↔ y ≠ d 0 ∧ Has d (n + 1) y := by
  obtain ⟨h1, h2, _⟩ := popped_heap before_ord h.heap
  have hs : ∀ k, k < n → sw d 0 n k = if k = 0 then d n else d k := fun k hk => by
    unfold sw
    split
    · rfl
    · rw [if_neg (by omega)]
  refine ⟨⟨h1, h2.inj Prod.fst fun a b ha hb e => ?_⟩, fun y => ?_⟩
  · rw [hs a ha, hs b hb] at e
    by_cases ea : a = 0
    · by_cases eb : b = 0
      · omega
      · rw [if_pos ea, if_neg eb] at e
        have := h.keys n b (by omega) (by omega) e
        omega
    · by_cases eb : b = 0
      · rw [if_neg ea, if_pos eb] at e
        have := h.keys a n (by omega) (by omega) e
        omega
      · rw [if_neg ea, if_neg eb] at e
        exact h.keys a b (by omega) (by omega) e
  · refine (h2.mem y).trans ⟨?_, ?_⟩
    · rintro ⟨k, hkn, rfl⟩
      rw [hs k hkn]
      by_cases e : k = 0
      · rw [if_pos e]
        refine ⟨fun e2 => ?_, n, Nat.lt_succ_self _, rfl⟩
        have := h.keys n 0 (by omega) (by omega) (by rw [e2])
        omega
      · rw [if_neg e]
        refine ⟨fun e2 => ?_, k, by omega, rfl⟩
        exact e (h.keys k 0 (by omega) (by omega) (by rw [e2]))
    · rintro ⟨h3, k, hkn, rfl⟩
      by_cases e : k = n
      · subst e
        have hn : 0 < k := by
          rcases Nat.eq_zero_or_pos k with e2 | e2
          · subst e2; exact absurd rfl h3
          · exact e2
        exact ⟨0, hn, by rw [hs 0 hn, if_pos rfl]⟩
      · have hk0 : k ≠ 0 := fun e2 => h3 (by rw [e2])
        exact ⟨k, by omega, by rw [hs k (by omega), if_neg hk0]⟩
end Go.Tum
