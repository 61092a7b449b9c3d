/- Rings in plain Lean: texts and places in order, sorted lists, what is picked. No program here. -/
import Derived.Test.YtilkepmmkhmghaaDoorDueSpec
namespace Go.Tum
open Go.Lib
/-- A strict order in which whatever two that are not one can be told apart. -/
structure STO {α : Type} (lt : α → α → Bool) : Prop where
  irrefl : ∀ a, lt a a = false
  trans : ∀ a b c, lt a b = true → lt b c = true → lt a c = true
  total : ∀ a b, a ≠ b → lt a b = true ∨ lt b a = true
section
variable {α : Type} {lt : α → α → Bool} (o : STO lt)
include o
theorem STO.asym {a b : α} (h : lt a b = true) : lt b a = false := by
  cases h2 : lt b a with
  | false => rfl
  | true => have := o.trans a b a h h2; rw [o.irrefl] at this; cases this
theorem STO.le_trans {a b c : α} (h1 : lt b a = false) (h2 : lt c b = false) : lt c a = false := by
  cases h : lt c a with
  | false => rfl
  | true =>
    by_cases e : b = c
    · subst e; rw [h] at h1; cases h1
    · rcases o.total b c e with h3 | h3
      · have := o.trans _ _ _ h3 h; rw [h1] at this; cases this
      · rw [h3] at h2; cases h2
theorem STO.eq_of {a b : α} (h1 : lt a b = false) (h2 : lt b a = false) : a = b := by
  by_cases e : a = b
  · exact e
  · rcases o.total a b e with h | h
    · rw [h] at h1; cases h1
    · rw [h] at h2; cases h2
end
/-- Rising, equals may stand side by side. -/
abbrev Rising {α : Type} (lt : α → α → Bool) (l : List α) : Prop := l.Pairwise fun x y => lt y x = false
theorem rising_eq {α : Type} {lt : α → α → Bool} (o : STO lt) : ∀ {l m : List α}, l.Perm m → Rising lt l → Rising lt m → l = m
  | [], m, h, _, _ => (List.nil_perm.1 h).symm
  | x :: l, [], h, _, _ => absurd h.length_eq (by simp)
  | x :: l, y :: m, h, h1, h2 => by
    unfold Rising at h1 h2
    rw [List.pairwise_cons] at h1 h2
    have e : x = y := by
      by_cases e : x = y
      · exact e
      · have hx : x ∈ m := by
          rcases List.mem_cons.1 (h.mem_iff.1 (by simp : x ∈ x :: l)) with k | k
          · exact absurd k e
          · exact k
        have hy : y ∈ l := by
          rcases List.mem_cons.1 (h.mem_iff.2 (by simp : y ∈ y :: m)) with k | k
          · exact absurd k.symm e
          · exact k
        exact o.eq_of (h2.1 x hx) (h1.1 y hy)
    subst e
    rw [rising_eq o h.cons_inv h1.2 h2.2]
/-- All sorted. -/
def sortL {α : Type} (lt : α → α → Bool) (l : List α) : List α := l.mergeSort fun x y => !lt y x
theorem sortL_perm {α : Type} (lt : α → α → Bool) (l : List α) : (sortL lt l).Perm l := List.mergeSort_perm _ _
theorem sortL_rising {α : Type} {lt : α → α → Bool} (o : STO lt) (l : List α) : Rising lt (sortL lt l) := by
  have h1 : (sortL lt l).Pairwise fun x y => (!lt y x) = true := by
    unfold sortL
    refine List.pairwise_mergeSort (fun a b c ha hb => ?_) (fun a b => ?_) _
    · simp only [Bool.not_eq_true'] at ha hb ⊢
      exact o.le_trans ha hb
    · cases hab : lt b a with
      | false => simp
      | true => simp [o.asym hab]
  exact h1.imp fun h => by simpa using h
theorem sortL_eq {α : Type} {lt : α → α → Bool} (o : STO lt) {l m : List α} (h : l.Perm m) (hl : Rising lt l) : l = sortL lt m := rising_eq o (h.trans (sortL_perm lt m).symm) hl (sortL_rising o m)
theorem sortL_congr {α : Type} {lt : α → α → Bool} (o : STO lt) {l m : List α} (h : l.Perm m) : sortL lt l = sortL lt m := sortL_eq o ((sortL_perm lt l).trans h) (sortL_rising o l)
/-- One more, behind its like. -/
def insR {α : Type} (lt : α → α → Bool) (l : List α) (p : α) : List α := (l.reverse.dropWhile (lt p)).reverse ++ p :: (l.reverse.takeWhile (lt p)).reverse
theorem insR_split {α : Type} (lt : α → α → Bool) (l : List α) (p : α) : l = (l.reverse.dropWhile (lt p)).reverse ++ (l.reverse.takeWhile (lt p)).reverse := by
  rw [← List.reverse_append, List.takeWhile_append_dropWhile, List.reverse_reverse]
theorem insR_perm {α : Type} (lt : α → α → Bool) (l : List α) (p : α) : (insR lt l p).Perm (l ++ [p]) := by
  conv => rhs; rw [insR_split lt l p]
  unfold insR
  rw [List.append_assoc]
  exact List.Perm.append_left _ (List.perm_append_singleton _ _).symm
theorem insR_rising {α : Type} {lt : α → α → Bool} (o : STO lt) {l : List α} (h : Rising lt l) (p : α) : Rising lt (insR lt l p) := by
  have hs := insR_split lt l p
  obtain ⟨A, hA⟩ : ∃ A, A = (l.reverse.dropWhile (lt p)).reverse := ⟨_, rfl⟩
  obtain ⟨B, hB⟩ : ∃ B, B = (l.reverse.takeWhile (lt p)).reverse := ⟨_, rfl⟩
  have hb : ∀ y ∈ B, lt p y = true := fun y hy => by
    rw [hB, List.mem_reverse] at hy
    exact List.all_eq_true.1 List.all_takeWhile y hy
  have ha : ∀ x ∈ A, lt p x = false := by
    cases hd : l.reverse.dropWhile (lt p) with
    | nil => intro x hx; rw [hA, hd] at hx; cases hx
    | cons z D =>
      have hz : lt p z = false := by
        have := List.head_dropWhile_not (lt p) (l := l.reverse) (by rw [hd]; simp)
        simpa [hd] using this
      intro x hx
      rw [hA, hd, List.reverse_cons] at hx
      rcases List.mem_append.1 hx with k | k
      · have hAz : A = D.reverse ++ [z] := by rw [hA, hd, List.reverse_cons]
        rw [hs, ← hA, hAz] at h
        have h2 := (List.pairwise_append.1 (List.pairwise_append.1 h).1).2.2 x k z (by simp)
        exact o.le_trans h2 hz
      · rw [List.mem_singleton.1 k]; exact hz
  unfold insR
  rw [← hA, ← hB]
  rw [hs, ← hA, ← hB] at h
  obtain ⟨k1, k2, k3⟩ := List.pairwise_append.1 h
  refine List.pairwise_append.2 ⟨k1, List.pairwise_cons.2 ⟨fun y hy => o.asym (hb y hy), k2⟩, fun x hx y hy => ?_⟩
  rcases List.mem_cons.1 hy with rfl | hy
  · exact ha x hx
  · exact k3 x hx y hy
/-- Two lists made one. -/
def mergeL {α : Type} (lt : α → α → Bool) : List α → List α → List α
  | [], b => b
  | x :: a, [] => x :: a
  | x :: a, y :: b => if lt x y then x :: mergeL lt a (y :: b) else y :: mergeL lt (x :: a) b
termination_by a b => a.length + b.length
section
variable {α : Type} {lt : α → α → Bool}
theorem mergeL_nil (a : List α) : mergeL lt a [] = a := by cases a <;> simp [mergeL]
theorem mergeL_perm : ∀ (a b : List α), (mergeL lt a b).Perm (a ++ b)
  | [], b => by simp [mergeL]
  | x :: a, [] => by simp [mergeL]
  | x :: a, y :: b => by
    unfold mergeL
    split
    · exact (mergeL_perm a (y :: b)).cons x
    · exact ((mergeL_perm (x :: a) b).cons y).trans (List.perm_middle.symm)
termination_by a b => a.length + b.length
theorem mergeL_rising (o : STO lt) : ∀ {a b : List α}, Rising lt a → Rising lt b → Rising lt (mergeL lt a b)
  | [], b, _, hb => by simpa [mergeL] using hb
  | x :: a, [], ha, _ => by simpa [mergeL] using ha
  | x :: a, y :: b, ha, hb => by
    have ha' := List.pairwise_cons.1 ha
    have hb' := List.pairwise_cons.1 hb
    unfold mergeL
    split
    · rename_i h
      refine List.pairwise_cons.2 ⟨fun z hz => ?_, mergeL_rising o ha'.2 hb⟩
      rcases List.mem_append.1 ((mergeL_perm a (y :: b)).mem_iff.1 hz) with k | k
      · exact ha'.1 z k
      · rcases List.mem_cons.1 k with rfl | k
        · exact o.asym h
        · exact o.le_trans (o.asym h) (hb'.1 z k)
    · rename_i h
      have h : lt x y = false := by simpa using h
      refine List.pairwise_cons.2 ⟨fun z hz => ?_, mergeL_rising o ha hb'.2⟩
      rcases List.mem_append.1 ((mergeL_perm (x :: a) b).mem_iff.1 hz) with k | k
      · rcases List.mem_cons.1 k with rfl | k
        · exact h
        · exact o.le_trans h (ha'.1 z k)
      · exact hb'.1 z k
termination_by a b => a.length + b.length
end
/-! ### Texts and places -/
abbrev Tx := List UInt8
def ltT (a b : Tx) : Bool := decide (compareBytes a b < 0)
theorem sto_T : STO ltT where
  irrefl a := by have := (cb_zero a a).2 rfl; simp [ltT, this]
  trans a b c h1 h2 := by
    simp only [ltT, decide_eq_true_eq] at *
    exact cb_trans a b c h1 h2
  total a b h := by
    simp only [ltT, decide_eq_true_eq]
    have h1 := cb_swap a b
    have h2 : compareBytes a b ≠ 0 := fun e => h ((cb_zero a b).1 e)
    omega
abbrev Plc := Nat × Tx
def ltP (a b : Plc) : Bool := decide (a.1 < b.1 ∨ a.1 = b.1 ∧ compareBytes a.2 b.2 < 0)
theorem sto_P : STO ltP where
  irrefl a := by have := (cb_zero a.2 a.2).2 rfl; simp [ltP, this]
  trans a b c h1 h2 := by
    simp only [ltP, decide_eq_true_eq] at *
    rcases h1 with h1 | ⟨e1, h1⟩
    · rcases h2 with h2 | ⟨e2, h2⟩
      · exact .inl (by omega)
      · exact .inl (by omega)
    · rcases h2 with h2 | ⟨e2, h2⟩
      · exact .inl (by omega)
      · exact .inr ⟨by omega, cb_trans _ _ _ h1 h2⟩
  total a b h := by
    simp only [ltP, decide_eq_true_eq]
    have h1 := cb_swap a.2 b.2
    by_cases e : a.1 = b.1
    · have h2 : compareBytes a.2 b.2 ≠ 0 := fun e2 => h (Prod.ext e ((cb_zero _ _).1 e2))
      omega
    · omega
def cmpP (a b : Plc) : Int := if a = b then 0 else if a.1 < b.1 then -1 else if b.1 < a.1 then 1 else compareBytes a.2 b.2
theorem cmpP_lt (a b : Plc) : decide (cmpP a b < 0) = ltP a b := by
  unfold cmpP ltP
  by_cases e : a = b
  · subst e
    have := (cb_zero a.2 a.2).2 rfl
    simp [this]
  · rw [if_neg e]
    by_cases h1 : a.1 < b.1
    · simp [h1]
    · rw [if_neg h1]
      by_cases h2 : b.1 < a.1
      · rw [if_pos h2]
        have h3 : ¬ (a.1 < b.1 ∨ a.1 = b.1 ∧ compareBytes a.2 b.2 < 0) := by omega
        rw [decide_eq_false h3]
        rfl
      · rw [if_neg h2]
        have h3 : a.1 = b.1 := by omega
        simp [h3]
theorem bytesLess_lt : ∀ a b : Tx, Op.bytesLess a b = ltT a b
  | [], [] => by simp [Op.bytesLess, ltT, compareBytes]
  | [], _ :: _ => by simp [Op.bytesLess, ltT, compareBytes]
  | _ :: _, [] => by simp [Op.bytesLess, ltT, compareBytes]
  | a :: x, b :: y => by
    have h := bytesLess_lt x y
    simp only [ltT] at h ⊢
    simp only [Op.bytesLess, compareBytes, h]
    by_cases h1 : a < b
    · simp [h1]
    · by_cases h2 : b < a
      · have h3 : a ≠ b := fun e => h1 (e ▸ h2)
        simp [h1, h2, h3]
      · have e : a = b := UInt8.le_antisymm (UInt8.not_lt.1 h2) (UInt8.not_lt.1 h1)
        subst e
        simp [h1]
/-- A text among sorted ones. -/
def insT (L : List Tx) (x : Tx) : List Tx := L.takeWhile (ltT · x) ++ x :: L.dropWhile (ltT · x)
/-- Each once, as they come. -/
def dd : List Tx → List Tx → List Tx
  | acc, [] => acc
  | acc, x :: l => if x ∈ acc then dd acc l else dd (acc ++ [x]) l
theorem dd_snoc (x : Tx) : ∀ (l acc : List Tx), dd acc (l ++ [x]) = if x ∈ dd acc l then dd acc l else dd acc l ++ [x]
  | [], acc => by by_cases h : x ∈ acc <;> simp [dd, h]
  | y :: l, acc => by
    simp only [List.cons_append, dd]
    split
    · exact dd_snoc x l acc
    · exact dd_snoc x l _
theorem dd_prefix : ∀ (l acc : List Tx), acc <+: dd acc l
  | [], acc => List.prefix_rfl
  | x :: l, acc => by
    simp only [dd]
    split
    · exact dd_prefix l acc
    · exact (List.prefix_append acc [x]).trans (dd_prefix l _)
theorem dd_append (l m acc : List Tx) : dd acc (l ++ m) = dd (dd acc l) m := by
  induction l generalizing acc with
  | nil => rfl
  | cons x l ih =>
    simp only [List.cons_append, dd]
    split <;> exact ih _
theorem dd_mem (x : Tx) : ∀ (l acc : List Tx), x ∈ dd acc l ↔ x ∈ acc ∨ x ∈ l
  | [], acc => by simp [dd]
  | y :: l, acc => by
    simp only [dd, List.mem_cons]
    split
    · rename_i h
      rw [dd_mem x l acc]
      constructor
      · rintro (k | k); exact .inl k; exact .inr (.inr k)
      · rintro (k | k | k); exact .inl k; exact .inl (k ▸ h); exact .inr k
    · rw [dd_mem x l _]
      simp only [List.mem_append, List.mem_singleton]
      constructor
      · rintro ((k | k) | k); exact .inl k; exact .inr (.inl k); exact .inr (.inr k)
      · rintro (k | k | k); exact .inl (.inl k); exact .inl (.inr k); exact .inr k
theorem dd_nodup : ∀ (l acc : List Tx), acc.Nodup → (dd acc l).Nodup
  | [], _, h => h
  | y :: l, acc, h => by
    simp only [dd]
    split
    · exact dd_nodup l acc h
    · rename_i hy
      refine dd_nodup l _ ?_
      rw [List.nodup_append]
      refine ⟨h, by simp, fun a ha b hb e => hy ?_⟩
      rw [← List.mem_singleton.1 hb, ← e]; exact ha
theorem dd_filter (p : Tx → Bool) : ∀ (l acc : List Tx), (dd acc l).filter p = dd (acc.filter p) (l.filter p)
  | [], acc => rfl
  | y :: l, acc => by
    simp only [dd, List.filter_cons]
    by_cases hp : p y = true
    · simp only [hp, if_true, dd]
      have hm : y ∈ acc.filter p ↔ y ∈ acc := by simp [hp]
      by_cases h : y ∈ acc
      · rw [if_pos h, if_pos (hm.2 h)]; exact dd_filter p l acc
      · rw [if_neg h, if_neg (fun e => h (hm.1 e)), dd_filter p l _]; simp [hp]
    · have hp' : p y = false := by simpa using hp
      simp only [hp', Bool.false_eq_true, if_false]
      by_cases h : y ∈ acc
      · rw [if_pos h]; exact dd_filter p l acc
      · rw [if_neg h, dd_filter p l _]; simp [hp']
end Go.Tum
