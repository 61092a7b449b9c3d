/- A ring in plain Lean: a node goes and comes back. No program here. -/
import Derived.Test.YtcifajfmdpjfiaaDoorMPl
namespace Go.Tum
theorem down_filter {α : Type} {p : α → Bool} : ∀ {L : List α}, Down p L → L.takeWhile p = L.filter p ∧ L.dropWhile p = L.filter fun x => !p x
  | [], _ => ⟨rfl, rfl⟩
  | x :: L, h => by
    have h' := List.pairwise_cons.1 h
    cases hx : p x with
    | true =>
      obtain ⟨a, b⟩ := down_filter h'.2
      rw [List.takeWhile_cons, List.dropWhile_cons, List.filter_cons, List.filter_cons, hx]
      exact ⟨by simp [a], by simp [b]⟩
    | false =>
      have hn : ∀ y ∈ L, p y = false := fun y hy => by
        cases hq : p y with
        | false => rfl
        | true => have := h'.1 y hy hq; rw [hx] at this; cases this
      rw [List.takeWhile_cons, List.dropWhile_cons, List.filter_cons, List.filter_cons, hx]
      refine ⟨?_, ?_⟩
      · simp only [Bool.false_eq_true, if_false]
        exact (List.filter_eq_nil_iff.2 fun y hy => by rw [hn y hy]; simp).symm
      · simp only [Bool.false_eq_true, if_false, Bool.not_false, if_true]
        rw [List.filter_eq_self.2 fun y hy => by rw [hn y hy]; rfl]
theorem rising_down {L : List Plc} (h : Rising ltP L) (k : Nat) : Down (fun p => decide (p.1 < k)) L := h.imp fun {x y} hxy hy => by
  simp only [decide_eq_true_eq] at hy ⊢
  unfold ltP at hxy
  rw [decide_eq_false_iff_not] at hxy
  omega
theorem turned_pos {L : List Plc} (h : Rising ltP L) (k : Nat) : turned L (pickV.posOf L k) = (L.filter fun p => !decide (p.1 < k)) ++ L.filter fun p => decide (p.1 < k) := by
  obtain ⟨a, b⟩ := down_filter (rising_down h k)
  unfold turned pickV.posOf
  rw [← a, ← b]
  obtain ⟨A, hA⟩ : ∃ A, A = L.takeWhile fun p => decide (p.1 < k) := ⟨_, rfl⟩
  obtain ⟨B, hB⟩ : ∃ B, B = L.dropWhile fun p => decide (p.1 < k) := ⟨_, rfl⟩
  have h1 : L = A ++ B := by rw [hA, hB]; exact (List.takeWhile_append_dropWhile).symm
  rw [← hA, ← hB, h1, List.drop_left, List.take_left]
theorem turned_filter {L : List Plc} (h : Rising ltP L) (f : Plc → Bool) (k : Nat) : turned (L.filter f) (pickV.posOf (L.filter f) k) = (turned L (pickV.posOf L k)).filter f := by
  rw [turned_pos h, turned_pos (h.sublist List.filter_sublist), List.filter_append, List.filter_filter, List.filter_filter, List.filter_filter, List.filter_filter]
  congr 1 <;> (apply List.filter_congr; intro x _; exact Bool.and_comm _ _)
theorem allV_del (c : Nat) (N : List Tx) (s : Tx) (k : Nat) : allV (placesOf c (less1 N s)) k = less1 (allV (placesOf c N) k) s := by
  unfold allV less1
  rw [← placesOf_del, turned_filter (placesOf_rising c N), dd_filter]
  congr 1
  rw [List.filter_map]; rfl
theorem insT_less1 {N : List Tx} (h : Strict ltT N) {s : Tx} (hs : s ∈ N) : insT (less1 N s) s = N := by
  have hn : s ∉ less1 N s := fun e => by simp at e
  have h1 : Strict ltT (insT (less1 N s) s) := insT_strict (h.sublist List.filter_sublist) hn
  refine rising_eq sto_T ((List.perm_ext_iff_of_nodup (h1.nodup sto_T) (h.nodup sto_T)).2 fun x => ?_) (h1.rising sto_T) (h.rising sto_T)
  rw [insT_mem, List.mem_filter]
  constructor
  · rintro (rfl | e)
    · exact hs
    · exact e.1
  · intro e
    by_cases hx : x = s
    · exact .inl hx
    · exact .inr ⟨e, by simp [hx]⟩
theorem nodesOf_rev {l : List Tx} (h1 : Strict ltT (nodesOf l)) (h2 : Strict ltT (nodesOf l.reverse)) : nodesOf l.reverse = nodesOf l :=
  rising_eq sto_T ((nodesOf_perm l.reverse).trans ((List.reverse_perm l).trans (nodesOf_perm l).symm)) (h2.rising sto_T) (h1.rising sto_T)
theorem newE_rev (l : List Tx) (n : Int) : newE l.reverse n = newE l n := by
  unfold newE
  rw [List.length_reverse, List.any_reverse]
  have h : l.reverse.Nodup ↔ l.Nodup := (List.reverse_perm l).nodup_iff
  simp only [h]
theorem getV_cons {L : List Plc} {k : Nat} {x : Tx} {l : List Tx} (h : allV L k = x :: l) : getV L k = (x, true) := by rw [getV_eq, h]
theorem getV_snd (L : List Plc) (k : Nat) : (getV L k).2 = decide (0 < (allV L k).length) := by
  rw [getV_eq]
  cases allV L k with
  | nil => rfl
  | cons x l => simp
theorem getV_less {L L' : List Plc} {k : Nat} {s : Tx} (h : allV L' k = less1 (allV L k) s) (h0 : 0 < (allV L k).length) (hy : (getV L k).1 ≠ s) : (getV L' k).1 = (getV L k).1 := by
  cases hB : allV L k with
  | nil => rw [hB] at h0; cases h0
  | cons y B =>
    rw [getV_cons hB] at hy
    rw [getV_cons hB]
    have h1 : less1 (y :: B) s = y :: less1 B s := by
      unfold less1
      rw [List.filter_cons]
      have : y ≠ s := hy
      simp [this]
    rw [hB, h1] at h
    rw [getV_cons h]
theorem rev_next {l : List Tx} {j : Nat} {x : Tx} (h : l[j]? = some x) : (l.drop j).reverse = (l.drop (j + 1)).reverse ++ [x] := by
  obtain ⟨hl, e⟩ := List.getElem?_eq_some_iff.1 h
  rw [← List.getElem_cons_drop hl, List.reverse_cons, e]
theorem delV_eq (N : List Tx) (s : Tx) : (delV N s).1 = less1 N s := by
  unfold delV
  by_cases h : s ∈ N
  · rw [if_pos h]
  · rw [if_neg h]; exact (less1_not h).symm
theorem delV_code (N : List Tx) (s : Tx) : ((delV N s).2 == 0) = decide (s ∈ N) := by
  unfold delV
  by_cases h : s ∈ N
  · rw [if_pos h]; simp [h]
  · rw [if_neg h]; simp [h]
theorem less1_there {l : List Tx} (hn : l.Nodup) (s : Tx) : decide ((less1 l s).length < l.length) = decide (s ∈ l) := by
  by_cases h : s ∈ l
  · have := less1_len hn h
    rw [decide_eq_true h]
    exact decide_eq_true (by omega)
  · rw [less1_not h, decide_eq_false h]
    exact decide_eq_false (Nat.lt_irrefl _)
end Go.Tum
