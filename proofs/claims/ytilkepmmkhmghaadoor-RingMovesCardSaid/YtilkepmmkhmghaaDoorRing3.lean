/- A ring in plain Lean: its nodes tell its places. No program here. -/
import Derived.Test.YtilkepmmkhmghaaDoorRing2
import Derived.Test.YtilkepmmkhmghaaDoorHash
import Derived.Lib.ItoaMem
namespace Go.Tum
open Go.Lib
/-- A node's i-th place. -/
def newP (s : Tx) (i : Nat) : Plc := (fnv64 (s ++ [58] ++ Lib.itoa (i : Int)), s)
def news (c : Nat) (s : Tx) : List Plc := (List.range c).map (newP s)
theorem news_len (c : Nat) (s : Tx) : (news c s).length = c := by simp [news]
theorem news_mem {c : Nat} {s : Tx} {p : Plc} (h : p ∈ news c s) : p.2 = s := by
  obtain ⟨i, _, rfl⟩ := List.mem_map.1 h
  rfl
theorem news_next (c : Nat) (s : Tx) : news (c + 1) s = news c s ++ [newP s c] := by simp [news, List.range_succ]
def placesOf (c : Nat) (N : List Tx) : List Plc := sortL ltP (N.flatMap (news c))
theorem placesOf_rising (c : Nat) (N : List Tx) : Rising ltP (placesOf c N) := sortL_rising sto_P _
theorem placesOf_perm (c : Nat) (N : List Tx) : (placesOf c N).Perm (N.flatMap (news c)) := sortL_perm _ _
theorem flat_len (c : Nat) : ∀ N : List Tx, (N.flatMap (news c)).length = N.length * c
  | [] => by simp
  | x :: N => by rw [List.flatMap_cons, List.length_append, flat_len c N, news_len, List.length_cons, Nat.add_mul, Nat.one_mul, Nat.add_comm]
theorem placesOf_len (c : Nat) (N : List Tx) : (placesOf c N).length = N.length * c := by rw [(placesOf_perm c N).length_eq, flat_len]
theorem placesOf_mem {c : Nat} {N : List Tx} {p : Plc} (h : p ∈ placesOf c N) : p.2 ∈ N := by
  obtain ⟨s, hs, hp⟩ := List.mem_flatMap.1 ((placesOf_perm c N).mem_iff.1 h)
  rw [news_mem hp]; exact hs
theorem placesOf_has {c : Nat} (hc : 0 < c) {N : List Tx} {s : Tx} (h : s ∈ N) : ∃ p ∈ placesOf c N, p.2 = s :=
  ⟨newP s 0, (placesOf_perm c N).mem_iff.2 (List.mem_flatMap.2 ⟨s, h, List.mem_map.2 ⟨0, List.mem_range.2 hc, rfl⟩⟩), rfl⟩
theorem placesOf_congr {c : Nat} {N M : List Tx} (h : N.Perm M) : placesOf c N = placesOf c M := sortL_congr sto_P (h.flatMap_right (news c))
theorem placesOf_nil (c : Nat) : placesOf c [] = [] := by simp [placesOf, sortL]
/-- A node more. -/
theorem insT_perm (N : List Tx) (s : Tx) : (insT N s).Perm (s :: N) := by
  unfold insT
  conv => rhs; rw [show N = N.takeWhile (ltT · s) ++ N.dropWhile (ltT · s) from (List.takeWhile_append_dropWhile).symm]
  exact List.perm_middle
theorem insT_mem (N : List Tx) (s x : Tx) : x ∈ insT N s ↔ x = s ∨ x ∈ N := by rw [(insT_perm N s).mem_iff, List.mem_cons]
theorem insT_len (N : List Tx) (s : Tx) : (insT N s).length = N.length + 1 := (insT_perm N s).length_eq
theorem insT_at (N : List Tx) (s : Tx) : insT N s = N.take (posT N s) ++ s :: N.drop (posT N s) := by
  unfold insT posT
  obtain ⟨A, hA⟩ : ∃ A, A = N.takeWhile (ltT · s) := ⟨_, rfl⟩
  obtain ⟨B, hB⟩ : ∃ B, B = N.dropWhile (ltT · s) := ⟨_, rfl⟩
  have h : N = A ++ B := by rw [hA, hB]; exact (List.takeWhile_append_dropWhile).symm
  rw [← hA, ← hB, h]
  simp
theorem insT_strict {N : List Tx} (h : Strict ltT N) {s : Tx} (hs : s ∉ N) : Strict ltT (insT N s) := by
  have hsplit : N = N.takeWhile (ltT · s) ++ N.dropWhile (ltT · s) := (List.takeWhile_append_dropWhile).symm
  have hdown := h.down sto_T s
  have ha : ∀ x ∈ N.takeWhile (ltT · s), ltT x s = true := fun x hx => List.all_eq_true.1 List.all_takeWhile x hx
  have hb : ∀ y ∈ N.dropWhile (ltT · s), ltT s y = true := fun y hy => by
    have hyN : y ∈ N := by rw [hsplit]; exact List.mem_append.2 (.inr hy)
    have h1 : ltT y s = false := by
      cases hd : N.dropWhile (ltT · s) with
      | nil => rw [hd] at hy; cases hy
      | cons z D =>
        have hz : ltT z s = false := by
          have := List.head_dropWhile_not (ltT · s) (l := N) (by rw [hd]; simp)
          simpa [hd] using this
        rw [hd] at hy
        rcases List.mem_cons.1 hy with rfl | hy
        · exact hz
        · cases hq : ltT y s with
          | false => rfl
          | true =>
            rw [hsplit, hd] at hdown
            have := (List.pairwise_cons.1 (List.pairwise_append.1 hdown).2.1).1 y hy hq
            dsimp only at this; rw [hz] at this; cases this
    rcases sto_T.total y s (fun e => hs (e ▸ hyN)) with h2 | h2
    · rw [h1] at h2; cases h2
    · exact h2
  have h2 := h
  rw [hsplit] at h2
  obtain ⟨k1, k2, k3⟩ := List.pairwise_append.1 h2
  unfold insT
  refine List.pairwise_append.2 ⟨k1, List.pairwise_cons.2 ⟨hb, k2⟩, fun x hx y hy => ?_⟩
  rcases List.mem_cons.1 hy with rfl | hy
  · exact ha x hx
  · exact k3 x hx y hy
theorem placesOf_ins (c : Nat) (N : List Tx) (s : Tx) : sortL ltP (placesOf c N ++ news c s) = placesOf c (insT N s) := by
  refine sortL_congr sto_P ?_
  refine ((placesOf_perm c N).append_right _).trans ?_
  refine (List.perm_append_comm).trans ?_
  exact ((insT_perm N s).flatMap_right (news c)).symm
/-- A node less. -/
theorem placesOf_del (c : Nat) (N : List Tx) (s : Tx) : (placesOf c N).filter (fun p => !decide (p.2 = s)) = placesOf c (N.filter fun x => !decide (x = s)) := by
  refine sortL_eq sto_P ?_ ((placesOf_rising c N).sublist List.filter_sublist)
  refine ((placesOf_perm c N).filter _).trans ?_
  induction N with
  | nil => simp
  | cons x N ih =>
    rw [List.flatMap_cons, List.filter_append, List.filter_cons]
    by_cases h : x = s
    · have h1 : (news c x).filter (fun p => !decide (p.2 = s)) = [] := List.filter_eq_nil_iff.2 fun p hp => by rw [news_mem hp, h]; simp
      rw [h1, h]
      simpa using ih
    · have h1 : (news c x).filter (fun p => !decide (p.2 = s)) = news c x := List.filter_eq_self.2 fun p hp => by rw [news_mem hp]; simp [h]
      rw [h1]
      simp only [h, decide_false, Bool.not_false, if_true, List.flatMap_cons]
      exact List.Perm.append_left _ ih
theorem filter_at {N : List Tx} (h : Strict ltT N) {s : Tx} (hs : s ∈ N) : N.take (posT N s) ++ N.drop (posT N s + 1) = N.filter (fun x => !decide (x = s)) ∧ posT N s < N.length := by
  obtain ⟨i, hi, e⟩ := List.getElem_of_mem hs
  have hi' : N[i]? = some s := by rw [List.getElem?_eq_getElem hi, e]
  have hp : posT N s = i := by
    refine tw_len (by omega) (fun y hy => ?_) (.inr ⟨s, hi', sto_T.irrefl s⟩)
    obtain ⟨k, hk, hy⟩ := mem_take_idx hy
    obtain ⟨hkl, rfl⟩ := List.getElem?_eq_some_iff.1 hy
    have := List.pairwise_iff_getElem.1 h k i hkl hi hk
    rwa [e] at this
  rw [hp]
  refine ⟨?_, hi⟩
  have hn := h.nodup sto_T
  obtain ⟨A, B, hA, hB, hN⟩ : ∃ A B, N.take i = A ∧ N.drop (i + 1) = B ∧ N = A ++ s :: B := ⟨_, _, rfl, rfl, by rw [← e, List.getElem_cons_drop, List.take_append_drop]⟩
  rw [hA, hB, hN]
  rw [hN] at hn
  rw [List.nodup_append] at hn
  obtain ⟨n1, n2, n3⟩ := hn
  rw [List.nodup_cons] at n2
  rw [List.filter_append, List.filter_cons]
  simp only [decide_true, Bool.not_true, Bool.false_eq_true, if_false]
  rw [List.filter_eq_self.2 fun x hx => by simpa using fun e => n3 x hx s (by simp) e, List.filter_eq_self.2 fun x hx => by simpa using fun e : x = s => n2.1 (e ▸ hx)]
/-- What Add does to the nodes, and tells. -/
def addV (N : List Tx) (s : Tx) : List Tx × Int := if !decide (1 ≤ s.length ∧ s.length ≤ 200) then (N, 130) else if s ∈ N ∧ N.length < 64 then (N, 132) else if 64 ≤ N.length then (N, 130) else (insT N s, 0)
def delV (N : List Tx) (s : Tx) : List Tx × Int := if s ∈ N then (N.filter fun x => !decide (x = s), 0) else (N, 133)
/-- The places from one on, round. -/
def turned (L : List Plc) (i : Nat) : List Plc := L.drop i ++ L.take i
def pickV (L : List Plc) (h : Nat) (n : Int) : List Tx := if n < 1 then [] else (dd [] ((turned L (posOf L h)).map (·.2))).take n.toNat
where posOf (L : List Plc) (h : Nat) : Nat := (L.takeWhile fun p => decide (p.1 < h)).length
theorem turned_len (L : List Plc) (i : Nat) : (turned L i).length = L.length := by simp [turned]; omega
theorem turned_get (L : List Plc) {f : Nat} (hf : f ≤ L.length) {i : Nat} (hi : i < L.length) : (turned L f)[i]? = L[(f + i) % L.length]? := by
  unfold turned
  by_cases h : f + i < L.length
  · rw [Nat.mod_eq_of_lt h, List.getElem?_append_left (by simp; omega), List.getElem?_drop]
  · rw [Nat.mod_eq_sub_mod (by omega), Nat.mod_eq_of_lt (by omega), List.getElem?_append_right (by simp; omega), List.length_drop, List.getElem?_take_of_lt (by omega)]
    congr 1
    omega
end Go.Tum
