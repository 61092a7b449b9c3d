/- A ring in plain Lean: made of nodes. No program here. -/
import Derived.Test.YtilkepmmkhmghaaDoorRing4
namespace Go.Tum
/-- The nodes, rising. -/
def nodesOf (l : List Tx) : List Tx := l.foldl insT []
theorem foldT_perm : ∀ (l N : List Tx), (l.foldl insT N).Perm (N ++ l)
  | [], N => by simp
  | x :: l, N => by
    rw [List.foldl_cons]
    refine (foldT_perm l (insT N x)).trans ?_
    refine ((insT_perm N x).append_right l).trans ?_
    exact List.perm_middle.symm
theorem nodesOf_perm (l : List Tx) : (nodesOf l).Perm l := by have := foldT_perm l []; rwa [List.nil_append] at this
theorem nodesOf_mem (l : List Tx) (x : Tx) : x ∈ nodesOf l ↔ x ∈ l := (nodesOf_perm l).mem_iff
theorem nodesOf_len (l : List Tx) : (nodesOf l).length = l.length := (nodesOf_perm l).length_eq
theorem nodesOf_next {l : List Tx} {i : Nat} {x : Tx} (h : l[i]? = some x) : nodesOf (l.take (i + 1)) = insT (nodesOf (l.take i)) x := by
  unfold nodesOf
  rw [List.take_add_one, h, List.foldl_append]
  rfl
theorem nodup_next {l : List Tx} {i : Nat} {x : Tx} (h : l[i]? = some x) : (l.take (i + 1)).Nodup ↔ (l.take i).Nodup ∧ x ∉ l.take i := by
  rw [List.take_add_one, h, Option.toList_some, List.nodup_append]
  constructor
  · rintro ⟨h1, _, h3⟩
    exact ⟨h1, fun e => h3 x e x (by simp) rfl⟩
  · rintro ⟨h1, h2⟩
    exact ⟨h1, by simp, fun a ha b hb e => h2 (by rw [List.mem_singleton] at hb; rw [← hb, ← e]; exact ha)⟩
def newE (l : List Tx) (n : Int) : Int := if n < 1 ∨ 128 < n then 131 else if 64 < l.length ∨ (l.any fun s => !decide (1 ≤ s.length ∧ s.length ≤ 200)) = true then 130 else if l.Nodup then 0 else 132
theorem newE_copies {l : List Tx} {n : Int} (h : n < 1 ∨ 128 < n) : newE l n = 131 := if_pos h
theorem newE_nodes {l : List Tx} {n : Int} (h : ¬ (n < 1 ∨ 128 < n)) (h2 : 64 < l.length ∨ (l.any fun s => !decide (1 ≤ s.length ∧ s.length ≤ 200)) = true) : newE l n = 130 := by
  unfold newE; rw [if_neg h, if_pos h2]
theorem newE_there {l : List Tx} {n : Int} (h : ¬ (n < 1 ∨ 128 < n)) (h2 : ¬ (64 < l.length ∨ (l.any fun s => !decide (1 ≤ s.length ∧ s.length ≤ 200)) = true)) {i : Nat} {x : Tx} (hx : l[i]? = some x) (hm : x ∈ l.take i) : newE l n = 132 := by
  unfold newE; rw [if_neg h, if_neg h2, if_neg]
  intro hn
  have h1 : (l.take (i + 1)).Nodup := hn.sublist (List.take_sublist _ _)
  exact ((nodup_next hx).1 h1).2 hm
theorem newE_ok {l : List Tx} {n : Int} (h : ¬ (n < 1 ∨ 128 < n)) (h2 : ¬ (64 < l.length ∨ (l.any fun s => !decide (1 ≤ s.length ∧ s.length ≤ 200)) = true)) (hn : l.Nodup) : newE l n = 0 := by
  unfold newE; rw [if_neg h, if_neg h2, if_pos hn]
theorem newE_zero {l : List Tx} {n : Int} (h : newE l n = 0) : 1 ≤ n ∧ n ≤ 128 ∧ l.length ≤ 64 ∧ (∀ s ∈ l, 1 ≤ s.length ∧ s.length ≤ 200) ∧ l.Nodup := by
  unfold newE at h
  split at h
  · cases h
  · rename_i h1
    split at h
    · cases h
    · rename_i h2
      split at h
      · rename_i h3
        rw [not_or] at h1 h2
        refine ⟨by omega, by omega, by omega, fun s hs => ?_, h3⟩
        have h4 := h2.2
        rw [Bool.not_eq_true, List.any_eq_false] at h4
        have := h4 s hs
        cases hd : decide (1 ≤ s.length ∧ s.length ≤ 200) with
        | true => exact of_decide_eq_true hd
        | false => rw [hd] at this; exact absurd rfl this
      · cases h
/-- The first of what is picked, if any. -/
def getV (L : List Plc) (h : Nat) : Tx × Bool := match pickV L h 1 with
  | [] => ([], false)
  | x :: _ => (x, true)
end Go.Tum
