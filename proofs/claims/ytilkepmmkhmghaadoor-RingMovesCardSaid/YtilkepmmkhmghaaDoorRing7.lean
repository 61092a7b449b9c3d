/- A ring in plain Lean: a list without a text. No program here. -/
import Derived.Test.YtilkepmmkhmghaaDoorRing6
namespace Go.Tum
abbrev less1 (l : List Tx) (s : Tx) : List Tx := l.filter fun x => !decide (x = s)
theorem less1_not {l : List Tx} {s : Tx} (h : s ∉ l) : less1 l s = l := List.filter_eq_self.2 fun x hx => by
  have : x ≠ s := fun e => h (e ▸ hx)
  simp [this]
theorem less1_take {A : List Tx} (hA : A.Nodup) {i : Nat} {x : Tx} (hx : A[i]? = some x) : less1 (A.take i) x = A.take i := by
  refine less1_not fun h => ?_
  have h1 : (A.take (i + 1)).Nodup := hA.sublist (List.take_sublist _ _)
  exact ((nodup_next hx).1 h1).2 h
theorem less1_len : ∀ {l : List Tx} {x : Tx}, l.Nodup → x ∈ l → (less1 l x).length + 1 = l.length
  | y :: l, x, hn, hx => by
    rw [List.nodup_cons] at hn
    by_cases e : y = x
    · subst e
      have h1 := less1_not hn.1
      unfold less1 at h1 ⊢
      rw [List.filter_cons]
      simp only [decide_true, Bool.not_true, Bool.false_eq_true, if_false, h1, List.length_cons]
    · have hx' : x ∈ l := by
        rcases List.mem_cons.1 hx with h | h
        · exact absurd h.symm e
        · exact h
      have h1 := less1_len hn.2 hx'
      unfold less1 at h1 ⊢
      rw [List.filter_cons]
      simp only [e, decide_false, Bool.not_false, if_true, List.length_cons, h1]
theorem allV_nodup (L : List Plc) (h : Nat) : (allV L h).Nodup := dd_nodup _ _ List.nodup_nil
end Go.Tum
