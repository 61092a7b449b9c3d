/- Arguments as lists: how long a slice is, within the form's reach. -/
import Derived.Test.YtilkepmmkhmghaaDoorLaw2
namespace Go.Proofs.YtilkepmmkhmghaaDoor.Law
open Go.ChangeShapes Go.WideShapes Go.RowKit Go.Tum Go.Deep
variable {H : Type} {enc : TypeId × Value → H} {P : Program} {W : World}
theorem trod_bytes_len {t e : TypeId} {size fuel n : Nat} {xs : List Value} {F : Nat → Prop} {v : Value} {x : DataW H × List MemPlace} (ht : P.underlying t = some (.slice e)) (h : DataW.trod enc P W 0 (fun _ => true) true fuel t [v] = some x) (hw : Wok P t x.1) (hr : Rd W F size v n xs) : n * P.bytesOf e ≤ reachBytes := by
  obtain ⟨A, c, rfl, _, _⟩ := hr.form
  rcases open_slice ht h with ⟨e1, rfl⟩ | ⟨a, len, cap, m, k, D, Pl, e1, _, hl, hm, hmm, rfl, hx⟩
  · injection e1 with e1
    injection e1 with e1 e2
    subst e2
    simp
  · injection e1 with e1
    injection e1 with e1 e2 e3
    subst e2
    have h1 := hw _ (by simp only [DataW.weights, ht]; exact List.mem_cons_self)
    refine Nat.le_trans (Nat.mul_le_mul_right _ ?_) h1
    simp
end Go.Proofs.YtilkepmmkhmghaaDoor.Law
