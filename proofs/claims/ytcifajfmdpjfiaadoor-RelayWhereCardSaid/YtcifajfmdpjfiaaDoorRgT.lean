/- The law RingPicks, walked. -/
import Derived.Test.YtcifajfmdpjfiaaDoorRgS
namespace Go.Proofs.YtcifajfmdpjfiaaDoor
open Go.RowKit Go.Tum Go.Lib Go.Sort
set_option maxRecDepth 100000
def LenIs (n : Nat) (v : Value) : Prop := ∃ A c, v = .slice A n c
theorem LenIs.own {w : World} {F : Nat → Prop} {e : TypeId} {size n m : Nat} {v : Value} {xs : List Value} (h : Own w F e size v n xs) (hm : n = m) : LenIs m v := by
  subst hm
  obtain ⟨A, c, rfl, _, _⟩ := h.form
  exact ⟨A, c, rfl⟩
theorem new_bad {w w' : World} {l : List Tx} {n : Int} {v : Value} (h : NewIs w w' l n v) {e : Int} (he : e = newE l n) (h0 : e ≠ 0) : v = .tuple #[.pointer none, .int .i64 e] ∧ Mods No w w' := by
  subst he
  obtain ⟨p, rfl, hm, h1, _⟩ := h
  exact ⟨by rw [h1 h0], hm⟩
/-- All nodes of a key. -/
theorem pickAll_K (w : World) (q c : Nat) (N : List Tx) (s : Tx) (F : Nat → Prop) (h : RingK w q c N F) (hsl : s.length ≤ maxLen) {A : List Tx} (hA : A = allV (placesOf c N) (fnv64 s)) :
    Calls Tryd.prog 31 #[(.pointer (some ⟨q, 0, none⟩)), ks s, .int .i64 64] w (Ret fun v w' => Own w' (fun g => w.heap.size ≤ g) 9 1 v A.length (A.map ks) ∧ Mods No w w') := by
  have h1 := pick_K w q c N s 64 F h hsl
  have hl : A.length ≤ 64 := by rw [hA, (allV_perm h.1.c1 (h.1.strict.nodup sto_T) _).length_eq]; exact h.1.small
  rw [pick_take, ← hA, show ((64 : Int).toNat) = 64 from rfl, List.take_of_length_le hl] at h1
  exact h1
theorem pickSome_K (w : World) (q c : Nat) (N : List Tx) (s : Tx) (n : Int) (F : Nat → Prop) (h : RingK w q c N F) (hsl : s.length ≤ maxLen) {A : List Tx} (hA : A = allV (placesOf c N) (fnv64 s)) {m : Nat} (hm : m = min n.toNat A.length) :
    Calls Tryd.prog 31 #[(.pointer (some ⟨q, 0, none⟩)), ks s, .int .i64 n] w (Ret fun v w' => Own w' (fun g => w.heap.size ≤ g) 9 1 v m ((A.take m).map ks) ∧ Mods No w w') := by
  have h1 := pick_K w q c N s n F h hsl
  have h2 : A.take n.toNat = A.take m := by
    subst hm
    rcases Nat.le_total n.toNat A.length with e | e
    · rw [Nat.min_eq_left e]
    · rw [Nat.min_eq_right e, List.take_of_length_le e, List.take_length]
  have h3 : (A.take m).length = m := by rw [List.length_take, hm]; omega
  rw [pick_take, ← hA, h2, h3] at h1
  exact h1
end Go.Proofs.YtcifajfmdpjfiaaDoor
