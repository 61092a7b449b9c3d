/- The law's helper alive. -/
import Derived.Test.YtcifajfmdpjfiaaDoorRgO
import Derived.Test.YtcifajfmdpjfiaaDoorMPl
namespace Go.Proofs.YtcifajfmdpjfiaaDoor
open Go.RowKit Go.Tum Go.Lib Go.Sort
set_option maxRecDepth 100000
theorem _root_.Go.Tum.Own.rdlt {w : World} {F : Nat → Prop} {e : TypeId} {size n : Nat} {v : Value} {xs : List Value} (h : Tum.Own w F e size v n xs) : Rd w (fun g => g < w.heap.size) size v n xs := Rd.of_own h.1 fun g hg => Tum.Own.lt h g hg
theorem _root_.Go.Tum.Rd.keep {w w' : World} {size n : Nat} {v : Value} {xs : List Value} (h : Rd w (fun g => g < w.heap.size) size v n xs) (hm : Mods No w w') : Rd w' (fun g => g < w'.heap.size) size v n xs :=
  (h.same (hm.same fun _ hk => ⟨hk, fun e => e⟩)).more fun _ e => Nat.lt_of_lt_of_le e hm.size
theorem _root_.Go.Tum.Rd.boxlt (w : World) (cs : Array Value) (e : TypeId) {n size : Nat} (hl : cs.size = n * size) (hm : n ≤ maxLen) : Rd (w.alloc (.cells cs e)) (fun g => g < (w.alloc (.cells cs e)).heap.size) size (.slice (some ⟨w.heap.size, 0, none⟩) n n) n cs.toList :=
  (Rd.box w cs e rfl hl hm).more fun g hg => by subst hg; rw [World.size_alloc]; omega
theorem new_ok {w w' : World} {l : List Tx} {n : Int} {v : Value} (h : NewIs w w' l n v) (he : newE l n = 0) : ∃ q, v = .tuple #[(.pointer (some ⟨q, 0, none⟩)), .int .i64 0] ∧ RingK w' q n.toNat (nodesOf l) (fun g => w.heap.size ≤ g) ∧ Mods No w w' := by
  obtain ⟨p, rfl, hm, _, h2⟩ := h
  obtain ⟨q, rfl, hr⟩ := h2 he
  exact ⟨q, by rw [he], hr, hm⟩
end Go.Proofs.YtcifajfmdpjfiaaDoor
