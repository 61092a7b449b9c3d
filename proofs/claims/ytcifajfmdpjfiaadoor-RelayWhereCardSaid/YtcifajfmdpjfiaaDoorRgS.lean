/- The law's helper without; the law RingPicks, walked. -/
import Derived.Test.YtcifajfmdpjfiaaDoorRgP
import Derived.Test.YtcifajfmdpjfiaaDoorMPl
namespace Go.Proofs.YtcifajfmdpjfiaaDoor
open Go.RowKit Go.Tum Go.Lib Go.Sort
set_option maxRecDepth 100000

structure WoI (w wr : World) (l : List Tx) (s : Tx) (i : Nat) (v : Value) : Prop where
  own : Own wr (fun g => w.heap.size ≤ g) 9 1 v (less1 (l.take i) s).length ((less1 (l.take i) s).map ks)
  hm : Mods No w wr
theorem less1_next {l : List Tx} {s : Tx} {i : Nat} {x : Tx} (h : l[i]? = some x) : less1 (l.take (i + 1)) s = if x = s then less1 (l.take i) s else less1 (l.take i) s ++ [x] := by
  unfold less1
  rw [take_nx h, List.filter_append, List.filter_cons]
  by_cases e : x = s <;> simp [e]
theorem WoI.stay {w wr : World} {l : List Tx} {s : Tx} {i : Nat} {v : Value} (h : WoI w wr l s i v) {x : Tx} (hx : l[i]? = some x) (e : x = s) : WoI w wr l s (i + 1) v := by
  have h1 := less1_next (s := s) hx
  rw [if_pos e] at h1
  exact ⟨by rw [h1]; exact h.own, h.hm⟩
theorem WoI.more {w wr w3 : World} {l : List Tx} {s : Tx} {i : Nat} {v u : Value} (h : WoI w wr l s i v) {x : Tx} (hx : l[i]? = some x) (e : ¬ x = s) {acc : List Tx} (hacc : acc = less1 (l.take i) s) {wx : World} (hm : Mods No wr wx)
    (h3 : Own w3 (fun k => v.ownBlock = some k ∨ k = wx.heap.size) 9 1 u (acc.length + 1) (acc.map ks ++ [ks x])) (hm3 : Mods (fun k => v.ownBlock = some k) wx w3) : WoI w w3 l s (i + 1) u := by
  subst hacc
  have h1 := less1_next (s := s) hx
  rw [if_neg e] at h1
  have hsz := Nat.le_trans h.hm.size hm.size
  refine ⟨?_, (h.hm.trans hm fun _ _ e => e).trans hm3 fun k hk e => absurd hk (Nat.not_lt.2 (h.own.2 k e))⟩
  rw [h1, List.map_append, List.length_append]
  refine h3.more fun g hg => ?_
  rcases hg with e | e
  · exact h.own.2 g e
  · exact e ▸ hsz
end Go.Proofs.YtcifajfmdpjfiaaDoor
