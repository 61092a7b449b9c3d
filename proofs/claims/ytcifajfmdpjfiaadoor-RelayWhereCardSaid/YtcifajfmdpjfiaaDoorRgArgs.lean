/- The arguments of package tumblerlaw13's statements as lists. -/
import Derived.Test.YtcifajfmdpjfiaaDoorRgR
import Derived.ChangeMaps5
namespace Go.Proofs.YtcifajfmdpjfiaaDoor
open Go.ChangeShapes Go.WideShapes Go.RowKit Go.Tum Go.Deep
theorem ks_of (s : ByteArray) : Value.string s = ks s.data.toList := by cases s; simp [ks]
set_option maxRecDepth 100000 in
theorem arg_texts {H : Type} {enc : TypeId × Value → H} {W : World} {base : Nat} {v : Value} {d : DataW H} {ps : List MemPlace} (hval : Value.okWide Tryd.prog W .any base 22 v) (h : DataW.Trod enc Tryd.prog W 0 (fun _ => true) true 22 v d ps) :
    ∃ l : List Tx, Rd W (Law.Old W) 1 v l.length (l.map ks) := by
  obtain ⟨fuel, h⟩ := Law.slice_cells Tryd.underlying22 hval h
  obtain ⟨l, h1, _⟩ := Law.trod_ones (α := Tx) ks (fun _ => 0) (fun _ => True) Tryd.underlying22 (by kernel_rfl) (fun k u y hy => by
    obtain ⟨s, e0, rfl, hs⟩ := DataW.trod_string Tryd.underlying9 hy
    injection e0 with e0
    subst e0
    exact ⟨s.data.toList, ks_of s, trivial, Nat.zero_le _⟩) h
  exact ⟨l, h1⟩
end Go.Proofs.YtcifajfmdpjfiaaDoor
