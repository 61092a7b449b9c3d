/- The arguments of package tumblerlaw07's statements as lists. -/
import Derived.Test.YtmfpgghpnkmkpaaDueI
namespace Go.Proofs.Ytmfpgghpnkmkpaa
open Go.ChangeShapes Go.WideShapes Go.RowKit Go.Tum Go.Deep
theorem ks_bytes (s : ByteArray) : Value.string s = ks s.data.toList := by cases s; simp [ks]
set_option maxRecDepth 100000 in
theorem arg_ents {H : Type} {enc : TypeId × Value → H} {W : World} {base : Nat} {v : Value} {d : DataW H} {ps : List MemPlace} (hval : Value.okWide Try.prog W .any base 22 v) (h : DataW.Trod enc Try.prog W 0 (fun _ => true) true 22 v d ps) (hw : Law.Wok Try.prog 22 d) :
    ∃ l : List Ent, Rd W (Law.Old W) 2 v l.length (entsL l) ∧ ∀ a ∈ l, a.1.length ≤ reachBytes := by
  obtain ⟨fuel, h⟩ := Law.slice_cells Try.underlying22 hval h
  haveI : Inhabited Ent := ⟨([], 0)⟩
  obtain ⟨l, h1, h2, _⟩ := Law.trod_pairsW (α := Ent) (fun a => ks a.1) (fun a => .int .i64 a.2) (fun _ => 0) (fun a => a.1.length ≤ reachBytes) Try.underlying22 Try.underlying29 (by kernel_rfl) rfl rfl (by kernel_rfl) (by kernel_rfl)
    (fun k u0 u1 y0 y1 h0 h1 w0 w1 => by
      obtain ⟨s, e0, rfl, hs⟩ := DataW.trod_string Try.underlying9 h0
      obtain ⟨n, e1, _, _⟩ := DataW.trod_int Try.underlying2 h1
      injection e0 with e0
      injection e1 with e1
      subst e0 e1
      exact ⟨(s.data.toList, n), ks_bytes s, rfl, Law.wok_string w0, Nat.zero_le _⟩) h hw
  exact ⟨l, h1, h2⟩
end Go.Proofs.Ytmfpgghpnkmkpaa
