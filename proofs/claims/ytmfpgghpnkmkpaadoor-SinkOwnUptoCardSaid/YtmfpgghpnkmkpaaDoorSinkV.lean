/- The arguments of package sink's laws as lists. -/
import Derived.Test.YtmfpgghpnkmkpaaDoorSinkR
import Derived.Test.YtmfpgghpnkmkpaaDoorLaw2
import Derived.Test.YtmfpgghpnkmkpaaDoorSinkA
namespace Go.Proofs.YtmfpgghpnkmkpaaDoor
open Go.ChangeShapes Go.WideShapes Go.RowKit Go.Tum Go.Deep
set_option maxRecDepth 100000
section
variable {H : Type} {enc : TypeId × Value → H} {W : World}
theorem sk_cc : Tryd.prog.cellsOf 60 = 2 := by kernel_rfl
theorem sk_cf : Tryd.prog.cellsOf 32 = 2 := by kernel_rfl
theorem sk_ci : Tryd.prog.cellsOf 3 = 1 := by kernel_rfl
theorem sk_ci64 : Tryd.prog.cellsOf 2 = 1 := by kernel_rfl
theorem sk_cb : Tryd.prog.cellsOf 4 = 1 := by kernel_rfl
theorem sk_cs : Tryd.prog.cellsOf 30 = 1 := by kernel_rfl
theorem sk_cu : Tryd.prog.cellsOf 5 = 1 := by kernel_rfl
instance : Inhabited Value := ⟨.int .i64 0⟩
theorem arg_plan {base : Nat} {v : Value} {d : DataW H} {ps : List MemPlace} (hval : Value.okWide Tryd.prog W .any base 22 v) (h : DataW.Trod enc Tryd.prog W 0 (fun _ => true) true 22 v d ps) :
    ∃ plan : Plan, Rd W (Law.Old W) 2 v plan.length (planCells plan) ∧ plan.length + 1 ≤ Rows.uptoBulk d := by
  obtain ⟨fuel, h⟩ := Law.slice_cells Tryd.underlying22 hval h
  obtain ⟨l, h1, _, _, h2⟩ := Law.trod_pairs (α := Int × Bool) (fun a => .int .i64 a.1) (fun a => .bool a.2) (fun _ => 0) (fun _ => True) Tryd.underlying22 Tryd.underlying60 sk_cc rfl rfl sk_ci sk_cb (fun k u0 u1 y0 y1 g0 g1 => by
    obtain ⟨n, e0, _⟩ := DataW.trod_int Tryd.underlying3 g0
    obtain ⟨b, e1, _⟩ := DataW.trod_bool Tryd.underlying4 g1
    injection e0 with e0 _
    injection e1 with e1 _
    exact ⟨(n, b), e0, e1, trivial, Nat.zero_le _⟩) h
  exact ⟨l, h1, h2⟩
theorem arg_bytes {base : Nat} {v : Value} {d : DataW H} {ps : List MemPlace} (hval : Value.okWide Tryd.prog W .any base 30 v) (h : DataW.Trod enc Tryd.prog W 0 (fun _ => true) true 30 v d ps) :
    ∃ b : List UInt8, Rd W (Law.Old W) 1 v b.length (vbs b) ∧ b.length + 1 ≤ Rows.uptoBulk d := by
  obtain ⟨fuel, h⟩ := Law.slice_cells Tryd.underlying30 hval h
  exact Law.trod_bytes Tryd.underlying30 Tryd.underlying5 sk_cu h
theorem arg_frames {base : Nat} {v : Value} {d : DataW H} {ps : List MemPlace} (hval : Value.okWide Tryd.prog W .any base 23 v) (h : DataW.Trod enc Tryd.prog W 0 (fun _ => true) true 23 v d ps) :
    ∃ L : List (Int × Value × List UInt8), Rd W (Law.Old W) 2 v L.length (L.flatMap fun a => [.int .i64 a.1, a.2.1]) ∧ (∀ a ∈ L, Rd W (Law.Old W) 1 a.2.1 a.2.2.length (vbs a.2.2)) ∧ (L.map fun a => a.2.2.length + 1).sum + 1 ≤ Rows.uptoBulk d ∧ L.length + 1 ≤ Rows.uptoBulk d := by
  obtain ⟨fuel, h⟩ := Law.slice_cells Tryd.underlying23 hval h
  exact Law.trod_pairs (α := Int × Value × List UInt8) (fun a => .int .i64 a.1) (fun a => a.2.1) (fun a => a.2.2.length + 1) (fun a => Rd W (Law.Old W) 1 a.2.1 a.2.2.length (vbs a.2.2)) Tryd.underlying23 Tryd.underlying32 sk_cf rfl rfl sk_ci64 sk_cs (fun k u0 u1 y0 y1 g0 g1 => by
    obtain ⟨n, e0, _⟩ := DataW.trod_int Tryd.underlying2 g0
    obtain ⟨b, hb, hw⟩ := Law.trod_bytes Tryd.underlying30 Tryd.underlying5 sk_cu g1
    injection e0 with e0 _
    exact ⟨(n, u1, b), e0, rfl, hb, by dsimp only; omega⟩) h
theorem arg_frame {base : Nat} {v : Value} {d : DataW H} {ps : List MemPlace} (hval : Value.okWide Tryd.prog W .any base 32 v) (h : DataW.Trod enc Tryd.prog W 0 (fun _ => true) true 32 v d ps) :
    ∃ (n : Int) (u : Value) (b : List UInt8), v = .agg #[.int .i64 n, u] ∧ Rd W (Law.Old W) 1 u b.length (vbs b) ∧ b.length + 1 ≤ Rows.uptoBulk d := by
  obtain ⟨fuel, h⟩ := h
  unfold Value.okWide at hval
  simp only [Tryd.underlying32] at hval
  obtain ⟨cs, rfl, hsz, _⟩ := hval
  rw [sk_cf] at hsz
  obtain ⟨u0, u1, rfl⟩ : ∃ a b, cs = #[a, b] := by
    obtain ⟨l⟩ := cs
    match l, hsz with
    | [a, b], _ => exact ⟨a, b, rfl⟩
  obtain ⟨ys, k', _, hxy, hcl, hyl, hfl⟩ := DataW.trod_struct Tryd.underlying32 h
  match ys, hyl with
  | [y0, y1], _ =>
    have q0 := hfl 0 _ rfl
    have q1 := hfl 1 _ rfl
    simp [sk_ci64, sk_cs, Value.cells] at q0 q1
    obtain ⟨n, e0, _⟩ := DataW.trod_int Tryd.underlying2 q0
    obtain ⟨b, hb, hw⟩ := Law.trod_bytes Tryd.underlying30 Tryd.underlying5 sk_cu q1
    injection e0 with e0 _
    subst e0
    refine ⟨n, u1, b, rfl, hb, ?_⟩
    simp only [List.map_cons, List.map_nil, Prod.mk.injEq] at hxy
    rw [hxy.1]
    simp only [Rows.uptoBulk, Rows.uptoBulkAll]
    omega
theorem arg_rows {base : Nat} {v : Value} {d : DataW H} {ps : List MemPlace} (hval : Value.okWide Tryd.prog W .any base 49 v) (h : DataW.Trod enc Tryd.prog W 0 (fun _ => true) true 49 v d ps) :
    ∃ l : List (Value × List UInt8), Rd W (Law.Old W) 1 v l.length (l.map (·.1)) ∧ (∀ a ∈ l, Rd W (Law.Old W) 1 a.1 a.2.length (vbs a.2)) ∧ (l.map fun a => a.2.length + 1).sum + 1 ≤ Rows.uptoBulk d ∧ l.length + 1 ≤ Rows.uptoBulk d := by
  obtain ⟨fuel, h⟩ := Law.slice_cells Tryd.underlying49 hval h
  exact Law.trod_rows Tryd.underlying49 Tryd.underlying30 Tryd.underlying5 sk_cs sk_cu h
theorem arg_ints {base : Nat} {v : Value} {d : DataW H} {ps : List MemPlace} (hval : Value.okWide Tryd.prog W .any base 58 v) (h : DataW.Trod enc Tryd.prog W 0 (fun _ => true) true 58 v d ps) :
    ∃ l : List Int, Rd W (Law.Old W) 1 v l.length (l.map fun n => .int .i64 n) ∧ (∀ n ∈ l, (Lit.int .i64 n).wf = true) ∧ l.length + 1 ≤ Rows.uptoBulk d := by
  obtain ⟨fuel, h⟩ := Law.slice_cells Tryd.underlying58 hval h
  obtain ⟨l, h1, h2, _, h3⟩ := Law.trod_ones (α := Int) (fun n => .int .i64 n) (fun _ => 0) (fun n => (Lit.int .i64 n).wf = true) Tryd.underlying58 sk_ci (fun k u y g => by
    obtain ⟨n, e0, _, hw⟩ := DataW.trod_int Tryd.underlying3 g
    injection e0 with e0 _
    exact ⟨n, e0, hw, Nat.zero_le _⟩) h
  exact ⟨l, h1, h2, h3⟩
end
end Go.Proofs.YtmfpgghpnkmkpaaDoor
