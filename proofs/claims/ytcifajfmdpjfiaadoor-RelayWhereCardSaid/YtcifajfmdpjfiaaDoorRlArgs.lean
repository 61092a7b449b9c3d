/- The arguments of package tumblerlaw24's statements: records, calls on a relay, settings. -/
import Derived.Test.YtcifajfmdpjfiaaDoorRgArgs
import Derived.Test.YtcifajfmdpjfiaaDoorRlA
import Derived.Test.YtcifajfmdpjfiaaDoorMLw
namespace Go.Proofs.YtcifajfmdpjfiaaDoor
open Go.ChangeShapes Go.WideShapes Go.RowKit Go.Tum Go.Deep
set_option maxRecDepth 100000
section
variable {H : Type} {enc : TypeId × Value → H} {W : World}
/-- A struct's field read. -/
theorem field_read {ys : List (DataW H × List MemPlace)} {i k1 n off : Nat} {t : TypeId} {cs : List Value} (hf : DataW.trod enc Tryd.prog W 0 (fun _ => true) true k1 t ((cs.drop off).take (Tryd.prog.cellsOf t)) = ys[i]?) (hc : Tryd.prog.cellsOf t = n) (hi : i < ys.length) :
    ∃ y, ys[i]? = some y ∧ DataW.trod enc Tryd.prog W 0 (fun _ => true) true k1 t ((cs.drop off).take n) = some y := by
  subst hc
  exact ⟨ys[i], List.getElem?_eq_getElem hi, hf.trans (List.getElem?_eq_getElem hi)⟩
theorem co_string : Tryd.prog.cellsOf 9 = 1 := by kernel_rfl
theorem co_int : Tryd.prog.cellsOf 3 = 1 := by kernel_rfl
theorem co_int64 : Tryd.prog.cellsOf 2 = 1 := by kernel_rfl
theorem co_uint64 : Tryd.prog.cellsOf 41 = 1 := by kernel_rfl
theorem co_bool : Tryd.prog.cellsOf 4 = 1 := by kernel_rfl
theorem co_texts : Tryd.prog.cellsOf 22 = 1 := by kernel_rfl
theorem co_wide : Tryd.prog.cellsOf 43 = 2 := by kernel_rfl
theorem co_rec : Tryd.prog.cellsOf 45 = 4 := by kernel_rfl
theorem co_op : Tryd.prog.cellsOf 61 = 7 := by kernel_rfl
theorem co_conf : Tryd.prog.cellsOf 26 = 5 := by kernel_rfl
theorem len4 {α : Type} {l : List α} (h : l.length = 4) : ∃ a b c d, l = [a, b, c, d] := by
  match l, h with
  | [a, b, c, d], _ => exact ⟨a, b, c, d, rfl⟩
theorem len2 {α : Type} {l : List α} (h : l.length = 2) : ∃ a b, l = [a, b] := by
  match l, h with
  | [a, b], _ => exact ⟨a, b, rfl⟩
theorem len7 {α : Type} {l : List α} (h : l.length = 7) : ∃ a b c d e f g, l = [a, b, c, d, e, f, g] := by
  match l, h with
  | [a, b, c, d, e, f, g], _ => exact ⟨a, b, c, d, e, f, g, rfl⟩
theorem len5 {α : Type} {l : List α} (h : l.length = 5) : ∃ a b c d e, l = [a, b, c, d, e] := by
  match l, h with
  | [a, b, c, d, e], _ => exact ⟨a, b, c, d, e, rfl⟩
theorem cells_wide {k : Nat} {cs : List Value} {y : DataW H × List MemPlace} (h : DataW.trod enc Tryd.prog W 0 (fun _ => true) true k 43 cs = some y) : ∃ a b : Int, cs = [.int .i64 a, .int .u64 b] := by
  obtain ⟨ys, k1, rfl, _, hl, hy, hf⟩ := DataW.trod_struct Tryd.underlying43 h
  rw [co_wide] at hl
  obtain ⟨a, b, rfl⟩ := len2 hl
  have hy2 : ys.length = 2 := hy
  obtain ⟨y0, _, h0⟩ := field_read (t := 2) (off := 0) (hf 0 _ rfl) co_int64 (by omega)
  obtain ⟨y1, _, h1⟩ := field_read (t := 41) (off := 1) (hf 1 _ rfl) co_uint64 (by omega)
  obtain ⟨m, e0, _⟩ := DataW.trod_int Tryd.underlying2 h0
  obtain ⟨n, e1, _⟩ := DataW.trod_int Tryd.underlying41 h1
  have e0 : [a] = _ := e0
  have e1 : [b] = _ := e1
  injection e0 with e0
  injection e1 with e1
  exact ⟨m, n, by rw [e0, e1]⟩
/-- A record's four cells. -/
theorem cells_rec {k : Nat} {cs : List Value} {y : DataW H × List MemPlace} (h : DataW.trod enc Tryd.prog W 0 (fun _ => true) true k 45 cs = some y) : ∃ x : Rcd, cs = rc x ∧ (Law.Wok Tryd.prog 45 y.1 → x.1.length ≤ reachBytes) := by
  obtain ⟨ys, k1, rfl, rfl, hl, hy, hf⟩ := DataW.trod_struct Tryd.underlying45 h
  rw [co_rec] at hl
  obtain ⟨a, b, c, d, rfl⟩ := len4 hl
  have hy2 : ys.length = 3 := hy
  obtain ⟨y0, g0, h0⟩ := field_read (t := 9) (off := 0) (hf 0 _ rfl) co_string (by omega)
  obtain ⟨y1, _, h1⟩ := field_read (t := 43) (off := 1) (hf 1 _ rfl) co_wide (by omega)
  obtain ⟨y2, _, h2⟩ := field_read (t := 2) (off := 3) (hf 2 _ rfl) co_int64 (by omega)
  obtain ⟨s, e0, rfl, _⟩ := DataW.trod_string Tryd.underlying9 h0
  obtain ⟨m, n, e1⟩ := cells_wide h1
  obtain ⟨t, e2, _⟩ := DataW.trod_int Tryd.underlying2 h2
  have e1' : [b, c] = [.int .i64 m, .int .u64 n] := e1
  have e0 : [a] = _ := e0
  have e2 : [d] = _ := e2
  injection e0 with e0
  injection e1' with e3 e1'
  injection e1' with e4
  injection e2 with e2
  refine ⟨(s.data.toList, m, n, t), by rw [e0, e3, e4, e2]; show _ = [ks s.data.toList, _, _, _]; rw [← ks_of], fun hw => ?_⟩
  exact Law.wok_string (Law.wok_part (j := 0) Tryd.underlying45 hw rfl (by rw [List.getElem?_map, g0]; rfl))
/-- A call's seven cells. -/
abbrev OpA := Int × Rcd × Tx × Int
def opc (o : OpA) : List Value := [.int .i64 o.1, ks o.2.1.1, .int .i64 o.2.1.2.1, .int .u64 o.2.1.2.2.1, .int .i64 o.2.1.2.2.2, ks o.2.2.1, .int .i64 o.2.2.2]
theorem opc_len (o : OpA) : (opc o).length = 7 := rfl
theorem cells_op {k : Nat} {cs : List Value} {y : DataW H × List MemPlace} (h : DataW.trod enc Tryd.prog W 0 (fun _ => true) true k 61 cs = some y) :
    ∃ o : OpA, cs = opc o ∧ (Law.Wok Tryd.prog 61 y.1 → o.2.1.1.length ≤ reachBytes ∧ o.2.2.1.length ≤ reachBytes) := by
  obtain ⟨ys, k1, rfl, rfl, hl, hy, hf⟩ := DataW.trod_struct Tryd.underlying61 h
  rw [co_op] at hl
  obtain ⟨a, b, c, d, e, f, g, rfl⟩ := len7 hl
  have hy2 : ys.length = 4 := hy
  obtain ⟨y0, _, h0⟩ := field_read (t := 3) (off := 0) (hf 0 _ rfl) co_int (by omega)
  obtain ⟨y1, g1, h1⟩ := field_read (t := 45) (off := 1) (hf 1 _ rfl) co_rec (by omega)
  obtain ⟨y2, g2, h2⟩ := field_read (t := 9) (off := 5) (hf 2 _ rfl) co_string (by omega)
  obtain ⟨y3, _, h3⟩ := field_read (t := 3) (off := 6) (hf 3 _ rfl) co_int (by omega)
  obtain ⟨kd, e0, _⟩ := DataW.trod_int Tryd.underlying3 h0
  obtain ⟨x, e1, hx⟩ := cells_rec h1
  obtain ⟨s, e2, rfl, _⟩ := DataW.trod_string Tryd.underlying9 h2
  obtain ⟨n, e3, _⟩ := DataW.trod_int Tryd.underlying3 h3
  have e1' : [b, c, d, e] = rc x := e1
  have e0 : [a] = _ := e0
  have e2 : [f] = _ := e2
  have e3 : [g] = _ := e3
  injection e0 with e0
  injection e2 with e2
  injection e3 with e3
  refine ⟨(kd, x, s.data.toList, n), ?_, fun hw => ⟨?_, ?_⟩⟩
  · show [a, b, c, d, e, f, g] = [Value.int .i64 kd] ++ rc x ++ [ks s.data.toList, .int .i64 n]
    rw [← e1', e0, e2, e3, ← ks_of]; rfl
  · exact hx (Law.wok_part (j := 1) Tryd.underlying61 hw rfl (by rw [List.getElem?_map, g1]; rfl))
  · exact Law.wok_string (Law.wok_part (j := 2) Tryd.underlying61 hw rfl (by rw [List.getElem?_map, g2]; rfl))
/-- A struct argument is a row of cells. -/
theorem arg_struct {base : Nat} {t : TypeId} {fs : Array Field} {v : Value} {d : DataW H} {ps : List MemPlace} (ht : Tryd.prog.underlying t = some (.struct fs)) (hval : Value.okWide Tryd.prog W .any base t v) (h : DataW.Trod enc Tryd.prog W 0 (fun _ => true) true t v d ps) :
    ∃ (cs : List Value) (k : Nat), v = .agg cs.toArray ∧ DataW.trod enc Tryd.prog W 0 (fun _ => true) true k t cs = some (d, ps) := by
  unfold Value.okWide at hval
  rw [ht] at hval
  obtain ⟨cs, rfl, _, _⟩ := hval
  obtain ⟨k, h⟩ := h
  exact ⟨cs.toList, k, by simp, h⟩
theorem arg_op {base : Nat} {v : Value} {d : DataW H} {ps : List MemPlace} (hval : Value.okWide Tryd.prog W .any base 61 v) (h : DataW.Trod enc Tryd.prog W 0 (fun _ => true) true 61 v d ps) : ∃ o : OpA, v = .agg (opc o).toArray := by
  obtain ⟨cs, k, rfl, h2⟩ := arg_struct Tryd.underlying61 hval h
  obtain ⟨o, rfl, _⟩ := cells_op h2
  exact ⟨o, rfl⟩
theorem flat_of {α : Type} {enc1 : α → List Value} {size n : Nat} (hk : ∀ a, (enc1 a).length = size) (hs : 0 < size) {xs : List Value} (hx : xs.length = n * size) {f : Nat → α} (hf : ∀ i, i < n → (xs.drop (i * size)).take size = enc1 (f i)) : xs = ((List.range n).map f).flatMap enc1 := by
  apply List.ext_getElem?
  intro t
  have hq : t / size * size + t % size = t := by rw [Nat.mul_comm]; exact Nat.div_add_mod t size
  have hr : t % size < size := Nat.mod_lt t hs
  have h1 := flatMap_get hk ((List.range n).map f) (t / size) (t % size) hr
  rw [hq] at h1
  rw [h1]
  rcases Nat.lt_or_ge (t / size) n with h | h
  · rw [List.getElem?_map, List.getElem?_range h]
    show _ = (enc1 (f (t / size)))[t % size]?
    rw [← hf _ h, List.getElem?_take_of_lt hr, List.getElem?_drop, hq]
  · rw [List.getElem?_eq_none (by
      have := Nat.mul_le_mul_right size h
      omega)]
    rw [List.getElem?_eq_none (l := (List.range n).map f) (by simpa using h)]
    rfl
/-- A slice whose elements read as 'enc1' writes them. -/
theorem trod_each {α : Type} [Inhabited α] (enc1 : α → List Value) (good : α → Prop) {size fuel : Nat} {t e : TypeId} (hk : ∀ a, (enc1 a).length = size) (hs : 0 < size) (ht : Tryd.prog.underlying t = some (.slice e)) (hc : Tryd.prog.cellsOf e = size)
    (hread : ∀ (k : Nat) (cs : List Value) (y : DataW H × List MemPlace), DataW.trod enc Tryd.prog W 0 (fun _ => true) true k e cs = some y → Law.Wok Tryd.prog e y.1 → ∃ a, cs = enc1 a ∧ good a)
    {v : Value} {x : DataW H × List MemPlace} (hw : Law.Wok Tryd.prog t x.1) (h : DataW.trod enc Tryd.prog W 0 (fun _ => true) true fuel t [v] = some x) : ∃ l : List α, Rd W (Law.Old W) size v l.length (l.flatMap enc1) ∧ ∀ a ∈ l, good a := by
  obtain ⟨n, xs, D, Pl, k, hr, _, hx, hwk⟩ := Law.trod_rdW ht hc hs h
  obtain ⟨f, hf⟩ := choose_lt (α := α) (n := n) (p := fun i a => (xs.drop (i * size)).take size = enc1 a ∧ good a) fun i hi => hread k _ _ (hx i hi) (hwk hw i hi)
  have e := flat_of hk hs hr.1 fun i hi => (hf i hi).1
  refine ⟨(List.range n).map f, ?_, fun a ha => ?_⟩
  · rw [← e, List.length_map, List.length_range]; exact hr
  · obtain ⟨i, hi, rfl⟩ := List.mem_map.1 ha
    exact (hf i (List.mem_range.1 hi)).2
/-- A slice argument is one cell. -/
theorem arg_recs {base : Nat} {v : Value} {d : DataW H} {ps : List MemPlace} (hval : Value.okWide Tryd.prog W .any base 23 v) (hw : Law.Wok Tryd.prog 23 d) (h : DataW.Trod enc Tryd.prog W 0 (fun _ => true) true 23 v d ps) :
    ∃ l : List Rcd, Rd W (Law.Old W) 4 v l.length (rcs l) ∧ (∀ x ∈ l, x.1.length ≤ reachBytes) ∧ l.length * 40 ≤ reachBytes := by
  obtain ⟨fuel, h⟩ := Law.slice_cells Tryd.underlying23 hval h
  obtain ⟨l, h1, h2⟩ := trod_each rc (fun x => x.1.length ≤ reachBytes) rc_len (by decide) Tryd.underlying23 co_rec (fun k cs y hy hw => by
    obtain ⟨x, e, h⟩ := cells_rec hy
    exact ⟨x, e, h hw⟩) hw h
  have hl := Law.trod_bytes_len Tryd.underlying23 h hw h1
  rw [show Tryd.prog.bytesOf 45 = 40 by kernel_rfl] at hl
  exact ⟨l, h1, h2, hl⟩
theorem arg_ops {base : Nat} {v : Value} {d : DataW H} {ps : List MemPlace} (hval : Value.okWide Tryd.prog W .any base 59 v) (hw : Law.Wok Tryd.prog 59 d) (h : DataW.Trod enc Tryd.prog W 0 (fun _ => true) true 59 v d ps) :
    ∃ l : List OpA, Rd W (Law.Old W) 7 v l.length (l.flatMap opc) ∧ (∀ o ∈ l, o.2.1.1.length ≤ reachBytes ∧ o.2.2.1.length ≤ reachBytes) ∧ l.length * 72 ≤ reachBytes := by
  obtain ⟨fuel, h⟩ := Law.slice_cells Tryd.underlying59 hval h
  obtain ⟨l, h1, h2⟩ := trod_each opc (fun o => o.2.1.1.length ≤ reachBytes ∧ o.2.2.1.length ≤ reachBytes) opc_len (by decide) Tryd.underlying59 co_op (fun k cs y hy hw => by
    obtain ⟨x, e, h⟩ := cells_op hy
    exact ⟨x, e, h hw⟩) hw h
  have hl := Law.trod_bytes_len Tryd.underlying59 h hw h1
  rw [show Tryd.prog.bytesOf 61 = 72 by kernel_rfl] at hl
  exact ⟨l, h1, h2, hl⟩
/-- Settings: five cells, the first of them a list of texts. -/
theorem arg_conf {base : Nat} {v : Value} {d : DataW H} {ps : List MemPlace} (hval : Value.okWide Tryd.prog W .any base 26 v) (h : DataW.Trod enc Tryd.prog W 0 (fun _ => true) true 26 v d ps) :
    ∃ (vn : Value) (nodes : List Tx) (C R K : Int) (nw : Bool), v = .agg #[vn, .int .i64 C, .int .i64 R, .int .i64 K, .bool nw] ∧ Rd W (Law.Old W) 1 vn nodes.length (nodes.map ks) := by
  obtain ⟨cs, k, rfl, h2⟩ := arg_struct Tryd.underlying26 hval h
  obtain ⟨ys, k1, rfl, _, hl, hy, hf⟩ := DataW.trod_struct Tryd.underlying26 h2
  rw [co_conf] at hl
  obtain ⟨a, b, c, e, f, rfl⟩ := len5 hl
  have hy2 : ys.length = 5 := hy
  obtain ⟨y0, _, h0⟩ := field_read (t := 22) (off := 0) (hf 0 _ rfl) co_texts (by omega)
  obtain ⟨y1, _, h1⟩ := field_read (t := 3) (off := 1) (hf 1 _ rfl) co_int (by omega)
  obtain ⟨y2, _, h2'⟩ := field_read (t := 3) (off := 2) (hf 2 _ rfl) co_int (by omega)
  obtain ⟨y3, _, h3⟩ := field_read (t := 3) (off := 3) (hf 3 _ rfl) co_int (by omega)
  obtain ⟨y4, _, h4⟩ := field_read (t := 4) (off := 4) (hf 4 _ rfl) co_bool (by omega)
  obtain ⟨C, e1, _⟩ := DataW.trod_int Tryd.underlying3 h1
  obtain ⟨R, e2, _⟩ := DataW.trod_int Tryd.underlying3 h2'
  obtain ⟨K, e3, _⟩ := DataW.trod_int Tryd.underlying3 h3
  obtain ⟨nw, e4, _⟩ := DataW.trod_bool Tryd.underlying4 h4
  have e1 : [b] = _ := e1
  have e2 : [c] = _ := e2
  have e3 : [e] = _ := e3
  have e4 : [f] = _ := e4
  injection e1 with e1
  injection e2 with e2
  injection e3 with e3
  injection e4 with e4
  have h0' : DataW.trod enc Tryd.prog W 0 (fun _ => true) true k1 22 [a] = some y0 := h0
  obtain ⟨l, h5, _⟩ := Law.trod_ones (α := Tx) ks (fun _ => 0) (fun _ => True) Tryd.underlying22 (by kernel_rfl) (fun k u y hy => by
    obtain ⟨s, e0, rfl, hs⟩ := DataW.trod_string Tryd.underlying9 hy
    injection e0 with e0
    subst e0
    exact ⟨s.data.toList, ks_of s, trivial, Nat.zero_le _⟩) h0'
  exact ⟨a, l, C, R, K, nw, by rw [e1, e2, e3, e4], h5⟩
end
end Go.Proofs.YtcifajfmdpjfiaaDoor
