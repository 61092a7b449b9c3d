/- More arguments as lists: slices of structs with two fields, slices of slices of bytes, slices of integers. -/
import Derived.Test.YtilkepmmkhmghaaDoorLaw
namespace Go.Proofs.YtilkepmmkhmghaaDoor.Law
open Go.ChangeShapes Go.WideShapes Go.RowKit Go.Tum Go.Deep
theorem flat_two {α : Type} (g0 g1 : α → Value) : ∀ (l : List α) (i : Nat), (l.flatMap fun a => [g0 a, g1 a])[i * 2]? = l[i]?.map g0 ∧ (l.flatMap fun a => [g0 a, g1 a])[i * 2 + 1]? = l[i]?.map g1
  | [], _ => by simp
  | a :: l, 0 => by simp
  | a :: l, i + 1 => by
    have := flat_two g0 g1 l i
    rw [show (i + 1) * 2 = i * 2 + 1 + 1 by omega]
    simpa using this
theorem flat_two_length {α : Type} (g0 g1 : α → Value) (l : List α) : (l.flatMap fun a => [g0 a, g1 a]).length = l.length * 2 := by
  induction l with
  | nil => rfl
  | cons a l ih => simp only [List.flatMap_cons, List.length_append, ih, List.length_cons, List.length_nil]; omega
section
variable {H : Type} {enc : TypeId × Value → H} {P : Program} {W : World}
/-- Slices of two-field structs. -/
theorem trod_pairs {α : Type} [Inhabited α] (g0 g1 : α → Value) (wt : α → Nat) (R : α → Prop) {t e : TypeId} {f0 f1 : Field} {fuel : Nat} {v : Value} {x : DataW H × List MemPlace} (ht : P.underlying t = some (.slice e)) (he : P.underlying e = some (.struct #[f0, f1]))
    (ce : P.cellsOf e = 2) (o0 : f0.offset = 0) (o1 : f1.offset = 1) (c0 : P.cellsOf f0.type = 1) (c1 : P.cellsOf f1.type = 1)
    (each : ∀ (k : Nat) (u0 u1 : Value) (y0 y1 : DataW H × List MemPlace), DataW.trod enc P W 0 (fun _ => true) true k f0.type [u0] = some y0 → DataW.trod enc P W 0 (fun _ => true) true k f1.type [u1] = some y1 → ∃ a, u0 = g0 a ∧ u1 = g1 a ∧ R a ∧ wt a ≤ Rows.uptoBulk y0.1 + Rows.uptoBulk y1.1 + 1)
    (h : DataW.trod enc P W 0 (fun _ => true) true fuel t [v] = some x) :
    ∃ l : List α, Rd W (Old W) 2 v l.length (l.flatMap fun a => [g0 a, g1 a]) ∧ (∀ a ∈ l, R a) ∧ (l.map wt).sum + 1 ≤ Rows.uptoBulk x.1 ∧ l.length + 1 ≤ Rows.uptoBulk x.1 := by
  obtain ⟨n, xs, D, Pl, k, hr, hb, hx⟩ := trod_rd ht ce (by decide) h
  have hlen : xs.length = n * 2 := hr.1
  obtain ⟨f, hf⟩ := choose_lt (α := α) (n := n) (p := fun i a => xs[i * 2]? = some (g0 a) ∧ xs[i * 2 + 1]? = some (g1 a) ∧ R a ∧ wt a ≤ Rows.uptoBulk (D i)) fun i hi => by
    have h1 := hx i hi
    obtain ⟨u0, hu0⟩ : ∃ u, xs[i * 2]? = some u := ⟨_, List.getElem?_eq_getElem (by omega)⟩
    obtain ⟨u1, hu1⟩ : ∃ u, xs[i * 2 + 1]? = some u := ⟨_, List.getElem?_eq_getElem (by omega)⟩
    have e1 : (xs.drop (i * 2)).take 2 = [u0, u1] := by
      apply List.ext_getElem?
      intro r
      match r with
      | 0 => simp [hu0]
      | 1 => simp [hu1]
      | r + 2 => simp; omega
    rw [e1] at h1
    obtain ⟨ys, k', _, hxy, _, hyl, hfl⟩ := DataW.trod_struct he h1
    match ys, hyl with
    | [y0, y1], _ =>
      have q0 := hfl 0 f0 rfl
      have q1 := hfl 1 f1 rfl
      simp [o0, o1, c0, c1] at q0 q1
      obtain ⟨a, ha0, ha1, ha2, ha3⟩ := each k' u0 u1 y0 y1 q0 q1
      refine ⟨a, by rw [hu0, ha0], by rw [hu1, ha1], ha2, ?_⟩
      have hD : D i = .agg [y0.1, y1.1] := by
        simp only [Prod.mk.injEq] at hxy
        simpa using hxy.1
      rw [hD]
      simp only [Rows.uptoBulk, Rows.uptoBulkAll]
      omega
  have e3 : xs = ((List.range n).map f).flatMap fun a => [g0 a, g1 a] := by
    apply List.ext_getElem?
    intro j
    rcases Nat.lt_or_ge j (n * 2) with h1 | h1
    · have hq : j / 2 < n := by omega
      have h2 := hf (j / 2) hq
      have h3 := flat_two g0 g1 ((List.range n).map f) (j / 2)
      have h4 : ((List.range n).map f)[j / 2]? = some (f (j / 2)) := by simp [hq]
      rw [h4] at h3
      rcases Nat.mod_two_eq_zero_or_one j with hm | hm
      · have e : j / 2 * 2 = j := by omega
        rw [e] at h2 h3
        rw [h2.1, h3.1]
        rfl
      · have e : j / 2 * 2 + 1 = j := by omega
        rw [e] at h2 h3
        rw [h2.2.1, h3.2]
        rfl
    · rw [List.getElem?_eq_none (by omega), List.getElem?_eq_none (by rw [flat_two_length]; simp; omega)]
  have hl : ((List.range n).map f).length = n := by simp
  refine ⟨(List.range n).map f, ?_, fun a ha => ?_, ?_, ?_⟩
  · rw [← e3, hl]
    exact hr
  · obtain ⟨i, hi, rfl⟩ := List.mem_map.1 ha
    exact (hf i (List.mem_range.1 hi)).2.2.1
  · have hw := weigh wt D ((List.range n).map f) 0 fun i a hia => by
      have hi : i < n := by
        rcases Nat.lt_or_ge i n with h1 | h1
        · exact h1
        · rw [List.getElem?_eq_none (by simp; exact h1)] at hia; cases hia
      simp [hi] at hia
      subst hia
      rw [Nat.zero_add]
      exact (hf i hi).2.2.2
    rw [hl] at hw
    simp only [Nat.zero_add] at hw
    rw [show (List.map (fun i => D i) (List.range n)) = List.map D (List.range n) from rfl] at hw
    omega
  · have h5 := length_le ((List.range n).map D)
    rw [List.length_map, List.length_range] at h5
    rw [hl]
    omega
/-- Slices of two-field structs, within the form's reach. -/
theorem trod_pairsW {α : Type} [Inhabited α] (g0 g1 : α → Value) (wt : α → Nat) (R : α → Prop) {t e : TypeId} {f0 f1 : Field} {fuel : Nat} {v : Value} {x : DataW H × List MemPlace} (ht : P.underlying t = some (.slice e)) (he : P.underlying e = some (.struct #[f0, f1]))
    (ce : P.cellsOf e = 2) (o0 : f0.offset = 0) (o1 : f1.offset = 1) (c0 : P.cellsOf f0.type = 1) (c1 : P.cellsOf f1.type = 1)
    (each : ∀ (k : Nat) (u0 u1 : Value) (y0 y1 : DataW H × List MemPlace), DataW.trod enc P W 0 (fun _ => true) true k f0.type [u0] = some y0 → DataW.trod enc P W 0 (fun _ => true) true k f1.type [u1] = some y1 → Wok P f0.type y0.1 → Wok P f1.type y1.1 → ∃ a, u0 = g0 a ∧ u1 = g1 a ∧ R a ∧ wt a ≤ Rows.uptoBulk y0.1 + Rows.uptoBulk y1.1 + 1)
    (h : DataW.trod enc P W 0 (fun _ => true) true fuel t [v] = some x) (hw : Wok P t x.1) :
    ∃ l : List α, Rd W (Old W) 2 v l.length (l.flatMap fun a => [g0 a, g1 a]) ∧ (∀ a ∈ l, R a) ∧ (l.map wt).sum + 1 ≤ Rows.uptoBulk x.1 ∧ l.length + 1 ≤ Rows.uptoBulk x.1 := by
  obtain ⟨n, xs, D, Pl, k, hr, hb, hx, hwk⟩ := trod_rdW ht ce (by decide) h
  have hwk := hwk hw
  have hlen : xs.length = n * 2 := hr.1
  obtain ⟨f, hf⟩ := choose_lt (α := α) (n := n) (p := fun i a => xs[i * 2]? = some (g0 a) ∧ xs[i * 2 + 1]? = some (g1 a) ∧ R a ∧ wt a ≤ Rows.uptoBulk (D i)) fun i hi => by
    have h1 := hx i hi
    obtain ⟨u0, hu0⟩ : ∃ u, xs[i * 2]? = some u := ⟨_, List.getElem?_eq_getElem (by omega)⟩
    obtain ⟨u1, hu1⟩ : ∃ u, xs[i * 2 + 1]? = some u := ⟨_, List.getElem?_eq_getElem (by omega)⟩
    have e1 : (xs.drop (i * 2)).take 2 = [u0, u1] := by
      apply List.ext_getElem?
      intro r
      match r with
      | 0 => simp [hu0]
      | 1 => simp [hu1]
      | r + 2 => simp; omega
    rw [e1] at h1
    obtain ⟨ys, k', _, hxy, _, hyl, hfl⟩ := DataW.trod_struct he h1
    match ys, hyl with
    | [y0, y1], _ =>
      have q0 := hfl 0 f0 rfl
      have q1 := hfl 1 f1 rfl
      simp [o0, o1, c0, c1] at q0 q1
      have hD : D i = .agg [y0.1, y1.1] := by
        simp only [Prod.mk.injEq] at hxy
        simpa using hxy.1
      have hwi := hwk i hi
      rw [hD] at hwi
      obtain ⟨a, ha0, ha1, ha2, ha3⟩ := each k' u0 u1 y0 y1 q0 q1 (wok_part (j := 0) he hwi rfl rfl) (wok_part (j := 1) he hwi rfl rfl)
      refine ⟨a, by rw [hu0, ha0], by rw [hu1, ha1], ha2, ?_⟩
      rw [hD]
      simp only [Rows.uptoBulk, Rows.uptoBulkAll]
      omega
  have e3 : xs = ((List.range n).map f).flatMap fun a => [g0 a, g1 a] := by
    apply List.ext_getElem?
    intro j
    rcases Nat.lt_or_ge j (n * 2) with h1 | h1
    · have hq : j / 2 < n := by omega
      have h2 := hf (j / 2) hq
      have h3 := flat_two g0 g1 ((List.range n).map f) (j / 2)
      have h4 : ((List.range n).map f)[j / 2]? = some (f (j / 2)) := by simp [hq]
      rw [h4] at h3
      rcases Nat.mod_two_eq_zero_or_one j with hm | hm
      · have e : j / 2 * 2 = j := by omega
        rw [e] at h2 h3
        rw [h2.1, h3.1]
        rfl
      · have e : j / 2 * 2 + 1 = j := by omega
        rw [e] at h2 h3
        rw [h2.2.1, h3.2]
        rfl
    · rw [List.getElem?_eq_none (by omega), List.getElem?_eq_none (by rw [flat_two_length]; simp; omega)]
  have hl : ((List.range n).map f).length = n := by simp
  refine ⟨(List.range n).map f, ?_, fun a ha => ?_, ?_, ?_⟩
  · rw [← e3, hl]
    exact hr
  · obtain ⟨i, hi, rfl⟩ := List.mem_map.1 ha
    exact (hf i (List.mem_range.1 hi)).2.2.1
  · have hw := weigh wt D ((List.range n).map f) 0 fun i a hia => by
      have hi : i < n := by
        rcases Nat.lt_or_ge i n with h1 | h1
        · exact h1
        · rw [List.getElem?_eq_none (by simp; exact h1)] at hia; cases hia
      simp [hi] at hia
      subst hia
      rw [Nat.zero_add]
      exact (hf i hi).2.2.2
    rw [hl] at hw
    simp only [Nat.zero_add] at hw
    rw [show (List.map (fun i => D i) (List.range n)) = List.map D (List.range n) from rfl] at hw
    omega
  · have h5 := length_le ((List.range n).map D)
    rw [List.length_map, List.length_range] at h5
    rw [hl]
    omega
/-- Slices whose elements are one cell. -/
theorem trod_ones {α : Type} [Inhabited α] (g : α → Value) (wt : α → Nat) (R : α → Prop) {t e : TypeId} {fuel : Nat} {v : Value} {x : DataW H × List MemPlace} (ht : P.underlying t = some (.slice e)) (ce : P.cellsOf e = 1)
    (each : ∀ (k : Nat) (u : Value) (y : DataW H × List MemPlace), DataW.trod enc P W 0 (fun _ => true) true k e [u] = some y → ∃ a, u = g a ∧ R a ∧ wt a ≤ Rows.uptoBulk y.1)
    (h : DataW.trod enc P W 0 (fun _ => true) true fuel t [v] = some x) :
    ∃ l : List α, Rd W (Old W) 1 v l.length (l.map g) ∧ (∀ a ∈ l, R a) ∧ (l.map wt).sum + 1 ≤ Rows.uptoBulk x.1 ∧ l.length + 1 ≤ Rows.uptoBulk x.1 := by
  obtain ⟨n, xs, D, Pl, k, hr, hb, hx⟩ := trod_rd ht ce (by decide) h
  have hlen : xs.length = n := by simpa using hr.1
  obtain ⟨f, hf⟩ := choose_lt (α := α) (n := n) (p := fun i a => xs[i]? = some (g a) ∧ R a ∧ wt a ≤ Rows.uptoBulk (D i)) fun i hi => by
    have h1 := hx i hi
    obtain ⟨u, hu⟩ : ∃ u, xs[i]? = some u := ⟨_, List.getElem?_eq_getElem (by omega)⟩
    have e1 : (xs.drop (i * 1)).take 1 = [u] := by
      apply List.ext_getElem?
      intro r
      match r with
      | 0 => simp [hu]
      | r + 1 => simp; omega
    rw [e1] at h1
    obtain ⟨a, ha, hR, hw⟩ := each k u _ h1
    exact ⟨a, by rw [hu, ha], hR, hw⟩
  have e3 : xs = ((List.range n).map f).map g := by
    apply List.ext_getElem?
    intro i
    rcases Nat.lt_or_ge i n with h1 | h1
    · rw [(hf i h1).1]
      simp [h1]
    · rw [List.getElem?_eq_none (by omega), List.getElem?_eq_none (by simp; omega)]
  have hl : ((List.range n).map f).length = n := by simp
  refine ⟨(List.range n).map f, ?_, fun a ha => ?_, ?_, ?_⟩
  · rw [← e3, hl]
    exact hr
  · obtain ⟨i, hi, rfl⟩ := List.mem_map.1 ha
    exact (hf i (List.mem_range.1 hi)).2.1
  · have hw := weigh wt D ((List.range n).map f) 0 fun i a hia => by
      have hi : i < n := by
        rcases Nat.lt_or_ge i n with h1 | h1
        · exact h1
        · rw [List.getElem?_eq_none (by simp; exact h1)] at hia; cases hia
      simp [hi] at hia
      subst hia
      rw [Nat.zero_add]
      exact (hf i hi).2.2
    rw [hl] at hw
    simp only [Nat.zero_add] at hw
    rw [show (List.map (fun i => D i) (List.range n)) = List.map D (List.range n) from rfl] at hw
    omega
  · have h5 := length_le ((List.range n).map D)
    rw [List.length_map, List.length_range] at h5
    rw [hl]
    omega
/-- Slices of slices of bytes. -/
theorem trod_rows {t e q : TypeId} {fuel : Nat} {v : Value} {x : DataW H × List MemPlace} (ht : P.underlying t = some (.slice e)) (he : P.underlying e = some (.slice q)) (hq : P.underlying q = some (.int .u8)) (ce : P.cellsOf e = 1) (cq : P.cellsOf q = 1)
    (h : DataW.trod enc P W 0 (fun _ => true) true fuel t [v] = some x) :
    ∃ l : List (Value × List UInt8), Rd W (Old W) 1 v l.length (l.map (·.1)) ∧ (∀ a ∈ l, Rd W (Old W) 1 a.1 a.2.length (vbs a.2)) ∧ (l.map fun a => a.2.length + 1).sum + 1 ≤ Rows.uptoBulk x.1 ∧ l.length + 1 ≤ Rows.uptoBulk x.1 :=
  haveI : Inhabited Value := ⟨.int .i64 0⟩
  trod_ones (α := Value × List UInt8) (fun a => a.1) (fun a => a.2.length + 1) (fun a => Rd W (Old W) 1 a.1 a.2.length (vbs a.2)) ht ce (fun k u y hy => by
    obtain ⟨b, hb, hw⟩ := trod_bytes he hq cq hy
    exact ⟨(u, b), rfl, hb, hw⟩) h
end
end Go.Proofs.YtilkepmmkhmghaaDoor.Law
