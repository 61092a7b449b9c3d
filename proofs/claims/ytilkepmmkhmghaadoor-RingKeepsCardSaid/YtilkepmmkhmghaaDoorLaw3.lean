/- Arguments as lists: slices of structs with three one-cell fields, within the form's reach. -/
import Derived.Test.YtilkepmmkhmghaaDoorLaw2
import Derived.Test.YtilkepmmkhmghaaDoorRow
namespace Go.Proofs.YtilkepmmkhmghaaDoor.Law
open Go.ChangeShapes Go.WideShapes Go.RowKit Go.Tum Go.Deep
variable {H : Type} {enc : TypeId × Value → H} {P : Program} {W : World}
theorem trod_triplesW {α : Type} [Inhabited α] (g0 g1 g2 : α → Value) (R : α → Prop) {t e : TypeId} {f0 f1 f2 : Field} {fuel : Nat} {v : Value} {x : DataW H × List MemPlace} (ht : P.underlying t = some (.slice e)) (he : P.underlying e = some (.struct #[f0, f1, f2]))
    (ce : P.cellsOf e = 3) (o0 : f0.offset = 0) (o1 : f1.offset = 1) (o2 : f2.offset = 2) (c0 : P.cellsOf f0.type = 1) (c1 : P.cellsOf f1.type = 1) (c2 : P.cellsOf f2.type = 1)
    (each : ∀ (k : Nat) (u0 u1 u2 : Value) (y0 y1 y2 : DataW H × List MemPlace), DataW.trod enc P W 0 (fun _ => true) true k f0.type [u0] = some y0 → DataW.trod enc P W 0 (fun _ => true) true k f1.type [u1] = some y1 → DataW.trod enc P W 0 (fun _ => true) true k f2.type [u2] = some y2 →
      Wok P f0.type y0.1 → Wok P f1.type y1.1 → Wok P f2.type y2.1 → ∃ a, u0 = g0 a ∧ u1 = g1 a ∧ u2 = g2 a ∧ R a)
    (h : DataW.trod enc P W 0 (fun _ => true) true fuel t [v] = some x) (hw : Wok P t x.1) :
    ∃ l : List α, Rd W (Old W) 3 v l.length (l.flatMap fun a => [g0 a, g1 a, g2 a]) ∧ ∀ a ∈ l, R a := by
  obtain ⟨n, xs, D, Pl, k, hr, hb, hx, hwk⟩ := trod_rdW ht ce (by decide) h
  have hwk := hwk hw
  have hlen : xs.length = n * 3 := hr.1
  obtain ⟨f, hf⟩ := choose_lt (α := α) (n := n) (p := fun i a => xs[i * 3]? = some (g0 a) ∧ xs[i * 3 + 1]? = some (g1 a) ∧ xs[i * 3 + 2]? = some (g2 a) ∧ R a) fun i hi => by
    have h1 := hx i hi
    obtain ⟨u0, hu0⟩ : ∃ u, xs[i * 3]? = some u := ⟨_, List.getElem?_eq_getElem (by omega)⟩
    obtain ⟨u1, hu1⟩ : ∃ u, xs[i * 3 + 1]? = some u := ⟨_, List.getElem?_eq_getElem (by omega)⟩
    obtain ⟨u2, hu2⟩ : ∃ u, xs[i * 3 + 2]? = some u := ⟨_, List.getElem?_eq_getElem (by omega)⟩
    have e1 : (xs.drop (i * 3)).take 3 = [u0, u1, u2] := by
      apply List.ext_getElem?
      intro r
      match r with
      | 0 => simp [hu0]
      | 1 => simp [hu1]
      | 2 => simp [hu2]
      | r + 3 => simp; omega
    rw [e1] at h1
    obtain ⟨ys, k', _, hxy, _, hyl, hfl⟩ := DataW.trod_struct he h1
    match ys, hyl with
    | [y0, y1, y2], _ =>
      have q0 := hfl 0 f0 rfl
      have q1 := hfl 1 f1 rfl
      have q2 := hfl 2 f2 rfl
      simp [o0, o1, o2, c0, c1, c2] at q0 q1 q2
      have hD : D i = .agg [y0.1, y1.1, y2.1] := by
        simp only [Prod.mk.injEq] at hxy
        simpa using hxy.1
      have hwi := hwk i hi
      rw [hD] at hwi
      obtain ⟨a, ha0, ha1, ha2, ha3⟩ := each k' u0 u1 u2 y0 y1 y2 q0 q1 q2 (wok_part (j := 0) he hwi rfl rfl) (wok_part (j := 1) he hwi rfl rfl) (wok_part (j := 2) he hwi rfl rfl)
      exact ⟨a, by rw [hu0, ha0], by rw [hu1, ha1], by rw [hu2, ha2], ha3⟩
  have hl : ((List.range n).map f).length = n := by simp
  have e3 : xs = ((List.range n).map f).flatMap fun a => [g0 a, g1 a, g2 a] := by
    apply List.ext_getElem?
    intro j
    have hfl := flatMap_len (enc := fun a => [g0 a, g1 a, g2 a]) (k := 3) (fun _ => rfl) ((List.range n).map f)
    rw [hl] at hfl
    rcases Nat.lt_or_ge j (n * 3) with h1 | h1
    · have hq : j / 3 < n := by omega
      have h2 := hf (j / 3) hq
      have h4 : ((List.range n).map f)[j / 3]? = some (f (j / 3)) := by simp [hq]
      have hg := fun r hr => flatMap_get (enc := fun a => [g0 a, g1 a, g2 a]) (k := 3) (fun _ => rfl) ((List.range n).map f) (j / 3) r hr
      rw [h4] at hg
      have hm : j % 3 = 0 ∨ j % 3 = 1 ∨ j % 3 = 2 := by omega
      rcases hm with hm | hm | hm
      · have e : j / 3 * 3 = j := by omega
        have := hg 0 (by decide)
        rw [Nat.add_zero, e] at this
        rw [e] at h2
        rw [h2.1, this]; rfl
      · have e : j / 3 * 3 + 1 = j := by omega
        have := hg 1 (by decide)
        rw [e] at this h2
        rw [h2.2.1, this]; rfl
      · have e : j / 3 * 3 + 2 = j := by omega
        have := hg 2 (by decide)
        rw [e] at this h2
        rw [h2.2.2.1, this]; rfl
    · rw [List.getElem?_eq_none (by omega), List.getElem?_eq_none (by omega)]
  refine ⟨(List.range n).map f, ?_, fun a ha => ?_⟩
  · rw [← e3, hl]
    exact hr
  · obtain ⟨i, hi, rfl⟩ := List.mem_map.1 ha
    exact (hf i (List.mem_range.1 hi)).2.2.2
end Go.Proofs.YtilkepmmkhmghaaDoor.Law
