/- Texts of one part together. -/
import Derived.Test.YtcifajfmdpjfiaaDoorMBs
import Derived.Test.YtcifajfmdpjfiaaDoorRows
import Derived.WalkKit
import Derived.ProofKit
import Derived.OpenShut
import Derived.Carry
import Derived.Deep.Slices
import Derived.Deep.DeepHandedRow
import Derived.SizedLaws
/- What the rows' form asks, in our words: arguments as lists, their bulk, and what is to be shown of a law that returns true. -/
namespace Go.Proofs.YtcifajfmdpjfiaaDoor.Law
open Go.ChangeShapes Go.WideShapes Go.RowKit Go.Tum Go.Deep
section
variable {H : Type} {enc : TypeId × Value → H} {P : Program}
theorem trodAll_stays (hl : laidOutB P = true) {W W' : World} {sp : Nat → Bool} (hb : Below W.heap.size W W') : ∀ {ts : List TypeId} {vs : List Value} {ds : List (DataW H)} {ps : List MemPlace}, (∀ t ∈ ts, P.readableRec t = true ∧ t < P.types.size) →
    DataW.TrodAll enc P W 0 (fun _ => true) true ts vs ds ps → (∀ x ∈ ps, x.block < W.heap.size) → (∀ x ∈ ps, sp x.block = true) → DataW.TrodAll enc P W' 0 sp true ts vs ds ps
  | [], _, _, _, _, h, _, _ => by
    obtain ⟨rfl, rfl, rfl⟩ := trodAll_nil h
    exact trodAll_mk0
  | t :: ts, _, _, _, ht, h, hlt, hs => by
    obtain ⟨v, vs1, d, ds1, a, b, rfl, rfl, rfl, h1, h2⟩ := trodAll_cons h
    have e := ht t (by simp)
    exact trodAll_cons_mk (WideElems.Trod_stays hl e.1 e.2 h1 (fun x hx => hb.same (hlt x (by simp [hx]))) (fun x hx => hs x (by simp [hx])))
      (trodAll_stays hl hb (fun t h => ht t (by simp [h])) h2 (fun x hx => hlt x (by simp [hx])) (fun x hx => hs x (by simp [hx])))
/-- A law that returned true and turned nothing old meets its row. -/
theorem post_true {f : Func} {s : ChangeSpec} {apart fresh handsOn again : Bool} {W W' : World} {args : Array Value} {ds gs : List (DataW H)} {before : List MemPlace} {tb : TypeId}
    (hW : DataW.Whole enc P f.params.toList s.vars apart W args.toList ds gs before) (hl : laidOutB P = true) (hts : ∀ t ∈ f.params.toList, P.readableRec t = true ∧ t < P.types.size)
    (hres : f.resultTypes = #[tb]) (htb : P.underlying tb = some .bool) (hvars : s.vars = []) (hspec : s.fn H ds = { results := [.lit (.bool true)], args := ds }) (hb : Below W.heap.size W W') :
    s.post enc P f apart fresh handsOn again W args (.bool true) W' := by
  have hlt := fun p hp => hW.lt p hp
  obtain ⟨p, q, hA, hV, rfl, hz, hn⟩ := id hW
  rw [hvars] at hV
  obtain ⟨rfl, rfl⟩ := trodVars_none hV
  rw [List.append_nil] at hlt hz hn hW
  have ha : ∀ sp : Nat → Bool, (∀ x ∈ p, sp x.block = true) → DataW.TrodAll enc P W' 0 sp true f.params.toList args.toList ds p := fun sp hs => trodAll_stays hl hb hts hA hlt hs
  have hr : ∀ (b : Nat) (sp : Nat → Bool) (hd : Bool), DataW.TrodAll enc P W' b sp hd f.resultTypes.toList ((Value.bool true).resultList f.resultTypes.size) [.lit (.bool true)] [] := fun b sp hd => by
    rw [hres]
    exact trodAll_cons_mk (shut_bool htb true) trodAll_mk0
  have hv : ∀ (W : World) (sp : Nat → Bool), DataW.TrodVars enc P W sp s.vars [] [] := fun W sp => by
    rw [hvars]
    exact rfl
  refine ⟨ds, [], p, [], p, [], hW, ?_, ?_, ?_, hb.frame _, fun _ => ⟨ok_one hres rfl (okWide_bool_mk htb true), .lit (.bool true) :: ds, [], p, ⟨p, [], ?_, hv _ _, by simp, fun b off hp => ?_, hn⟩, fun x hx _ => hx⟩⟩
  · rw [List.append_nil, hspec]
    exact hr _ _ _
  · rw [List.append_nil, hspec]
    exact ha _ fun x hx => by simpa using hlt x hx
  · rw [List.append_nil, hspec]
    exact hv _ _
  · exact trodAll_append (ha _ fun _ _ => rfl) (hr _ _ _)
  · have := hlt _ hp
    rw [hb.frozen this]
    exact hz b off hp
end
/-! ### Bulk -/
section
variable {H : Type}
theorem one_le (d : DataW H) : 1 ≤ Rows.uptoBulk d := by
  cases d with
  | lit l => cases l <;> simp [Rows.uptoBulk]
  | nil => simp [Rows.uptoBulk]
  | ptr d => simp [Rows.uptoBulk]
  | slice elems spare => simp [Rows.uptoBulk]
  | agg parts => simp [Rows.uptoBulk]
  | iface t d => simp [Rows.uptoBulk]
  | map entries => simp [Rows.uptoBulk]
  | held h => simp [Rows.uptoBulk]
theorem length_le (l : List (DataW H)) : l.length ≤ Rows.uptoBulkAll l := by
  induction l with
  | nil => simp [Rows.uptoBulkAll]
  | cons x r ih => have := one_le x; simp only [Rows.uptoBulkAll, List.length_cons]; omega
theorem bound {l : List (DataW H)} (hk : Rows.uptoSmall H l = true) : Rows.uptoBulkAll l ≤ 1048576 := of_decide_eq_true hk
/-- What a list weighs, by a weight of its elements that stays below their readings' bulk. -/
theorem weigh {α : Type} (wt : α → Nat) (D : Nat → DataW H) : ∀ (l : List α) (k : Nat), (∀ i a, l[i]? = some a → wt a ≤ Rows.uptoBulk (D (k + i))) → (l.map wt).sum ≤ Rows.uptoBulkAll ((List.range l.length).map fun i => D (k + i))
  | [], _, _ => by simp [Rows.uptoBulkAll]
  | a :: l, k, h => by
    have h0 := h 0 a rfl
    have h1 := weigh wt D l (k + 1) fun i b hb => by
      have := h (i + 1) b (by simpa using hb)
      rwa [show k + 1 + i = k + (i + 1) by omega]
    simp only [List.length_cons, List.range_succ_eq_map, List.map_cons, List.map_map, Rows.uptoBulkAll, List.sum_cons]
    have e : (List.map ((fun i => D (k + i)) ∘ Nat.succ) (List.range l.length)) = (List.range l.length).map fun i => D (k + 1 + i) := List.map_congr_left fun i _ => by simp [Function.comp, show k + 1 + i = k + (i + 1) by omega]
    rw [e]
    omega
end
/-- All that a reading holds is within the form's reach. -/
def Wok {H : Type} (P : Program) (t : TypeId) (d : DataW H) : Prop := ∀ n ∈ d.weights P t, n ≤ reachBytes
theorem weightsAll_mem {H : Type} {P : Program} {e : TypeId} : ∀ {l : List (DataW H)} {d : DataW H}, d ∈ l → ∀ n ∈ d.weights P e, n ∈ DataW.weightsAll P e l
  | x :: l, d, h, n, hn => by
    simp only [DataW.weightsAll, List.mem_append]
    rcases List.mem_cons.1 h with rfl | h
    · exact .inl hn
    · exact .inr (weightsAll_mem h n hn)
theorem wok_elem {H : Type} {P : Program} {t e : TypeId} {elems spare : List (DataW H)} {d : DataW H} (ht : P.underlying t = some (.slice e)) (h : Wok P t (.slice elems spare)) (hd : d ∈ elems) : Wok P e d := fun n hn => by
  refine h n ?_
  simp only [DataW.weights, ht, List.mem_cons, List.mem_append]
  exact .inr (.inl (weightsAll_mem hd n hn))
theorem wok_part {H : Type} {P : Program} {t : TypeId} {fs : Array Field} {parts : List (DataW H)} {j : Nat} {f : Field} {d : DataW H} (ht : P.underlying t = some (.struct fs)) (h : Wok P t (.agg parts)) (hf : fs.toList[j]? = some f) (hd : parts[j]? = some d) : Wok P f.type d := fun n hn => by
  refine h n ?_
  simp only [DataW.weights, ht]
  exact DataW.weights_mem_each (by rw [List.getElem?_map, hf]; rfl) hd n hn
theorem wok_string {H : Type} {P : Program} {t : TypeId} {l : List UInt8} (h : Wok (H := H) P t (.lit (.string l))) : l.length ≤ reachBytes := h _ (by simp [DataW.weights])
theorem wok_arg {H : Type} {P : Program} {ts : List TypeId} {ds : List (DataW H)} (h : (DataW.weightsEach P ts ds).all (· ≤ reachBytes) = true) {j : Nat} {t : TypeId} {d : DataW H} (ht : ts[j]? = some t) (hd : ds[j]? = some d) : Wok P t d := fun n hn => by
  simpa using List.all_eq_true.1 h n (DataW.weights_mem_each ht hd n hn)
/-! ### Arguments as lists -/
abbrev Old (W : World) : Nat → Prop := fun g => g < W.heap.size
section
variable {H : Type} {enc : TypeId × Value → H} {P : Program} {W : World}
theorem trod_rdW {t e : TypeId} {size fuel : Nat} {v : Value} {x : DataW H × List MemPlace} (ht : P.underlying t = some (.slice e)) (hc : P.cellsOf e = size) (hs : 0 < size)
    (h : DataW.trod enc P W 0 (fun _ => true) true fuel t [v] = some x) :
    ∃ (n : Nat) (xs : List Value) (D : Nat → DataW H) (Pl : Nat → List MemPlace) (k : Nat), Rd W (Old W) size v n xs ∧ Rows.uptoBulkAll ((List.range n).map D) + 1 ≤ Rows.uptoBulk x.1 ∧
      (∀ i, i < n → DataW.trod enc P W 0 (fun _ => true) true k e ((xs.drop (i * size)).take size) = some (D i, Pl i)) ∧ (Wok P t x.1 → ∀ i, i < n → Wok P e (D i)) := by
  rcases open_slice ht h with ⟨e1, rfl⟩ | ⟨a, len, cap, m, n, D, Pl, e1, _, hl, hm, hmm, rfl, hx⟩
  · injection e1 with e1 _
    subst e1
    exact ⟨0, [], fun _ => .nil, fun _ => [], 0, Rd.nil _ _ _, by simp [Rows.uptoBulk, Rows.uptoBulkAll], fun i hi => absurd hi (Nat.not_lt_zero _), fun _ i hi => absurd hi (Nat.not_lt_zero _)⟩
  · injection e1 with e1 _
    subst e1
    rw [hc] at hx
    have hlm : len ≤ m := by rw [hmm]; simp; exact hl
    obtain ⟨f, hf⟩ := choose_lt (α := List Value) (n := len) (p := fun i cs => W.cells? 0 (a.add (i * size)) size = some cs ∧ DataW.trod enc P W 0 (fun _ => true) true n e cs = some (D i, Pl i)) fun i hi => hx i (by omega)
    have hcell : ∀ i, i < len → (f i).length = size ∧ ∀ r, r < size → W.cell? (a.add (i * size + r)) = (f i)[r]? := fun i hi => by
      obtain ⟨_, h2, h3⟩ := World.cells?_some (hf i hi).1
      exact ⟨h2, fun r hr => by rw [← h3 r hr, add_add]⟩
    have hcat : ∀ n', n' ≤ len → ((List.range n').flatMap f).length = n' * size := fun n' => by
      induction n' with
      | zero => intro _; simp
      | succ j ih =>
        intro hj
        rw [List.range_succ, List.flatMap_append, List.length_append, ih (by omega)]
        simp [(hcell j (by omega)).1, Nat.succ_mul]
    have hat : ∀ n', n' ≤ len → ∀ i r, i < n' → r < size → ((List.range n').flatMap f)[i * size + r]? = (f i)[r]? := fun n' => by
      induction n' with
      | zero => intro _ i r hi _; omega
      | succ j ih =>
        intro hj i r hi hr
        have hlen := hcat j (by omega)
        rw [List.range_succ, List.flatMap_append]
        rcases Nat.lt_or_ge i j with h1 | h1
        · have h2 : i * size + r < j * size := by
            have := Nat.mul_le_mul_right size (show i + 1 ≤ j by omega)
            rw [Nat.succ_mul] at this
            omega
          rw [List.getElem?_append_left (by omega), ih (by omega) i r h1 hr]
        · obtain rfl : i = j := by omega
          rw [List.getElem?_append_right (by omega), hlen, show i * size + r - i * size = r by omega]
          simp
    refine ⟨len, (List.range len).flatMap f, D, Pl, n, ⟨hcat len (Nat.le_refl _), some a, cap, rfl, hl, hm, fun hn => ?_⟩, ?_, fun i hi => ?_, fun hw i hi => ?_⟩
    · obtain ⟨b, off, spot⟩ := a
      have h0 := (hcell 0 hn).2 0 hs
      rw [List.getElem?_eq_getElem (by rw [(hcell 0 hn).1]; exact hs)] at h0
      have hspot : spot = none := by simpa [Addr.add] using World.cell?_spot h0
      subst hspot
      have hlt := World.block_lt_of_cell? W _ h0
      refine ⟨b, off, rfl, by simpa [Addr.add] using hlt, fun j u hu => ?_⟩
      have hj : j < len * size := by
        rw [← hcat len (Nat.le_refl _)]
        rcases Nat.lt_or_ge j ((List.range len).flatMap f).length with h1 | h1
        · exact h1
        · rw [List.getElem?_eq_none h1] at hu; cases hu
      have hq : j / size < len := Nat.div_lt_of_lt_mul (by rw [Nat.mul_comm]; exact hj)
      have hr := Nat.mod_lt j hs
      have he : j / size * size + j % size = j := by rw [Nat.mul_comm]; exact Nat.div_add_mod j size
      have h1 := (hcell _ hq).2 _ hr
      have h2 := hat len (Nat.le_refl _) _ _ hq hr
      rw [he] at h1 h2
      rw [h2] at hu
      rw [hu] at h1
      simpa [Addr.add_lit] using h1
    · simp only [Rows.uptoBulk]
      omega
    · have e2 : (((List.range len).flatMap f).drop (i * size)).take size = f i := by
        apply List.ext_getElem?
        intro r
        rcases Nat.lt_or_ge r size with h1 | h1
        · rw [List.getElem?_take_of_lt h1, List.getElem?_drop, hat len (Nat.le_refl _) i r hi h1]
        · rw [List.getElem?_eq_none (by simp; omega), List.getElem?_eq_none (by rw [(hcell i hi).1]; exact h1)]
      rw [e2]
      exact (hf i hi).2
    · exact wok_elem ht hw (List.mem_map.2 ⟨i, List.mem_range.2 hi, rfl⟩)
theorem trod_rd {t e : TypeId} {size fuel : Nat} {v : Value} {x : DataW H × List MemPlace} (ht : P.underlying t = some (.slice e)) (hc : P.cellsOf e = size) (hs : 0 < size)
    (h : DataW.trod enc P W 0 (fun _ => true) true fuel t [v] = some x) :
    ∃ (n : Nat) (xs : List Value) (D : Nat → DataW H) (Pl : Nat → List MemPlace) (k : Nat), Rd W (Old W) size v n xs ∧ Rows.uptoBulkAll ((List.range n).map D) + 1 ≤ Rows.uptoBulk x.1 ∧
      ∀ i, i < n → DataW.trod enc P W 0 (fun _ => true) true k e ((xs.drop (i * size)).take size) = some (D i, Pl i) := by
  obtain ⟨n, xs, D, Pl, k, h1, h2, h3, _⟩ := trod_rdW ht hc hs h
  exact ⟨n, xs, D, Pl, k, h1, h2, h3⟩
theorem byte_wf {n : Int} (h : (Lit.int .u8 n).wf = true) : ∃ b : UInt8, Value.int .u8 n = vb b := by
  simp only [Lit.wf, Bool.and_eq_true, decide_eq_true_eq] at h
  have h1 : 0 ≤ n := h.1
  have h2 : n ≤ 255 := h.2
  refine ⟨UInt8.ofNat n.toNat, ?_⟩
  simp only [vb, UInt8.toNat_ofNat', Value.int.injEq, true_and]
  omega
/-- Bytes. -/
theorem trod_bytes {t e : TypeId} {fuel : Nat} {v : Value} {x : DataW H × List MemPlace} (ht : P.underlying t = some (.slice e)) (he : P.underlying e = some (.int .u8)) (hc : P.cellsOf e = 1)
    (h : DataW.trod enc P W 0 (fun _ => true) true fuel t [v] = some x) : ∃ b : List UInt8, Rd W (Old W) 1 v b.length (vbs b) ∧ b.length + 1 ≤ Rows.uptoBulk x.1 := by
  obtain ⟨n, xs, D, Pl, k, hr, hb, hx⟩ := trod_rd ht hc (by decide) h
  have hlen : xs.length = n := by simpa using hr.1
  obtain ⟨f, hf⟩ := choose_lt (α := UInt8) (n := n) (p := fun i b => xs[i]? = some (vb b)) fun i hi => by
    have h1 := hx i hi
    obtain ⟨u, hu⟩ : ∃ u, xs[i]? = some u := ⟨_, List.getElem?_eq_getElem (by omega)⟩
    have e1 : (xs.drop (i * 1)).take 1 = [u] := by
      apply List.ext_getElem?
      intro r
      match r with
      | 0 => simp [hu]
      | r + 1 => simp; omega
    rw [e1] at h1
    obtain ⟨m, e2, _, hwf⟩ := DataW.trod_int he h1
    injection e2 with e2 _
    subst e2
    obtain ⟨b, hb⟩ := byte_wf hwf
    exact ⟨b, by rw [hu, hb]⟩
  have e3 : xs = vbs ((List.range n).map f) := by
    apply List.ext_getElem?
    intro i
    rcases Nat.lt_or_ge i n with h1 | h1
    · rw [hf i h1]
      simp [vbs, h1]
    · rw [List.getElem?_eq_none (by omega), List.getElem?_eq_none (by simp [vbs]; omega)]
  refine ⟨(List.range n).map f, ?_, ?_⟩
  · rw [← e3]
    simpa using hr
  · have := length_le ((List.range n).map D)
    simp at this ⊢
    omega
theorem slice_cells {t e : TypeId} {base : Nat} {v : Value} {d : DataW H} {ps : List MemPlace} (ht : P.underlying t = some (.slice e)) (hval : Value.okWide P W .any base t v) (h : DataW.Trod enc P W 0 (fun _ => true) true t v d ps) :
    ∃ fuel, DataW.trod enc P W 0 (fun _ => true) true fuel t [v] = some (d, ps) := by
  obtain ⟨fuel, h⟩ := h
  refine ⟨fuel, ?_⟩
  unfold Value.okWide at hval
  simp only [ht] at hval
  unfold Cell.okWide at hval
  cases v <;> simp_all [Value.cells, Cell.ok]
end
end Go.Proofs.YtcifajfmdpjfiaaDoor.Law

/- More arguments as lists: slices of structs with two fields, slices of slices of bytes, slices of integers. -/
namespace Go.Proofs.YtcifajfmdpjfiaaDoor.Law
open Go.ChangeShapes Go.WideShapes Go.RowKit Go.Tum Go.Deep
theorem flat_two {α : Type} (g0 g1 : α → Value) : ∀ (l : List α) (i : Nat), (l.flatMap fun a => [g0 a, g1 a])[i * 2]? = l[i]?.map g0 ∧ (l.flatMap fun a => [g0 a, g1 a])[i * 2 + 1]? = l[i]?.map g1
  | [], _ => by simp
  | a :: l, 0 => by simp
  | a :: l, i + 1 => by
    have := flat_two g0 g1 l i
    rw [show (i + 1) * 2 = i * 2 + 1 + 1 by omega]
    simpa using this
theorem flat_two_length {α : Type} (g0 g1 : α → Value) (l : List α) : (l.flatMap fun a => [g0 a, g1 a]).length = l.length * 2 := by
  induction l with
  | nil => rfl
  | cons a l ih => simp only [List.flatMap_cons, List.length_append, ih, List.length_cons, List.length_nil]; omega
section
variable {H : Type} {enc : TypeId × Value → H} {P : Program} {W : World}
/-- Slices of two-field structs. -/
theorem trod_pairs {α : Type} [Inhabited α] (g0 g1 : α → Value) (wt : α → Nat) (R : α → Prop) {t e : TypeId} {f0 f1 : Field} {fuel : Nat} {v : Value} {x : DataW H × List MemPlace} (ht : P.underlying t = some (.slice e)) (he : P.underlying e = some (.struct #[f0, f1]))
    (ce : P.cellsOf e = 2) (o0 : f0.offset = 0) (o1 : f1.offset = 1) (c0 : P.cellsOf f0.type = 1) (c1 : P.cellsOf f1.type = 1)
    (each : ∀ (k : Nat) (u0 u1 : Value) (y0 y1 : DataW H × List MemPlace), DataW.trod enc P W 0 (fun _ => true) true k f0.type [u0] = some y0 → DataW.trod enc P W 0 (fun _ => true) true k f1.type [u1] = some y1 → ∃ a, u0 = g0 a ∧ u1 = g1 a ∧ R a ∧ wt a ≤ Rows.uptoBulk y0.1 + Rows.uptoBulk y1.1 + 1)
    (h : DataW.trod enc P W 0 (fun _ => true) true fuel t [v] = some x) :
    ∃ l : List α, Rd W (Old W) 2 v l.length (l.flatMap fun a => [g0 a, g1 a]) ∧ (∀ a ∈ l, R a) ∧ (l.map wt).sum + 1 ≤ Rows.uptoBulk x.1 ∧ l.length + 1 ≤ Rows.uptoBulk x.1 := by
  obtain ⟨n, xs, D, Pl, k, hr, hb, hx⟩ := trod_rd ht ce (by decide) h
  have hlen : xs.length = n * 2 := hr.1
  obtain ⟨f, hf⟩ := choose_lt (α := α) (n := n) (p := fun i a => xs[i * 2]? = some (g0 a) ∧ xs[i * 2 + 1]? = some (g1 a) ∧ R a ∧ wt a ≤ Rows.uptoBulk (D i)) fun i hi => by
    have h1 := hx i hi
    obtain ⟨u0, hu0⟩ : ∃ u, xs[i * 2]? = some u := ⟨_, List.getElem?_eq_getElem (by omega)⟩
    obtain ⟨u1, hu1⟩ : ∃ u, xs[i * 2 + 1]? = some u := ⟨_, List.getElem?_eq_getElem (by omega)⟩
    have e1 : (xs.drop (i * 2)).take 2 = [u0, u1] := by
      apply List.ext_getElem?
      intro r
      match r with
      | 0 => simp [hu0]
      | 1 => simp [hu1]
      | r + 2 => simp; omega
    rw [e1] at h1
    obtain ⟨ys, k', _, hxy, _, hyl, hfl⟩ := DataW.trod_struct he h1
    match ys, hyl with
    | [y0, y1], _ =>
      have q0 := hfl 0 f0 rfl
      have q1 := hfl 1 f1 rfl
      simp [o0, o1, c0, c1] at q0 q1
      obtain ⟨a, ha0, ha1, ha2, ha3⟩ := each k' u0 u1 y0 y1 q0 q1
      refine ⟨a, by rw [hu0, ha0], by rw [hu1, ha1], ha2, ?_⟩
      have hD : D i = .agg [y0.1, y1.1] := by
        simp only [Prod.mk.injEq] at hxy
        simpa using hxy.1
      rw [hD]
      simp only [Rows.uptoBulk, Rows.uptoBulkAll]
      omega
  have e3 : xs = ((List.range n).map f).flatMap fun a => [g0 a, g1 a] := by
    apply List.ext_getElem?
    intro j
    rcases Nat.lt_or_ge j (n * 2) with h1 | h1
    · have hq : j / 2 < n := by omega
      have h2 := hf (j / 2) hq
      have h3 := flat_two g0 g1 ((List.range n).map f) (j / 2)
      have h4 : ((List.range n).map f)[j / 2]? = some (f (j / 2)) := by simp [hq]
      rw [h4] at h3
      rcases Nat.mod_two_eq_zero_or_one j with hm | hm
      · have e : j / 2 * 2 = j := by omega
        rw [e] at h2 h3
        rw [h2.1, h3.1]
        rfl
      · have e : j / 2 * 2 + 1 = j := by omega
        rw [e] at h2 h3
        rw [h2.2.1, h3.2]
        rfl
    · rw [List.getElem?_eq_none (by omega), List.getElem?_eq_none (by rw [flat_two_length]; simp; omega)]
  have hl : ((List.range n).map f).length = n := by simp
  refine ⟨(List.range n).map f, ?_, fun a ha => ?_, ?_, ?_⟩
  · rw [← e3, hl]
    exact hr
  · obtain ⟨i, hi, rfl⟩ := List.mem_map.1 ha
    exact (hf i (List.mem_range.1 hi)).2.2.1
  · have hw := weigh wt D ((List.range n).map f) 0 fun i a hia => by
      have hi : i < n := by
        rcases Nat.lt_or_ge i n with h1 | h1
        · exact h1
        · rw [List.getElem?_eq_none (by simp; exact h1)] at hia; cases hia
      simp [hi] at hia
      subst hia
      rw [Nat.zero_add]
      exact (hf i hi).2.2.2
    rw [hl] at hw
    simp only [Nat.zero_add] at hw
    rw [show (List.map (fun i => D i) (List.range n)) = List.map D (List.range n) from rfl] at hw
    omega
  · have h5 := length_le ((List.range n).map D)
    rw [List.length_map, List.length_range] at h5
    rw [hl]
    omega
/-- Slices of two-field structs, within the form's reach. -/
theorem trod_pairsW {α : Type} [Inhabited α] (g0 g1 : α → Value) (wt : α → Nat) (R : α → Prop) {t e : TypeId} {f0 f1 : Field} {fuel : Nat} {v : Value} {x : DataW H × List MemPlace} (ht : P.underlying t = some (.slice e)) (he : P.underlying e = some (.struct #[f0, f1]))
    (ce : P.cellsOf e = 2) (o0 : f0.offset = 0) (o1 : f1.offset = 1) (c0 : P.cellsOf f0.type = 1) (c1 : P.cellsOf f1.type = 1)
    (each : ∀ (k : Nat) (u0 u1 : Value) (y0 y1 : DataW H × List MemPlace), DataW.trod enc P W 0 (fun _ => true) true k f0.type [u0] = some y0 → DataW.trod enc P W 0 (fun _ => true) true k f1.type [u1] = some y1 → Wok P f0.type y0.1 → Wok P f1.type y1.1 → ∃ a, u0 = g0 a ∧ u1 = g1 a ∧ R a ∧ wt a ≤ Rows.uptoBulk y0.1 + Rows.uptoBulk y1.1 + 1)
    (h : DataW.trod enc P W 0 (fun _ => true) true fuel t [v] = some x) (hw : Wok P t x.1) :
    ∃ l : List α, Rd W (Old W) 2 v l.length (l.flatMap fun a => [g0 a, g1 a]) ∧ (∀ a ∈ l, R a) ∧ (l.map wt).sum + 1 ≤ Rows.uptoBulk x.1 ∧ l.length + 1 ≤ Rows.uptoBulk x.1 := by
  obtain ⟨n, xs, D, Pl, k, hr, hb, hx, hwk⟩ := trod_rdW ht ce (by decide) h
  have hwk := hwk hw
  have hlen : xs.length = n * 2 := hr.1
  obtain ⟨f, hf⟩ := choose_lt (α := α) (n := n) (p := fun i a => xs[i * 2]? = some (g0 a) ∧ xs[i * 2 + 1]? = some (g1 a) ∧ R a ∧ wt a ≤ Rows.uptoBulk (D i)) fun i hi => by
    have h1 := hx i hi
    obtain ⟨u0, hu0⟩ : ∃ u, xs[i * 2]? = some u := ⟨_, List.getElem?_eq_getElem (by omega)⟩
    obtain ⟨u1, hu1⟩ : ∃ u, xs[i * 2 + 1]? = some u := ⟨_, List.getElem?_eq_getElem (by omega)⟩
    have e1 : (xs.drop (i * 2)).take 2 = [u0, u1] := by
      apply List.ext_getElem?
      intro r
      match r with
      | 0 => simp [hu0]
      | 1 => simp [hu1]
      | r + 2 => simp; omega
    rw [e1] at h1
    obtain ⟨ys, k', _, hxy, _, hyl, hfl⟩ := DataW.trod_struct he h1
    match ys, hyl with
    | [y0, y1], _ =>
      have q0 := hfl 0 f0 rfl
      have q1 := hfl 1 f1 rfl
      simp [o0, o1, c0, c1] at q0 q1
      have hD : D i = .agg [y0.1, y1.1] := by
        simp only [Prod.mk.injEq] at hxy
        simpa using hxy.1
      have hwi := hwk i hi
      rw [hD] at hwi
      obtain ⟨a, ha0, ha1, ha2, ha3⟩ := each k' u0 u1 y0 y1 q0 q1 (wok_part (j := 0) he hwi rfl rfl) (wok_part (j := 1) he hwi rfl rfl)
      refine ⟨a, by rw [hu0, ha0], by rw [hu1, ha1], ha2, ?_⟩
      rw [hD]
      simp only [Rows.uptoBulk, Rows.uptoBulkAll]
      omega
  have e3 : xs = ((List.range n).map f).flatMap fun a => [g0 a, g1 a] := by
    apply List.ext_getElem?
    intro j
    rcases Nat.lt_or_ge j (n * 2) with h1 | h1
    · have hq : j / 2 < n := by omega
      have h2 := hf (j / 2) hq
      have h3 := flat_two g0 g1 ((List.range n).map f) (j / 2)
      have h4 : ((List.range n).map f)[j / 2]? = some (f (j / 2)) := by simp [hq]
      rw [h4] at h3
      rcases Nat.mod_two_eq_zero_or_one j with hm | hm
      · have e : j / 2 * 2 = j := by omega
        rw [e] at h2 h3
        rw [h2.1, h3.1]
        rfl
      · have e : j / 2 * 2 + 1 = j := by omega
        rw [e] at h2 h3
        rw [h2.2.1, h3.2]
        rfl
    · rw [List.getElem?_eq_none (by omega), List.getElem?_eq_none (by rw [flat_two_length]; simp; omega)]
  have hl : ((List.range n).map f).length = n := by simp
  refine ⟨(List.range n).map f, ?_, fun a ha => ?_, ?_, ?_⟩
  · rw [← e3, hl]
    exact hr
  · obtain ⟨i, hi, rfl⟩ := List.mem_map.1 ha
    exact (hf i (List.mem_range.1 hi)).2.2.1
  · have hw := weigh wt D ((List.range n).map f) 0 fun i a hia => by
      have hi : i < n := by
        rcases Nat.lt_or_ge i n with h1 | h1
        · exact h1
        · rw [List.getElem?_eq_none (by simp; exact h1)] at hia; cases hia
      simp [hi] at hia
      subst hia
      rw [Nat.zero_add]
      exact (hf i hi).2.2.2
    rw [hl] at hw
    simp only [Nat.zero_add] at hw
    rw [show (List.map (fun i => D i) (List.range n)) = List.map D (List.range n) from rfl] at hw
    omega
  · have h5 := length_le ((List.range n).map D)
    rw [List.length_map, List.length_range] at h5
    rw [hl]
    omega
/-- Slices whose elements are one cell. -/
theorem trod_ones {α : Type} [Inhabited α] (g : α → Value) (wt : α → Nat) (R : α → Prop) {t e : TypeId} {fuel : Nat} {v : Value} {x : DataW H × List MemPlace} (ht : P.underlying t = some (.slice e)) (ce : P.cellsOf e = 1)
    (each : ∀ (k : Nat) (u : Value) (y : DataW H × List MemPlace), DataW.trod enc P W 0 (fun _ => true) true k e [u] = some y → ∃ a, u = g a ∧ R a ∧ wt a ≤ Rows.uptoBulk y.1)
    (h : DataW.trod enc P W 0 (fun _ => true) true fuel t [v] = some x) :
    ∃ l : List α, Rd W (Old W) 1 v l.length (l.map g) ∧ (∀ a ∈ l, R a) ∧ (l.map wt).sum + 1 ≤ Rows.uptoBulk x.1 ∧ l.length + 1 ≤ Rows.uptoBulk x.1 := by
  obtain ⟨n, xs, D, Pl, k, hr, hb, hx⟩ := trod_rd ht ce (by decide) h
  have hlen : xs.length = n := by simpa using hr.1
  obtain ⟨f, hf⟩ := choose_lt (α := α) (n := n) (p := fun i a => xs[i]? = some (g a) ∧ R a ∧ wt a ≤ Rows.uptoBulk (D i)) fun i hi => by
    have h1 := hx i hi
    obtain ⟨u, hu⟩ : ∃ u, xs[i]? = some u := ⟨_, List.getElem?_eq_getElem (by omega)⟩
    have e1 : (xs.drop (i * 1)).take 1 = [u] := by
      apply List.ext_getElem?
      intro r
      match r with
      | 0 => simp [hu]
      | r + 1 => simp; omega
    rw [e1] at h1
    obtain ⟨a, ha, hR, hw⟩ := each k u _ h1
    exact ⟨a, by rw [hu, ha], hR, hw⟩
  have e3 : xs = ((List.range n).map f).map g := by
    apply List.ext_getElem?
    intro i
    rcases Nat.lt_or_ge i n with h1 | h1
    · rw [(hf i h1).1]
      simp [h1]
    · rw [List.getElem?_eq_none (by omega), List.getElem?_eq_none (by simp; omega)]
  have hl : ((List.range n).map f).length = n := by simp
  refine ⟨(List.range n).map f, ?_, fun a ha => ?_, ?_, ?_⟩
  · rw [← e3, hl]
    exact hr
  · obtain ⟨i, hi, rfl⟩ := List.mem_map.1 ha
    exact (hf i (List.mem_range.1 hi)).2.1
  · have hw := weigh wt D ((List.range n).map f) 0 fun i a hia => by
      have hi : i < n := by
        rcases Nat.lt_or_ge i n with h1 | h1
        · exact h1
        · rw [List.getElem?_eq_none (by simp; exact h1)] at hia; cases hia
      simp [hi] at hia
      subst hia
      rw [Nat.zero_add]
      exact (hf i hi).2.2
    rw [hl] at hw
    simp only [Nat.zero_add] at hw
    rw [show (List.map (fun i => D i) (List.range n)) = List.map D (List.range n) from rfl] at hw
    omega
  · have h5 := length_le ((List.range n).map D)
    rw [List.length_map, List.length_range] at h5
    rw [hl]
    omega
/-- Slices of slices of bytes. -/
theorem trod_rows {t e q : TypeId} {fuel : Nat} {v : Value} {x : DataW H × List MemPlace} (ht : P.underlying t = some (.slice e)) (he : P.underlying e = some (.slice q)) (hq : P.underlying q = some (.int .u8)) (ce : P.cellsOf e = 1) (cq : P.cellsOf q = 1)
    (h : DataW.trod enc P W 0 (fun _ => true) true fuel t [v] = some x) :
    ∃ l : List (Value × List UInt8), Rd W (Old W) 1 v l.length (l.map (·.1)) ∧ (∀ a ∈ l, Rd W (Old W) 1 a.1 a.2.length (vbs a.2)) ∧ (l.map fun a => a.2.length + 1).sum + 1 ≤ Rows.uptoBulk x.1 ∧ l.length + 1 ≤ Rows.uptoBulk x.1 :=
  haveI : Inhabited Value := ⟨.int .i64 0⟩
  trod_ones (α := Value × List UInt8) (fun a => a.1) (fun a => a.2.length + 1) (fun a => Rd W (Old W) 1 a.1 a.2.length (vbs a.2)) ht ce (fun k u y hy => by
    obtain ⟨b, hb, hw⟩ := trod_bytes he hq cq hy
    exact ⟨(u, b), rfl, hb, hw⟩) h
end
end Go.Proofs.YtcifajfmdpjfiaaDoor.Law

/- Arguments as lists: how long a slice is, within the form's reach. -/
namespace Go.Proofs.YtcifajfmdpjfiaaDoor.Law
open Go.ChangeShapes Go.WideShapes Go.RowKit Go.Tum Go.Deep
variable {H : Type} {enc : TypeId × Value → H} {P : Program} {W : World}
theorem trod_bytes_len {t e : TypeId} {size fuel n : Nat} {xs : List Value} {F : Nat → Prop} {v : Value} {x : DataW H × List MemPlace} (ht : P.underlying t = some (.slice e)) (h : DataW.trod enc P W 0 (fun _ => true) true fuel t [v] = some x) (hw : Wok P t x.1) (hr : Rd W F size v n xs) : n * P.bytesOf e ≤ reachBytes := by
  obtain ⟨A, c, rfl, _, _⟩ := hr.form
  rcases open_slice ht h with ⟨e1, rfl⟩ | ⟨a, len, cap, m, k, D, Pl, e1, _, hl, hm, hmm, rfl, hx⟩
  · injection e1 with e1
    injection e1 with e1 e2
    subst e2
    simp
  · injection e1 with e1
    injection e1 with e1 e2 e3
    subst e2
    have h1 := hw _ (by simp only [DataW.weights, ht]; exact List.mem_cons_self)
    refine Nat.le_trans (Nat.mul_le_mul_right _ ?_) h1
    simp
end Go.Proofs.YtcifajfmdpjfiaaDoor.Law
