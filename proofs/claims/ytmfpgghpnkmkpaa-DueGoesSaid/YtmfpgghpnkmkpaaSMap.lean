/- Maps from strings to numbers, read as functions; laws at the operation. No program here. -/
import Derived.Test.YtmfpgghpnkmkpaaBase
import Derived.Maps.OwnSet
namespace Go.Tum
open Go.RowKit Go.Maps Go.WideMaps
abbrev MF := List UInt8 → Option Int
/-- Block b is a map of n entries that reads as f. -/
def SMap (P : Program) (k e : TypeId) (w : World) (b n : Nat) (f : MF) : Prop :=
  ∃ D : DataW Unit, w.ownsMap P k (plainElem P e) b n D ∧ Maps.size D = n ∧ ∀ key z, D.atKey (.string key) z = (match f key with | some v => .lit (.int .i64 v) | none => z)
def ks (k : List UInt8) : Value := .string ⟨k.toArray⟩
section
variable {P : Program} {k e t : TypeId} {w w' : World} {b n : Nat} {f : MF}
theorem SMap.made (P : Program) (k e : TypeId) (w : World) : SMap P k e (w.alloc (.map #[] 0)) w.heap.size 0 (fun _ => none) :=
  ⟨.map [], World.ownsMap_made w P k _, rfl, fun _ _ => rfl⟩
theorem SMap.lt (h : SMap P k e w b n f) : b < w.heap.size := by obtain ⟨D, h1, _⟩ := h; exact h1.lt
theorem SMap.of_block (h : SMap P k e w b n f) (hb : w'.heap[b]? = w.heap[b]?) : SMap P k e w' b n f := by
  obtain ⟨D, ⟨es, clock, h1, h2⟩, h3⟩ := h
  exact ⟨D, ⟨es, clock, hb.trans h1, h2⟩, h3⟩
theorem SMap.same {F : Nat → Prop} (h : SMap P k e w b n f) (hs : Same F w w') (hb : F b) : SMap P k e w' b n f := h.of_block (hs b hb)
theorem SMap.mods {S : Nat → Prop} (h : SMap P k e w b n f) (hs : Mods S w w') (hb : ¬ S b) : SMap P k e w' b n f := h.of_block (hs.block b h.lt hb)
theorem SMap.drew (h : SMap P k e w b n f) : SMap P k e w.drew b n f := h
theorem SMap.far (h : SMap P k e w b n f) {p : Addr} (hp : b ≠ p.block) (u : Value) : SMap P k e (w.setCell p u) b n f := h.of_block (Below.heap_setCell w p u b hp)
theorem SMap.alloc (h : SMap P k e w b n f) (o : Obj) : SMap P k e (w.alloc o) b n f := h.of_block (Below.heap_alloc w o b h.lt)
theorem SMap.ne_cells (h : SMap P k e w b n f) {g : Nat} {T : TypeId} {cs : Array Value} (hc : Cells w g T cs) : b ≠ g := by
  rintro rfl
  obtain ⟨D, ⟨es, clock, h1, _⟩, _⟩ := h
  unfold Cells at hc
  rw [h1] at hc
  cases hc
theorem smap_has {D : DataW Unit} {f : MF} (h : ∀ key z, D.atKey (.string key) z = (match f key with | some v => .lit (.int .i64 v) | none => z)) (key : List UInt8) : Maps.has D (.string key) = (f key).isSome := by
  cases hf : f key with
  | none => exact has_false_of_atKey fun z => by rw [h, hf]
  | some v => exact has_true_of_atKey (y := .lit (.int .i64 v)) fun z => by rw [h, hf]
theorem SMap.congr (h : SMap P k e w b n f) {g : MF} (hg : ∀ key, g key = f key) : SMap P k e w b n g := by
  obtain ⟨D, h1, h2, h3⟩ := h
  exact ⟨D, h1, h2, fun key z => by rw [h3, hg]⟩
theorem SMap.put (h : SMap P k e w b n f) (hk : P.underlying k = some .string) (ht : P.underlying t = some (.map k e)) (he : P.underlying e = some (.int .i64)) (hn : n < maxLen) {key : List UInt8} (hl : key.length ≤ maxLen) {v : Int} (hv : (Lit.int .i64 v).wf = true) :
    ∃ w', (Instr.mapUpdate t (.map (some b)) (ks key) (.int .i64 v)).run P w = .ok () w' ∧ SMap P k e w' b (if (f key).isSome then n else n + 1) (fun k' => if k' = key then some v else f k') ∧ Mods (fun g => g = b) w w' := by
  obtain ⟨D, h1, h2, h3⟩ := h
  obtain ⟨w', hrun, r1, r2⟩ := h1.store (string_keyed hk) ht hn (keyOf_string_mk hk (s := ⟨key.toArray⟩) hl) (plainElem_int he hv)
  have hsz := size_put (h1.tidy (string_keyed hk)) (k := .string key) (d := .lit (.int .i64 v))
  have hhas := smap_has h3 key
  have hg := r2.grown
  refine ⟨w', hrun, ⟨D.put (.string key) (.lit (.int .i64 v)), ?_, ?_, fun k' z => ?_⟩, ⟨hg.os, hg.tape, hg.output, hg.size, fun i hi hne => hg.block i hi fun e => hne (by injection e)⟩⟩
  · rw [← hhas, ← h2, ← hsz]
    obtain ⟨es, clock, q1, q2, q3, q4⟩ := r1
    refine ⟨es, clock, q1, q2, ?_, q4⟩
    have q5 : Maps.size (D.put (.string key) (.lit (.int .i64 v))) = es.size := by
      have : Maps.size (D.put (.string (ByteArray.mk key.toArray).data.toList) (.lit (.int .i64 v))) = es.size := by rw [q4]; simp [Maps.size, length_sorted]
      simpa using this
    omega
  · rw [hsz, h2, hhas]
  · by_cases e : k' = key
    · subst e
      dsimp only
      rw [if_pos rfl, atKey_put_same h1.isMap ((string_keyed hk).key (keyOf_string_mk hk (s := ⟨k'.toArray⟩) hl))]
    · dsimp only; rw [if_neg e, atKey_put_other (by intro e2; injection e2 with e2; exact e e2), h3]
theorem SMap.del (h : SMap P k e w b n f) (hk : P.underlying k = some .string) (ht : P.underlying t = some (.map k e)) {key : List UInt8} (hl : key.length ≤ maxLen) (ty : TypeId) :
    ∃ w', (Builtin.delete_ #[t, k] ty #[.map (some b), ks key]).run P w = .ok (.tuple #[]) w' ∧ SMap P k e w' b (if (f key).isSome then n - 1 else n) (fun k' => if k' = key then none else f k') ∧ Mods (fun g => g = b) w w' := by
  obtain ⟨D, h1, h2, h3⟩ := h
  obtain ⟨w', hrun, r1, r2⟩ := h1.drop (string_keyed hk) ht (keyOf_string_mk hk (s := ⟨key.toArray⟩) hl) ty
  have hsz := size_del (h1.tidy (string_keyed hk)) (k := .string key)
  have hhas := smap_has h3 key
  have hg := r2.grown
  have hsz2 : Maps.size (D.del (.string key)) = if (f key).isSome then n - 1 else n := by
    rw [hhas, h2] at hsz
    split <;> rename_i c <;> simp [c] at hsz <;> omega
  refine ⟨w', hrun, ⟨D.del (.string key), ?_, hsz2, fun k' z => ?_⟩, ⟨hg.os, hg.tape, hg.output, hg.size, fun i hi hne => hg.block i hi fun e => hne (by injection e)⟩⟩
  · rw [← hsz2]
    obtain ⟨es, clock, q1, q2, q3, q4⟩ := r1
    refine ⟨es, clock, q1, q2, ?_, q4⟩
    have q5 : Maps.size (D.del (.string key)) = es.size := by
      have : Maps.size (D.del (.string (ByteArray.mk key.toArray).data.toList)) = es.size := by rw [q4]; simp [Maps.size, length_sorted]
      simpa using this
    omega
  · by_cases e : k' = key
    · subst e
      dsimp only
      rw [if_pos rfl, atKey_del_same]
    · dsimp only; rw [if_neg e, atKey_del_other (by intro e2; injection e2 with e2; exact e e2), h3]
theorem SMap.look_ok (h : SMap P k e w b n f) (hk : P.underlying k = some .string) (ht : P.underlying t = some (.map k e)) (he : P.underlying e = some (.int .i64)) (hz : (zeroValue e).run P w = .ok (.int .i64 0) w) {key : List UInt8} (hl : key.length ≤ maxLen) :
    (Instr.lookup t (.map (some b)) (ks key) true).run P w = .ok (.tuple #[.int .i64 ((f key).getD 0), .bool (f key).isSome]) w := by
  obtain ⟨D, h1, h2, h3⟩ := h
  obtain ⟨v, ps, hrun, hv⟩ := h1.look_ok (string_keyed hk) ht hz (plainElem_int he (by decide)) (keyOf_string_mk hk (s := ⟨key.toArray⟩) hl)
  obtain ⟨c, rfl, hc, hwc⟩ := plainElem_int_inv he hv
  have e1 := congrArg Prod.fst hc
  dsimp only at e1
  rw [h3] at e1
  have hrun' : (Instr.lookup t (.map (some b)) (ks key) true).run P w = .ok (.tuple #[.int .i64 c, .bool (Maps.has D (.string key))]) w := hrun
  rw [hrun', smap_has h3]
  cases hf : f key with
  | none => rw [hf] at e1; injection e1 with e1; injection e1 with _ e1; rw [← e1]; rfl
  | some v => rw [hf] at e1; injection e1 with e1; injection e1 with _ e1; rw [← e1]; rfl
theorem SMap.look (h : SMap P k e w b n f) (hk : P.underlying k = some .string) (ht : P.underlying t = some (.map k e)) (he : P.underlying e = some (.int .i64)) (hz : (zeroValue e).run P w = .ok (.int .i64 0) w) {key : List UInt8} (hl : key.length ≤ maxLen) :
    (Instr.lookup t (.map (some b)) (ks key) false).run P w = .ok (.int .i64 ((f key).getD 0)) w := by
  obtain ⟨D, h1, h2, h3⟩ := h
  obtain ⟨c, hrun, hat, hwc⟩ := h1.lookup_int (string_keyed hk) ht he hz (keyOf_string_mk hk (s := ⟨key.toArray⟩) hl)
  have hrun' : (Instr.lookup t (.map (some b)) (ks key) false).run P w = .ok (.int .i64 c) w := hrun
  have e1 : D.atKey (.string key) (.lit (.int .i64 0)) = .lit (.int .i64 c) := hat
  rw [h3] at e1
  rw [hrun']
  cases hf : f key with
  | none => rw [hf] at e1; injection e1 with e1; injection e1 with _ e1; rw [← e1]; rfl
  | some v => rw [hf] at e1; injection e1 with e1; injection e1 with _ e1; rw [← e1]; rfl
theorem SMap.len (h : SMap P k e w b n f) (ht : P.underlying t = some (.map k e)) (ty : TypeId) : (Builtin.len_ #[t] ty #[.map (some b)]).run P w = .ok (.int .i64 n) w := by
  obtain ⟨D, h1, h2, h3⟩ := h
  rw [h1.len ht ty, h2]
end
section
variable {P : Program} (w : World) {ops : Array Oper} {rest : List Oper} {o : Oper} {a : Act} {Q : Exit → Act → World → Prop} {k e t : TypeId} {b n : Nat} {f : MF}
/-- v, ok := m[key] -/
theorem wpList_smap_ok (hg : o.guard = none) (m x : Operand) (hop : o.op = Op.lookup t m x true) (hk : P.underlying k = some .string) (ht : P.underlying t = some (.map k e)) (he : P.underlying e = some (.int .i64)) (hz : ∀ w, (zeroValue e).run P w = .ok (.int .i64 0) w)
    (hm : a.eval m = .map (some b)) (key : List UInt8) (hx : a.eval x = ks key) (h : SMap P k e w b n f) (hl : key.length ≤ maxLen)
    (hK : wpList P ops Q rest (a.put o.dst (.tuple #[.int .i64 ((f key).getD 0), .bool (f key).isSome])) w) : wpList P ops Q (o :: rest) a w := by
  refine wpList_plain hg fun K' hK' => ?_
  have hrun := h.look_ok hk ht he (hz w) hl
  unfold Oper.wp
  simp [execOp, hop, hm, hx, hrun, Result.andThen]
  exact hK' _ _ hK
theorem wpList_smap_some (hg : o.guard = none) (m x : Operand) (hop : o.op = Op.lookup t m x true) (hk : P.underlying k = some .string) (ht : P.underlying t = some (.map k e)) (he : P.underlying e = some (.int .i64)) (hz : ∀ w, (zeroValue e).run P w = .ok (.int .i64 0) w)
    (hm : a.eval m = .map (some b)) (key : List UInt8) (hx : a.eval x = ks key) (h : SMap P k e w b n f) (hl : key.length ≤ maxLen) (v : Int) (hf : f key = some v)
    (hK : wpList P ops Q rest (a.put o.dst (.tuple #[.int .i64 v, .bool true])) w) : wpList P ops Q (o :: rest) a w :=
  wpList_smap_ok w hg m x hop hk ht he hz hm key hx h hl (by rw [hf]; exact hK)
theorem wpList_smap_none (hg : o.guard = none) (m x : Operand) (hop : o.op = Op.lookup t m x true) (hk : P.underlying k = some .string) (ht : P.underlying t = some (.map k e)) (he : P.underlying e = some (.int .i64)) (hz : ∀ w, (zeroValue e).run P w = .ok (.int .i64 0) w)
    (hm : a.eval m = .map (some b)) (key : List UInt8) (hx : a.eval x = ks key) (h : SMap P k e w b n f) (hl : key.length ≤ maxLen) (hf : f key = none)
    (hK : wpList P ops Q rest (a.put o.dst (.tuple #[.int .i64 0, .bool false])) w) : wpList P ops Q (o :: rest) a w :=
  wpList_smap_ok w hg m x hop hk ht he hz hm key hx h hl (by rw [hf]; exact hK)
/-- m[key] -/
theorem wpList_smap (hg : o.guard = none) (m x : Operand) (hop : o.op = Op.lookup t m x false) (hk : P.underlying k = some .string) (ht : P.underlying t = some (.map k e)) (he : P.underlying e = some (.int .i64)) (hz : ∀ w, (zeroValue e).run P w = .ok (.int .i64 0) w)
    (hm : a.eval m = .map (some b)) (key : List UInt8) (hx : a.eval x = ks key) (h : SMap P k e w b n f) (hl : key.length ≤ maxLen)
    (hK : wpList P ops Q rest (a.put o.dst (.int .i64 ((f key).getD 0))) w) : wpList P ops Q (o :: rest) a w := by
  refine wpList_plain hg fun K' hK' => ?_
  have hrun := h.look hk ht he (hz w) hl
  unfold Oper.wp
  simp [execOp, hop, hm, hx, hrun, Result.andThen]
  exact hK' _ _ hK
/-- m[key] = v -/
theorem wpList_smap_put (hg : o.guard = none) (m x y : Operand) (hop : o.op = Op.mapUpdate t m x y) (hk : P.underlying k = some .string) (ht : P.underlying t = some (.map k e)) (he : P.underlying e = some (.int .i64))
    (hm : a.eval m = .map (some b)) (key : List UInt8) (hx : a.eval x = ks key) (v : Int) (hy : a.eval y = .int .i64 v) (h : SMap P k e w b n f) (hl : key.length ≤ maxLen) (hn : n < maxLen) (hv : (Lit.int .i64 v).wf = true)
    (hK : ∀ w', SMap P k e w' b (if (f key).isSome then n else n + 1) (fun k' => if k' = key then some v else f k') → Mods (fun g => g = b) w w' → wpList P ops Q rest (a.put o.dst undef) w') : wpList P ops Q (o :: rest) a w := by
  refine wpList_plain hg fun K' hK' => ?_
  obtain ⟨w', hrun, r1, r2⟩ := h.put hk ht he hn hl hv
  unfold Oper.wp
  simp [execOp, hop, hm, hx, hy, hrun, Result.andThen]
  exact hK' _ _ (hK w' r1 r2)
/-- delete(m, key) -/
theorem wpList_smap_del (hg : o.guard = none) (m x : Operand) (hop : o.op = Op.call { callee := Callee.builtin Builtin.delete, args := #[m, x], argTypes := #[t, k] }) (hk : P.underlying k = some .string) (ht : P.underlying t = some (.map k e))
    (hm : a.eval m = .map (some b)) (key : List UInt8) (hx : a.eval x = ks key) (h : SMap P k e w b n f) (hl : key.length ≤ maxLen)
    (hK : ∀ w', SMap P k e w' b (if (f key).isSome then n - 1 else n) (fun k' => if k' = key then none else f k') → Mods (fun g => g = b) w w' → wpList P ops Q rest (a.put o.dst (.tuple #[])) w') : wpList P ops Q (o :: rest) a w := by
  refine wpList_plain hg fun K' hK' => ?_
  obtain ⟨w', hrun, r1, r2⟩ := h.del hk ht hl o.type
  unfold Oper.wp
  simp [execOp, hop, resolve, invoke, builtin, hm, hx, hrun, Result.andThen]
  exact hK' _ _ (hK w' r1 r2)
end
end Go.Tum
