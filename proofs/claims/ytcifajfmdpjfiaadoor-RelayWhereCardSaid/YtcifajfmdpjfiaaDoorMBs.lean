/- Texts of one part together. -/
import Derived.WalkKit
import Derived.Maps.AppendAt
import Derived.Deep.Draws
import Derived.Laws.IdiomStrings
import Derived.Lib.Bytes
import Derived.Shelf.Spec.SlicesInsertGrow
import Derived.Shelf.Slices.Delete
import Derived.Laws.OwnMore
import Derived.Laws.CopyRow
import Derived.Maps.OwnSet
import Derived.Shelf.SlSortCmp.NoneTotal
import Derived.Sort.OwnSortedInts
import Derived.Tactics
import Derived.Orders
/- What every text of these claims uses: words for memory (which blocks a call may turn), slices that read as lists, structs behind pointers. Plain definitions and theorems over any program. -/
namespace Go.Tum
open Go.RowKit

/-- The call returns, and so and so. -/
def Ret (Φ : Value → World → Prop) : Ending → World → Prop
  | .returned v, w => Φ v w
  | _, _ => False
theorem ret_use {P : Program} {f : FuncId} {args : Array Value} {w : World} {Φ : Value → World → Prop} {R : Ending → World → Prop}
    (h : Calls P f args w (Ret Φ)) (k : ∀ v w', Φ v w' → R (.returned v) w') : Calls P f args w R :=
  h.mono fun e w' he => by
    cases e with
    | returned v => exact k v w' he
    | panicked c => exact he.elim
    | outgrown => exact he.elim

/-! ### Which blocks may have turned -/
/-- Of the blocks that were there, those outside S are as they were. -/
structure Mods (S : Nat → Prop) (w w' : World) : Prop where
  os : w'.os = w.os
  tape : w'.tape = w.tape
  output : w'.output = w.output
  size : w.heap.size ≤ w'.heap.size
  block : ∀ k, k < w.heap.size → ¬ S k → w'.heap[k]? = w.heap[k]?
def No : Nat → Prop := fun _ => False
def Lt (n : Nat) : Nat → Prop := fun k => k < n
/-- All blocks of F are as they were. -/
def Same (F : Nat → Prop) (w w' : World) : Prop := ∀ k, F k → w'.heap[k]? = w.heap[k]?

theorem Mods.refl (S : Nat → Prop) (w : World) : Mods S w w := ⟨rfl, rfl, rfl, Nat.le_refl _, fun _ _ _ => rfl⟩
theorem Mods.mono {S T : Nat → Prop} {w w' : World} (h : Mods S w w') (hs : ∀ k, k < w.heap.size → S k → T k) : Mods T w w' :=
  ⟨h.os, h.tape, h.output, h.size, fun k hk hn => h.block k hk fun s => hn (hs k hk s)⟩
theorem Mods.trans {S T : Nat → Prop} {a b c : World} (h : Mods S a b) (k : Mods T b c) (hs : ∀ k, k < a.heap.size → T k → S k) : Mods S a c :=
  ⟨k.os.trans h.os, k.tape.trans h.tape, k.output.trans h.output, Nat.le_trans h.size k.size, fun i hi hn =>
    (k.block i (Nat.lt_of_lt_of_le hi h.size) fun t => hn (hs i hi t)).trans (h.block i hi hn)⟩
theorem Mods.drew {S : Nat → Prop} {a w : World} (h : Mods S a w) : Mods S a w.drew := ⟨h.os, h.tape, h.output, h.size, h.block⟩
theorem Mods.drewN {S : Nat → Prop} {a w : World} (h : Mods S a w) (n : Nat) : Mods S a (w.drewN n) := ⟨h.os, h.tape, h.output, h.size, h.block⟩
theorem Mods.alloc {S : Nat → Prop} {a w : World} (h : Mods S a w) (o : Obj) : Mods S a (w.alloc o) :=
  h.trans (T := No) ⟨rfl, rfl, rfl, by simp, fun k hk _ => Below.heap_alloc _ _ _ hk⟩ (fun _ _ h => h.elim)
theorem Mods.setCell {S : Nat → Prop} {a w : World} (h : Mods S a w) (p : Addr) (u : Value) (hp : p.block < a.heap.size → S p.block) : Mods S a (w.setCell p u) :=
  h.trans (T := fun k => k = p.block) ⟨rfl, rfl, rfl, by simp [World.setCell], fun k _ hn => Below.heap_setCell _ _ _ _ hn⟩ (fun k hk e => by subst e; exact hp hk)
theorem Mods.grown {S : Nat → Prop} {a w w' : World} {row : Option Nat} (h : Mods S a w) (hg : w.grownBy w' row) (hr : ∀ k, row = some k → k < a.heap.size → S k) : Mods S a w' :=
  h.trans (T := fun k => row = some k) ⟨hg.os, hg.tape, hg.output, hg.size, fun k hk hn => hg.block k hk fun e => hn e.symm⟩ (fun k hk e => hr k e hk)
theorem Mods.same {S F : Nat → Prop} {w w' : World} (h : Mods S w w') (hF : ∀ k, F k → k < w.heap.size ∧ ¬ S k) : Same F w w' := fun k hk => h.block k (hF k hk).1 (hF k hk).2
theorem Mods.below {w w' : World} (h : Mods No w w') : Below w.heap.size w w' := ⟨h.os, h.tape, h.output, h.size, fun k hk => h.block k hk fun s => s⟩
theorem Mods.of_below {w w' : World} (h : Below w.heap.size w w') : Mods No w w' := ⟨h.os, h.tape, h.output, h.size, fun k hk _ => h.block k hk⟩

theorem Same.refl (F : Nat → Prop) (w : World) : Same F w w := fun _ _ => rfl
theorem Same.trans {F : Nat → Prop} {a b c : World} (h : Same F a b) (k : Same F b c) : Same F a c := fun i hi => (k i hi).trans (h i hi)
theorem Same.sub {F G : Nat → Prop} {a b : World} (h : Same F a b) (hs : ∀ k, G k → F k) : Same G a b := fun i hi => h i (hs i hi)
theorem Same.cell {F : Nat → Prop} {a b : World} (h : Same F a b) {p : Addr} (hp : F p.block) : b.cell? p = a.cell? p := World.cell?_of_block (h _ hp)
theorem Same.frozen {F : Nat → Prop} {a b : World} (h : Same F a b) {p : Addr} (hp : F p.block) : b.frozen? p = a.frozen? p := World.frozen?_of_block (h _ hp)
theorem Same.drew (F : Nat → Prop) (w : World) : Same F w w.drew := fun _ _ => rfl
theorem Same.drewN (F : Nat → Prop) (w : World) (n : Nat) : Same F w (w.drewN n) := fun _ _ => rfl
theorem Same.alloc {F : Nat → Prop} (w : World) (o : Obj) (hF : ∀ k, F k → k < w.heap.size) : Same F w (w.alloc o) := fun k hk => Below.heap_alloc w o k (hF k hk)
theorem Same.setCell {F : Nat → Prop} (w : World) (p : Addr) (u : Value) (hF : ¬ F p.block) : Same F w (w.setCell p u) := fun k hk => Below.heap_setCell w p u k fun e => hF (e ▸ hk)

/-! ### A block that is known whole -/
def Cells (w : World) (g : Nat) (t : TypeId) (cs : Array Value) : Prop := w.heap[g]? = some (.cells cs t (0, 0))
section
variable {w w' : World} {g : Nat} {t : TypeId} {cs : Array Value}
theorem Cells.lt (h : Cells w g t cs) : g < w.heap.size := by
  rcases Nat.lt_or_ge g w.heap.size with hlt | hge
  · exact hlt
  · unfold Cells at h; rw [Array.getElem?_eq_none hge] at h; cases h
theorem Cells.cell (h : Cells w g t cs) (i : Nat) : w.cell? ⟨g, i, none⟩ = cs[i]? := by unfold Cells at h; simp [World.cell?, h]
theorem Cells.at_ (h : Cells w g t cs) (i : Nat) {v : Value} (hv : cs[i]? = some v) : w.cell? ⟨g, i, none⟩ = some v := (h.cell i).trans hv
theorem Cells.frozen (h : Cells w g t cs) (i : Nat) : w.frozen? ⟨g, i, none⟩ = false := by unfold Cells at h; simp [World.frozen?, h]
theorem Cells.new (w : World) (t : TypeId) (cs : Array Value) : Cells (w.alloc (.cells cs t)) w.heap.size t cs := heap_alloc_new w _
theorem Cells.drew (h : Cells w g t cs) : Cells w.drew g t cs := h
theorem Cells.drewN (h : Cells w g t cs) (n : Nat) : Cells (w.drewN n) g t cs := h
theorem Cells.alloc (h : Cells w g t cs) (o : Obj) : Cells (w.alloc o) g t cs := (Below.heap_alloc w o g h.lt).trans h
theorem Cells.set_ (h : Cells w g t cs) (i : Nat) (u : Value) : Cells (w.setCell ⟨g, i, none⟩ u) g t (cs.setIfInBounds i u) := by
  unfold Cells at h ⊢
  simp [World.setCell, Array.getElem?_modify, h]
theorem Cells.far (h : Cells w g t cs) {p : Addr} (hp : g ≠ p.block) (u : Value) : Cells (w.setCell p u) g t cs := (Below.heap_setCell w p u g hp).trans h
theorem Cells.same {F : Nat → Prop} (h : Cells w g t cs) (hs : Same F w w') (hg : F g) : Cells w' g t cs := (hs g hg).trans h
theorem Cells.mods {S : Nat → Prop} (h : Cells w g t cs) (hs : Mods S w w') (hg : ¬ S g) : Cells w' g t cs := (hs.block g h.lt hg).trans h
theorem Cells.ne_ {g' : Nat} {t' : TypeId} {cs' : Array Value} (h : Cells w g t cs) (h' : Cells w g' t' cs') (hne : t ≠ t') : g ≠ g' := by
  rintro rfl
  unfold Cells at h h'
  rw [h] at h'
  injection h' with h'
  injection h' with _ ht
  exact hne ht
end

/-! ### A slice that reads as a list -/
/-- The slice value v has n elements of 'size' cells each; they hold xs; the cells lie in a block of F. -/
def Rd (w : World) (F : Nat → Prop) (size : Nat) (v : Value) (n : Nat) (xs : List Value) : Prop :=
  xs.length = n * size ∧ ∃ A c, v = .slice A n c ∧ n ≤ c ∧ c ≤ maxLen ∧ (0 < n → ∃ b off, A = some ⟨b, off, none⟩ ∧ F b ∧ ∀ j u, xs[j]? = some u → w.cell? ⟨b, off + j, none⟩ = some u)
section
variable {w w' : World} {F G : Nat → Prop} {size n : Nat} {v : Value} {xs : List Value}
theorem Rd.nil (w : World) (F : Nat → Prop) (size : Nat) : Rd w F size (.slice none 0 0) 0 [] := ⟨by simp, none, 0, rfl, Nat.le_refl _, Nat.zero_le _, fun h => absurd h (Nat.lt_irrefl _)⟩
theorem Rd.same (h : Rd w F size v n xs) (hs : Same F w w') : Rd w' F size v n xs := by
  obtain ⟨hl, A, c, e, h1, h2, h3⟩ := h
  refine ⟨hl, A, c, e, h1, h2, fun hn => ?_⟩
  obtain ⟨b, off, ea, hb, hc⟩ := h3 hn
  exact ⟨b, off, ea, hb, fun j u hu => (hs.cell (p := ⟨b, off + j, none⟩) hb).trans (hc j u hu)⟩
theorem Rd.more (h : Rd w F size v n xs) (hs : ∀ k, F k → G k) : Rd w G size v n xs := by
  obtain ⟨hl, A, c, e, h1, h2, h3⟩ := h
  refine ⟨hl, A, c, e, h1, h2, fun hn => ?_⟩
  obtain ⟨b, off, ea, hb, hc⟩ := h3 hn
  exact ⟨b, off, ea, hs _ hb, hc⟩
/-- The value written out. -/
theorem Rd.form (h : Rd w F size v n xs) : ∃ A c, v = .slice A n c ∧ n ≤ c ∧ c ≤ maxLen := by
  obtain ⟨_, A, c, e, h1, h2, _⟩ := h
  exact ⟨A, c, e, h1, h2⟩
/-- Element i of a slice whose elements are one cell each. -/
theorem Rd.at1 (h : Rd w F 1 v n xs) {i : Nat} (hi : i < n) : ∃ b off c, v = .slice (some ⟨b, off, none⟩) n c ∧ F b ∧ w.cell? ⟨b, off + i, none⟩ = xs[i]? := by
  obtain ⟨hl, A, c, e, _, _, h3⟩ := h
  obtain ⟨b, off, rfl, hb, hc⟩ := h3 (by omega)
  have hlt : i < xs.length := by omega
  exact ⟨b, off, c, e, hb, by rw [hc i _ (List.getElem?_eq_getElem hlt), List.getElem?_eq_getElem hlt]⟩
theorem Rd.cells (h : Rd w F size v n xs) (hn : 0 < n) : ∃ b off c, v = .slice (some ⟨b, off, none⟩) n c ∧ F b ∧ ∀ j, j < n * size → w.cell? ⟨b, off + j, none⟩ = xs[j]? := by
  obtain ⟨hl, A, c, e, _, _, h3⟩ := h
  obtain ⟨b, off, rfl, hb, hc⟩ := h3 hn
  refine ⟨b, off, c, e, hb, fun j hj => ?_⟩
  have hlt : j < xs.length := by omega
  rw [hc j _ (List.getElem?_eq_getElem hlt), List.getElem?_eq_getElem hlt]
/-- 's[k:l]'. -/
theorem Rd.cut {A : Option Addr} {c : Nat} (h : Rd w F size (.slice A n c) n xs) {k l : Nat} (hk : k ≤ l) (hl : l ≤ n) :
    Rd w F size (.slice (if c = k then A else A.map (·.add (k * size))) (l - k) (c - k)) (l - k) ((xs.take (l * size)).drop (k * size)) := by
  obtain ⟨hlen, A', c', e, h1, h2, h3⟩ := h
  injection e with e1 _ e2
  subst e1
  subst e2
  have hm : l * size ≤ n * size := Nat.mul_le_mul_right _ hl
  refine ⟨by rw [List.length_drop, List.length_take, hlen, Nat.min_eq_left hm, Nat.sub_mul], _, _, rfl, by omega, by omega, fun hn => ?_⟩
  obtain ⟨b, off, rfl, hb, hc⟩ := h3 (by omega)
  rw [if_neg (by omega)]
  refine ⟨b, off + k * size, by simp [Addr.add_lit], hb, fun j u hu => ?_⟩
  rw [Nat.add_assoc]
  refine hc _ u ?_
  rw [List.getElem?_drop, List.getElem?_take] at hu
  split at hu
  · exact hu
  · cases hu
/-- 's[:l]'. -/
theorem Rd.take {A : Option Addr} {c : Nat} (h : Rd w F size (.slice A n c) n xs) {l : Nat} (hl : l ≤ n) : Rd w F size (.slice A l c) l (xs.take (l * size)) := by
  obtain ⟨hlen, A', c', e, h1, h2, h3⟩ := h
  injection e with e1 _ e2
  subst e1
  subst e2
  have hm : l * size ≤ n * size := Nat.mul_le_mul_right _ hl
  refine ⟨by rw [List.length_take, hlen, Nat.min_eq_left hm], _, _, rfl, by omega, by omega, fun hn => ?_⟩
  obtain ⟨b, off, rfl, hb, hc⟩ := h3 (by omega)
  refine ⟨b, off, rfl, hb, fun j u hu => hc j u ?_⟩
  rw [List.getElem?_take] at hu
  split at hu
  · exact hu
  · cases hu
theorem Rd.cap {A : Option Addr} {c : Nat} (h : Rd w F size (.slice A n c) n xs) : n ≤ c := by
  obtain ⟨_, A', c', e, h1, _⟩ := h
  injection e with _ _ e2
  omega
/-- What is owned reads. -/
theorem Rd.of_own {base : Nat} {e : TypeId} (h : w.ownsRow base e size v n xs) (hF : ∀ g, v.ownBlock = some g → F g) : Rd w F size v n xs := by
  have hcell := fun g (hg : v.ownBlock = some g) => h.cells hg
  rcases h.2 with ⟨rfl, rfl⟩ | ⟨g, cap, cur, rfl, hb, hh, h1, h2, _⟩
  · exact ⟨h.1, none, 0, rfl, Nat.le_refl _, Nat.zero_le _, fun h => absurd h (Nat.lt_irrefl _)⟩
  · refine ⟨h.1, _, cap, rfl, h1, h2, fun _ => ⟨g, 0, rfl, hF g rfl, fun j u hu => ?_⟩⟩
    have := hcell g rfl j u hu
    rwa [Addr.add_lit] at this
end

/-- What a literal has just laid reads. -/
theorem Rd.box (w : World) (cs : Array Value) (e : TypeId) {s n size : Nat} (hs : s = w.heap.size) (hl : cs.size = n * size) (hm : n ≤ maxLen) : Rd (w.alloc (.cells cs e)) (fun g => g = s) size (.slice (some ⟨s, 0, none⟩) n n) n cs.toList := by
  subst hs
  refine ⟨by simpa using hl, _, n, rfl, Nat.le_refl _, hm, fun _ => ⟨w.heap.size, 0, rfl, rfl, fun j u hu => ?_⟩⟩
  rw [Nat.zero_add, World.cell?_alloc_new]
  simpa using hu

/-! ### Rows of the call's own -/
/-- v owns xs, in a block of F (or it is nil). -/
def Own (w : World) (F : Nat → Prop) (e : TypeId) (size : Nat) (v : Value) (n : Nat) (xs : List Value) : Prop :=
  w.ownsRow 0 e size v n xs ∧ ∀ g, v.ownBlock = some g → F g
section
variable {w w' : World} {F G : Nat → Prop} {e : TypeId} {size n : Nat} {v : Value} {xs : List Value}
theorem Own.nil (w : World) (F : Nat → Prop) (e : TypeId) (size : Nat) : Own w F e size (.slice none 0 0) 0 [] := ⟨World.ownsRow_nil w 0 e size, fun _ h => by cases h⟩
theorem Own.rd (h : Own w F e size v n xs) : Rd w F size v n xs := Rd.of_own h.1 h.2
theorem Own.same (h : Own w F e size v n xs) (hs : Same F w w') : Own w' F e size v n xs := by
  refine ⟨⟨h.1.1, ?_⟩, h.2⟩
  rcases h.1.2 with hn | ⟨g, cap, cur, rfl, hb, hh, rest⟩
  · exact .inl hn
  · exact .inr ⟨g, cap, cur, rfl, hb, (hs g (h.2 g rfl)).trans hh, rest⟩
theorem Own.more (h : Own w F e size v n xs) (hs : ∀ k, F k → G k) : Own w G e size v n xs := ⟨h.1, fun g hg => hs g (h.2 g hg)⟩
theorem Own.form (h : Own w F e size v n xs) : ∃ A c, v = .slice A n c ∧ n ≤ c ∧ c ≤ maxLen := h.rd.form
theorem Own.lt (h : Own w F e size v n xs) : ∀ g, v.ownBlock = some g → g < w.heap.size := fun g hg => (h.1.lt g hg).2
/-- Its cells, the block named. -/
theorem Own.cells (h : Own w F e size v n xs) (hn : 0 < n) : ∃ g c, v = .slice (some ⟨g, 0, none⟩) n c ∧ F g ∧ n ≤ c ∧ ∀ j, j < n * size → w.cell? ⟨g, j, none⟩ = xs[j]? ∧ w.frozen? ⟨g, j, none⟩ = false := by
  have hcell := fun g (hg : v.ownBlock = some g) => h.1.cells hg
  have hl := h.1.1
  rcases h.1.2 with ⟨rfl, rfl⟩ | ⟨g, cap, cur, rfl, hb, hh, h1, h2, _⟩
  · omega
  · refine ⟨g, cap, rfl, h.2 g rfl, h1, fun j hj => ⟨?_, by simp [World.frozen?, hh]⟩⟩
    have hlt : j < xs.length := by omega
    have := hcell g rfl j _ (List.getElem?_eq_getElem hlt)
    rw [Addr.add_lit, Nat.zero_add] at this
    rw [this, List.getElem?_eq_getElem hlt]
theorem Own.at1 (h : Own w F e 1 v n xs) {i : Nat} (hi : i < n) : ∃ g c, v = .slice (some ⟨g, 0, none⟩) n c ∧ F g ∧ n ≤ c ∧ w.cell? ⟨g, i, none⟩ = xs[i]? := by
  obtain ⟨g, c, e, hF, hc, hx⟩ := h.cells (by omega)
  exact ⟨g, c, e, hF, hc, (hx i (by omega)).1⟩
/-- Its block is of its element type. -/
theorem Own.typed (h : Own w F e size v n xs) : ∀ g, v.ownBlock = some g → ∃ cur, Cells w g e cur := by
  intro g hg
  rcases h.1.2 with ⟨rfl, _⟩ | ⟨g', cap, cur, rfl, _, hh, _⟩
  · cases hg
  · injection hg with hg
    subst hg
    exact ⟨cur, hh⟩
theorem Own.ne_cells (h : Own w F e size v n xs) {g : Nat} {t : TypeId} {cs : Array Value} (hc : Cells w g t cs) (hne : e ≠ t) : v.ownBlock ≠ some g := by
  intro hg
  obtain ⟨cur, hcur⟩ := h.typed g hg
  exact hcur.ne_ hc hne rfl
/-- Its block alone. -/
theorem Own.tight (h : Own w F e size v n xs) : Own w (fun k => v.ownBlock = some k) e size v n xs := ⟨h.1, fun _ hg => hg⟩
end

section
variable {P : Program} (w : World)
theorem run_append_nilsrc (t ty e : TypeId) (i : TypeInfo) (size : Nat) (ht : P.underlying t = some (.slice e)) (hi : P.info? e = some i)
    (v : Value) (n : Nat) (xs : List Value) (hown : w.ownsRow 0 e size v n xs) (c : Nat) : (Builtin.append_ #[t, t] ty #[v, .slice none 0 c]).run P w = .ok v w := by
  rcases hown.2 with ⟨rfl, rfl⟩ | ⟨g, cap, cur, rfl, _, _, hnc, _⟩
  · simp [Builtin.append_, run_underlying ht, sizeOf, typeInfo, hi, Builtin.lenOf, Builtin.firstCells]
  · simp [Builtin.append_, run_underlying ht, sizeOf, typeInfo, hi, Builtin.lenOf, Builtin.firstCells, hnc, storeCells]
/-- append(v, x...), v owned, x whatever reads. -/
theorem run_append_rd (t ty e : TypeId) (z : Value) (size bytes : Nat) (ht : P.underlying t = some (.slice e)) (hinfo : (P.info? e).map (fun i => (i.zero, i.size, i.bytes)) = some (some z, size, bytes)) (hzs : z.cells.size = size) (hsz : 0 < size)
    {F G : Nat → Prop} {v : Value} {n : Nat} {xs : List Value} (hown : Own w F e size v n xs) {x : Value} {m : Nat} {news : List Value} (hr : Rd w G size x m news) (h1 : ∀ u ∈ news, u.oneCell' = true)
    (hbytes : (n + m) * bytes ≤ 140737488355328) (hb0 : 0 < bytes) :
    ∃ v' w', (Builtin.append_ #[t, t] ty #[v, x]).run P w = .ok v' w' ∧ Own w' (fun k => v.ownBlock = some k ∨ k = w.heap.size) e size v' (n + m) (xs ++ news) ∧ Mods (fun k => v.ownBlock = some k) w w' ∧
      (∀ g, v'.ownBlock = some g → g < w'.heap.size) := by
  obtain ⟨i, hi, hz0, hz1, hz2⟩ := info_parts hinfo
  have h63 : n + m ≤ maxLen := by
    have : n + m ≤ (n + m) * bytes := Nat.le_mul_of_pos_right _ hb0
    simp only [maxLen]
    omega
  obtain ⟨hl, A, c, rfl, hmc, hcm, hcells⟩ := hr
  rcases Nat.eq_zero_or_pos m with h0 | h0
  · subst h0
    have hn : news = [] := List.eq_nil_of_length_eq_zero (by simpa using hl)
    subst hn
    cases A with
    | none =>
      refine ⟨v, w, run_append_nilsrc w t ty e i size ht hi v n xs hown.1 c, ?_, Mods.refl _ _, hown.lt⟩
      simpa using hown.tight.more fun k hk => Or.inl hk
    | some ad =>
      obtain ⟨v', w', hrun, h2, h3, _, h5⟩ := run_append_own_at (P := P) w 0 t ty e i z size bytes ht hi hz0 hz1 hz2 hzs hsz v n xs hown.1 ad 0 c [] (by simp) (by simp) (by simp) h63 hbytes (Nat.zero_le _)
      refine ⟨v', w', hrun, ⟨h2, fun g hg => ?_⟩, ⟨h3.os, h3.tape, h3.output, h3.size, fun k hk hn => h3.block k hk fun e => hn e.symm⟩, fun g hg => (h2.lt g hg).2⟩
      rcases h5 with h5 | h5
      · exact .inl (h5 ▸ hg)
      · rw [h5] at hg; injection hg with hg; exact .inr hg.symm
  · obtain ⟨b, off, rfl, _, hc⟩ := hcells h0
    obtain ⟨v', w', hrun, h2, h3, _, h5⟩ := run_append_own_at (P := P) w 0 t ty e i z size bytes ht hi hz0 hz1 hz2 hzs hsz v n xs hown.1 ⟨b, off, none⟩ m c news hl (fun j u hu => by rw [Addr.add_lit]; exact hc j u hu) h1 h63 hbytes (Nat.zero_le _)
    refine ⟨v', w', hrun, ⟨h2, fun g hg => ?_⟩, ⟨h3.os, h3.tape, h3.output, h3.size, fun k hk hn => h3.block k hk fun e => hn e.symm⟩, fun g hg => (h2.lt g hg).2⟩
    rcases h5 with h5 | h5
    · exact .inl (h5 ▸ hg)
    · rw [h5] at hg; injection hg with hg; exact .inr hg.symm
/-- The same at the walk's list. -/
theorem wpList_append {ops : Array Oper} {rest : List Oper} {o : Oper} {a : Act} {Q : Exit → Act → World → Prop} (hgd : o.guard = none) (s x : Operand) (t : TypeId)
    (ho : o.op = .call { callee := .builtin .append, args := #[s, x], argTypes := #[t, t] })
    (e : TypeId) (z : Value) (size bytes : Nat) (ht : P.underlying t = some (.slice e)) (hinfo : (P.info? e).map (fun i => (i.zero, i.size, i.bytes)) = some (some z, size, bytes)) (hzs : z.cells.size = size) (hsz : 0 < size)
    {F G : Nat → Prop} {v : Value} {n : Nat} {xs : List Value} (hs : a.eval s = v) (hown : Own w F e size v n xs) {y : Value} {m : Nat} {news : List Value} (hx : a.eval x = y) (hr : Rd w G size y m news) (h1 : ∀ u ∈ news, u.oneCell' = true)
    (hbytes : (n + m) * bytes ≤ 140737488355328) (hb0 : 0 < bytes)
    (h : ∀ v' w', Own w' (fun k => v.ownBlock = some k ∨ k = w.heap.size) e size v' (n + m) (xs ++ news) → Mods (fun k => v.ownBlock = some k) w w' → (∀ g, v'.ownBlock = some g → g < w'.heap.size) → wpList P ops Q rest (a.put o.dst v') w') : wpList P ops Q (o :: rest) a w :=
  wpList_plain hgd fun K hK => by
    obtain ⟨v', w', hrun, h2, h3, h4⟩ := run_append_rd (P := P) w t o.type e z size bytes ht hinfo hzs hsz hown hr h1 hbytes hb0
    unfold Oper.wp execOp
    simp only [ho, resolve, invoke, builtin, Sem.run_bind, Sem.run_pure, Result.andThen_ok, List.map_toArray, List.map_cons, List.map_nil, hs, hx, hrun]
    exact hK _ _ (h v' w' h2 h3 h4)
end

/-! ### Parts of one thing in memory, told apart by a label a block -/
/-- What is new gets the label L. -/
def recol (n : Nat) (col : Nat → Nat) (L : Nat) : Nat → Nat := fun g => if g < n then col g else L
theorem recol_old {n : Nat} {col : Nat → Nat} {L g : Nat} (h : g < n) : recol n col L g = col g := if_pos h
theorem recol_new {n : Nat} {col : Nat → Nat} {L g : Nat} (h : n ≤ g) : recol n col L g = L := if_neg (by omega)
/-- F, and what is new since the heap had n blocks. -/
def Ext (F : Nat → Prop) (n : Nat) : Nat → Prop := fun g => F g ∨ n ≤ g
section
variable {w w' : World} {S : Nat → Prop} {col : Nat → Nat} {L j : Nat}
theorem Own.keep {e : TypeId} {size n : Nat} {v : Value} {xs : List Value} (h : Own w (fun g => col g = j) e size v n xs) (hm : Mods S w w') (hS : ∀ g, g < w.heap.size → S g → col g ≠ j) : Own w' (fun g => recol w.heap.size col L g = j) e size v n xs := by
  have h1 := h.tight.same (w' := w') fun g hg => hm.block g (h.lt g hg) fun hs => hS g (h.lt g hg) hs (h.2 g hg)
  exact ⟨h1.1, fun g hg => (recol_old (h.lt g hg)).trans (h.2 g hg)⟩
theorem Cells.keep {g : Nat} {t : TypeId} {cs : Array Value} (h : Cells w g t cs) (hm : Mods S w w') (hS : ¬ S g) : Cells w' g t cs := h.mods hm hS
theorem Mods.then_ {F : Nat → Prop} {a b c : World} (h : Mods F a b) (k : Mods (Ext F a.heap.size) b c) : Mods F a c :=
  h.trans k fun g hg e => by
    rcases e with e | e
    · exact e
    · omega
end
theorem natInt_beq (m n : Nat) : ((m : Int) == (n : Int)) = decide (m = n) := by
  by_cases h : m = n
  · subst h; simp
  · rw [decide_eq_false h]; simp; omega
theorem natInt_beq0 (m : Nat) : ((m : Int) == 0) = decide (m = 0) := natInt_beq m 0

/-! ### Bytes and numbers as cells -/
def vb (b : UInt8) : Value := .int .u8 b.toNat
def vbs (l : List UInt8) : List Value := l.map vb
theorem vbs_one (l : List UInt8) : ∀ u ∈ vbs l, u.oneCell' = true := by
  intro u hu
  obtain ⟨_, _, rfl⟩ := List.mem_map.1 hu
  rfl
theorem vbs_length (l : List UInt8) : (vbs l).length = l.length := by simp [vbs]
def vis (l : List Int) : List Value := l.map (.int .i64)
theorem vis_one (l : List Int) : ∀ u ∈ vis l, u.oneCell' = true := by
  intro u hu
  obtain ⟨_, _, rfl⟩ := List.mem_map.1 hu
  rfl
theorem vis_length (l : List Int) : (vis l).length = l.length := by simp [vis]
theorem run_convert_rd {P : Program} (w : World) (src dst e : TypeId) (hs : P.underlying src = some (.slice e)) (he : P.underlying e = some (.int .u8)) (hd : P.underlying dst = some .string)
    {F : Nat → Prop} {v : Value} {l : List UInt8} (h : Rd w F 1 v l.length (vbs l)) : (convert src dst v).run P w = .ok (.string ⟨l.toArray⟩) w := by
  obtain ⟨A, c, rfl, _, _⟩ := h.form
  cases A with
  | none =>
    have h0 : l = [] := by
      cases l with
      | nil => rfl
      | cons x l =>
        obtain ⟨b, off, c', e, _⟩ := h.cells (by simp)
        injection e with e
        cases e
    subst h0
    rw [run_convert_bytes_string w src dst e none _ c hs he hd]
    rfl
  | some a =>
    refine run_convert_bytes_back w src dst e a c l hs he hd fun j hj => ?_
    obtain ⟨b, off, c', e, _, hc⟩ := h.cells (by omega)
    injection e with e
    injection e with e
    subst e
    rw [Addr.add_lit, hc j (by omega)]
    simp [vbs, vb, hj]
theorem string_ne (a b : List UInt8) : ((ByteArray.mk a.toArray).toList == (ByteArray.mk b.toArray).toList) = decide (a = b) := by
  rw [ByteArray.toList_eq, ByteArray.toList_eq]
  simp only []
  by_cases e : a = b
  · subst e; simp
  · simp [e]
end Go.Tum

/- More words for memory: a cell of an owned row is written. -/
namespace Go.Tum
open Go.RowKit
theorem Own.set {w : World} {F : Nat → Prop} {e : TypeId} {size n : Nat} {v : Value} {xs : List Value} (h : Own w F e size v n xs) {g : Nat} (hg : v.ownBlock = some g) (i : Nat) (u : Value) : Own (w.setCell ⟨g, i, none⟩ u) F e size v n (xs.set i u) := by
  obtain ⟨⟨h1, h2⟩, h3⟩ := h
  refine ⟨⟨by simpa using h1, ?_⟩, h3⟩
  rcases h2 with ⟨rfl, _⟩ | ⟨g', cap, cur, rfl, hb, hh, k1, k2, k3, k4⟩
  · cases hg
  · injection hg with hg
    subst hg
    refine .inr ⟨g', cap, cur.setIfInBounds i u, rfl, hb, ?_, k1, k2, by simpa using k3, ?_⟩
    · simp [World.setCell, Array.getElem?_modify, hh]
    · rw [Array.toList_setIfInBounds, List.take_set, k4]
theorem Own.frozen {w : World} {F : Nat → Prop} {e : TypeId} {size n : Nat} {v : Value} {xs : List Value} (h : Own w F e size v n xs) {g : Nat} (hg : v.ownBlock = some g) (i : Nat) : w.frozen? ⟨g, i, none⟩ = false := by
  obtain ⟨cur, hc⟩ := h.typed g hg
  exact hc.frozen i
theorem Own.take {w : World} {F : Nat → Prop} {e : TypeId} {size n : Nat} {A : Option Addr} {c : Nat} {xs : List Value} (h : Own w F e size (.slice A n c) n xs) {m : Nat} (hm : m ≤ n) : Own w F e size (.slice A m c) m (xs.take (m * size)) := by
  obtain ⟨⟨h1, h2⟩, h3⟩ := h
  have hmn : m * size ≤ n * size := Nat.mul_le_mul_right _ hm
  refine ⟨⟨by rw [List.length_take, h1, Nat.min_eq_left hmn], ?_⟩, fun g hg => h3 g (by cases A <;> exact hg)⟩
  rcases h2 with ⟨e1, rfl⟩ | ⟨g, cap, cur, e1, hb, hh, k1, k2, k3, k4⟩
  · injection e1 with e1 _ e3
    subst e1 e3
    obtain rfl : m = 0 := by omega
    exact .inl ⟨rfl, rfl⟩
  · injection e1 with e1 _ e3
    subst e1 e3
    refine .inr ⟨g, c, cur, rfl, hb, hh, by omega, k2, k3, ?_⟩
    rw [← k4, List.take_take, Nat.min_eq_left hmn]
theorem Own.far {w : World} {F : Nat → Prop} {e : TypeId} {size n : Nat} {v : Value} {xs : List Value} (h : Own w F e size v n xs) {p : Addr} (hp : v.ownBlock ≠ some p.block) (u : Value) : Own (w.setCell p u) F e size v n xs := by
  have h2 := h.tight.same (w' := w.setCell p u) fun k hk => Below.heap_setCell w p u k (by rintro rfl; exact hp hk)
  exact ⟨h2.1, h.2⟩
theorem Own.mods {w w' : World} {F S : Nat → Prop} {e : TypeId} {size n : Nat} {v : Value} {xs : List Value} (h : Own w F e size v n xs) (hM : Mods S w w') (hS : ∀ g, v.ownBlock = some g → ¬ S g) : Own w' F e size v n xs := by
  have h2 := h.tight.same (w' := w') fun k hk => hM.block k (h.lt k hk) (hS k hk)
  exact ⟨h2.1, h.2⟩
theorem results_pair {P : Program} {fn : Func} {p u : Tmp} {ty : TypeId} (h : fn.results = #[.cell p ty, .tmp u]) (tmps : Array Value) (w : World) (g : Nat) (t : TypeId) (cs : Array Value) (fr : Nat × Nat) (d : TypeDesc)
    (hp : tmps.getD p undef = .pointer (some ⟨g, 0, none⟩)) (hg : w.heap[g]? = some (.cells cs t fr))
    (hu : P.underlying ty = some d) (hd : (match d with | .struct _ | .array _ _ => true | _ => false) = true) (hi : (P.info? ty).map (·.size) = some cs.size) :
    (results fn tmps).run P w = .ok (.tuple #[.agg cs, tmps.getD u undef]) w := by
  rw [results_cell_tmp h, hp]
  simp [asAddr, run_loadVar_row w g t ty cs fr d hg hu hd hi]
end Go.Tum

/- Runs of cells written into an owned row. No program here. -/
namespace Go.Tum
open Go.RowKit
def setArr (cur : Array Value) : Nat → List Value → Array Value
  | _, [] => cur
  | o, v :: r => setArr (cur.setIfInBounds o v) (o + 1) r
theorem setArr_size : ∀ (vs : List Value) (cur : Array Value) (o : Nat), (setArr cur o vs).size = cur.size
  | [], _, _ => rfl
  | v :: r, cur, o => by rw [setArr, setArr_size r]; simp
theorem setArr_get : ∀ (vs : List Value) (cur : Array Value) (o j : Nat), (setArr cur o vs)[j]? = if o ≤ j ∧ j < o + vs.length ∧ j < cur.size then vs[j - o]? else cur[j]?
  | [], cur, o, j => by rw [setArr, if_neg (by simp; omega)]
  | v :: r, cur, o, j => by
    rw [setArr, setArr_get r, Array.size_setIfInBounds, List.length_cons]
    by_cases h1 : o + 1 ≤ j ∧ j < o + 1 + r.length ∧ j < cur.size
    · rw [if_pos h1, if_pos (by omega), show j - o = (j - (o + 1)) + 1 by omega]; rfl
    · rw [if_neg h1, Array.getElem?_setIfInBounds]
      by_cases h2 : o = j
      · subst h2
        rw [if_pos rfl]
        by_cases h3 : o < cur.size
        · rw [if_pos h3, if_pos ⟨Nat.le_refl _, by omega, h3⟩, Nat.sub_self]; rfl
        · rw [if_neg h3, if_neg (by omega), Array.getElem?_eq_none (by omega)]
      · rw [if_neg h2, if_neg (by omega)]
section
variable {w w' : World} {g : Nat} {t e : TypeId} {cs cur : Array Value}
theorem Cells.setCells : ∀ (vs : List Value) (o : Nat) {w : World} {cs : Array Value}, Cells w g t cs → Cells (w.setCells g o vs) g t (setArr cs o vs)
  | [], _, _, _, h => h
  | v :: r, o, _, _, h => Cells.setCells r (o + 1) (h.set_ o v)
theorem Mods.setCells : ∀ (vs : List Value) (o : Nat) (w : World), Mods (fun k => k = g) w (w.setCells g o vs)
  | [], _, w => Mods.refl _ w
  | v :: r, o, w => ((Mods.refl (fun k => k = g) w).setCell ⟨g, o, none⟩ v fun _ => rfl).trans (Mods.setCells r (o + 1) _) fun _ _ e => e
theorem Own.mk_ {size n cap : Nat} {xs : List Value} (h : Cells w g e cur) (hn : n ≤ cap) (hc : cap ≤ maxLen) (hs : cur.size = cap * size) (hx : cur.toList.take (n * size) = xs) : Own w (fun k => k = g) e size (.slice (some ⟨g, 0, none⟩) n cap) n xs := by
  have hmul : n * size ≤ cap * size := Nat.mul_le_mul_right _ hn
  refine ⟨⟨?_, .inr ⟨g, cap, cur, rfl, Nat.zero_le _, h, hn, hc, hs, hx⟩⟩, fun k hk => by injection hk with hk; exact hk.symm⟩
  rw [← hx, List.length_take, Array.length_toList, hs, Nat.min_eq_left hmul]
/-- A row that is not nil, whole. -/
theorem Own.whole {size n : Nat} {F : Nat → Prop} {v : Value} {xs : List Value} (h : Own w F e size v n xs) : (v = .slice none 0 0 ∧ n = 0 ∧ xs = []) ∨ ∃ g cap cur, v = .slice (some ⟨g, 0, none⟩) n cap ∧ F g ∧ Cells w g e cur ∧ n ≤ cap ∧ cap ≤ maxLen ∧ cur.size = cap * size ∧ cur.toList.take (n * size) = xs := by
  rcases h.1.2 with ⟨rfl, rfl⟩ | ⟨g, cap, cur, rfl, hb, hh, h1, h2, h3, h4⟩
  · exact .inl ⟨rfl, rfl, List.eq_nil_of_length_eq_zero (by simpa using h.1.1)⟩
  · exact .inr ⟨g, cap, cur, rfl, h.2 g rfl, hh, h1, h2, h3, h4⟩
theorem take_ext {cur : Array Value} {n : Nat} {xs : List Value} (hl : xs.length = n) (hn : n ≤ cur.size) (h : ∀ j, j < n → cur[j]? = xs[j]?) : cur.toList.take n = xs := by
  apply List.ext_getElem?
  intro j
  rcases Nat.lt_or_ge j n with hj | hj
  · rw [List.getElem?_take_of_lt hj, ← h j hj]; simp
  · rw [List.getElem?_eq_none (by simp; omega), List.getElem?_eq_none (by omega)]
theorem Cells.drewN' (h : Cells w g t cs) (n : Nat) : Cells (Sort.ahead w n) g t cs := h
end
end Go.Tum

/- make and copy: a slice's elements in new memory. No program here. -/
namespace Go.Tum
open Go.RowKit
theorem run_make_ {P : Program} (w : World) (t e : TypeId) (z : Value) (size bytes n : Nat) (ht : P.underlying t = some (.slice e)) (hinfo : (P.info? e).map (fun i => (i.zero, i.size, i.bytes)) = some (some z, size, bytes)) (hn : n * size ≤ 16777216) (hb : bytes * n ≤ 281474976710656) (hz : n ≤ 1048576) :
    (Instr.makeSlice t (.int .i64 (n : Int)) (.int .i64 (n : Int))).run P w = .ok (.slice (some ⟨w.heap.size, 0, none⟩) n n) (w.alloc (.cells (madeCells z.cells (n * size)) e)) := by
  rw [Option.map_eq_some_iff] at hinfo
  obtain ⟨i, hi, h⟩ := hinfo
  simp only [Prod.mk.injEq] at h
  obtain ⟨h1, h2, h3⟩ := h
  subst h2 h3
  rw [run_makeSlice (P := P) w t e i z ht hi h1 .i64 .i64 (n : Int) (n : Int) (by omega) (by omega) (by rw [Int.toNat_natCast]; exact hn) (by rw [← Int.natCast_mul]; exact Int.ofNat_le.2 hb) (by omega), Int.toNat_natCast]
theorem run_copy_rd {P : Program} {w : World} {F : Nat → Prop} (dT sT ty e : TypeId) {g n cap size : Nat} {v : Value} {xs : List Value} {cur : Array Value} (hu : P.underlying dT = some (.slice e)) (hs : (P.info? e).map (·.size) = some size) (hc : Cells w g e cur) (hcur : cur.size = n * size) (hr : Rd w F size v n xs) (h1 : ∀ u ∈ xs, u.oneCell' = true) :
    (Builtin.copy_ #[dT, sT] ty #[.slice (some ⟨g, 0, none⟩) n cap, v]).run P w = .ok (goInt n) (w.setRow g xs.toArray) := by
  obtain ⟨hl, A, c, rfl, _, _, h3⟩ := hr
  have hst := run_storeCells_at P g 0 e xs 0 cur w hc (by omega) h1
  have hrow : (cur.toList.take (0 + 0) ++ xs ++ cur.toList.drop (0 + 0 + xs.length)).toArray = xs.toArray := by
    have : cur.toList.length ≤ xs.length := by simp; omega
    simp [List.drop_eq_nil_of_le this]
  rw [hrow] at hst
  rw [Option.map_eq_some_iff] at hs
  obtain ⟨i, hi, rfl⟩ := hs
  rcases Nat.eq_zero_or_pos n with h0 | h0
  · subst h0
    obtain rfl : xs = [] := List.eq_nil_of_length_eq_zero (by omega)
    cases A with
    | none => simp [Builtin.copy_, run_underlying hu, Builtin.lenOf, Builtin.firstCells, sizeOf, typeInfo, hi] at hst ⊢; rw [hst]; rfl
    | some a => 
      have hld := run_loadCells_list (P := P) w a [] (fun j v h => by simp at h)
      simp at hld
      simp [Builtin.copy_, run_underlying hu, Builtin.lenOf, Builtin.firstCells, sizeOf, typeInfo, hi, hld] at hst ⊢; rw [hst]; rfl
  · obtain ⟨b, off, rfl, _, h5⟩ := h3 h0
    have hld := run_loadCells_list (P := P) w ⟨b, off, none⟩ xs fun j u hj => by rw [show (⟨b, off, none⟩ : Addr).add j = ⟨b, off + j, none⟩ by unfold Addr.add; split <;> simp_all]; exact h5 j u hj
    rw [hl] at hld
    simp [Builtin.copy_, run_underlying hu, Builtin.lenOf, Builtin.firstCells, sizeOf, typeInfo, hi, hld, hst]
theorem copied {w : World} {F : Nat → Prop} {e : TypeId} {n size : Nat} {v : Value} {xs : List Value} (hr : Rd w F size v n xs) (cs : Array Value) (hm : n ≤ maxLen) :
    Own ((w.alloc (.cells cs e)).setRow w.heap.size xs.toArray) (fun k => k = w.heap.size) e size (.slice (some ⟨w.heap.size, 0, none⟩) n n) n xs ∧ Mods No w ((w.alloc (.cells cs e)).setRow w.heap.size xs.toArray) := by
  have hl := hr.1
  have hk := Cells.new w e cs
  refine ⟨Own.mk_ (cur := xs.toArray) (setRow_heap _ _ _ _ _ _ hk) (Nat.le_refl _) hm (by simp [hl]) (by rw [← hl]; simp), rfl, rfl, rfl, by simp [World.setRow, World.size_alloc], fun b hb _ => ?_⟩
  have hne : w.heap.size ≠ b := fun e => by subst e; exact Nat.lt_irrefl _ hb
  have : (w.alloc (.cells cs e)).heap[b]? = w.heap[b]? := Below.heap_alloc w _ b hb
  simp [World.setRow, Array.getElem?_modify, hne, this]
end Go.Tum

/- Slices of our own that may begin inside their block: what is cut off ahead, what is appended behind. No program here. -/
namespace Go.Tum
open Go.RowKit
/-- A slice of its own, at some place of its block. -/
def OwnAt (w : World) (F : Nat → Prop) (e : TypeId) (size : Nat) (v : Value) (n : Nat) (xs : List Value) : Prop :=
  xs.length = n * size ∧ ((v = .slice none 0 0 ∧ n = 0) ∨
    ∃ g off cap cur, v = .slice (some ⟨g, off, none⟩) n cap ∧ F g ∧ w.heap[g]? = some (.cells cur e (0, 0)) ∧ n ≤ cap ∧ cap ≤ maxLen ∧ off + cap * size ≤ cur.size ∧ (cur.toList.drop off).take (n * size) = xs)
section
variable {w w' : World} {F G : Nat → Prop} {e : TypeId} {size n : Nat} {v : Value} {xs : List Value}
theorem OwnAt.nil (w : World) (F : Nat → Prop) (e : TypeId) (size : Nat) : OwnAt w F e size (.slice none 0 0) 0 [] := ⟨by simp, .inl ⟨rfl, rfl⟩⟩
theorem OwnAt.mods {S : Nat → Prop} (h : OwnAt w F e size v n xs) (hm : Mods S w w') (hS : ∀ g, g < w.heap.size → F g → ¬ S g) : OwnAt w' F e size v n xs := by
  refine ⟨h.1, ?_⟩
  rcases h.2 with hn | ⟨g, off, cap, cur, rfl, hF, hg, rest⟩
  · exact .inl hn
  · have hlt := (Array.getElem?_eq_some_iff.1 hg).1
    exact .inr ⟨g, off, cap, cur, rfl, hF, (hm.block g hlt (hS g hlt hF)).trans hg, rest⟩
theorem OwnAt.more (h : OwnAt w F e size v n xs) (hs : ∀ g, g < w.heap.size → F g → G g) : OwnAt w G e size v n xs := by
  refine ⟨h.1, ?_⟩
  rcases h.2 with hn | ⟨g, off, cap, cur, rfl, hF, hg, rest⟩
  · exact .inl hn
  · exact .inr ⟨g, off, cap, cur, rfl, hs g (Array.getElem?_eq_some_iff.1 hg).1 hF, hg, rest⟩
theorem OwnAt.lt (h : OwnAt w F e size v n xs) : ∀ g, v.ownBlock = some g → g < w.heap.size ∧ F g := fun g hg => by
  rcases h.2 with ⟨rfl, _⟩ | ⟨g', off, cap, cur, rfl, hF, hh, _⟩
  · cases hg
  · injection hg with hg
    subst hg
    exact ⟨(Array.getElem?_eq_some_iff.1 hh).1, hF⟩
theorem OwnAt.form (h : OwnAt w F e size v n xs) : ∃ A c, v = .slice A n c ∧ n ≤ c ∧ c ≤ maxLen := by
  rcases h.2 with ⟨rfl, rfl⟩ | ⟨g, off, cap, cur, rfl, hF, hh, h1, h2, _⟩
  · exact ⟨none, 0, rfl, Nat.le_refl _, Nat.zero_le _⟩
  · exact ⟨_, cap, rfl, h1, h2⟩
theorem OwnAt.tight (h : OwnAt w F e size v n xs) : OwnAt w (fun k => v.ownBlock = some k) e size v n xs := by
  refine ⟨h.1, ?_⟩
  rcases h.2 with hn | ⟨g, off, cap, cur, rfl, hF, rest⟩
  · exact .inl hn
  · exact .inr ⟨g, off, cap, cur, rfl, rfl, rest⟩
theorem OwnAt.rd (h : OwnAt w F e size v n xs) : Rd w F size v n xs := by
  refine ⟨h.1, ?_⟩
  rcases h.2 with ⟨rfl, rfl⟩ | ⟨g, off, cap, cur, rfl, hF, hg, h1, h2, h3, h4⟩
  · exact ⟨none, 0, rfl, Nat.le_refl _, Nat.zero_le _, fun h => absurd h (Nat.lt_irrefl _)⟩
  · refine ⟨_, cap, rfl, h1, h2, fun _ => ⟨g, off, rfl, hF, fun j u hu => ?_⟩⟩
    rw [← h4, List.getElem?_take] at hu
    split at hu
    · rw [List.getElem?_drop] at hu
      simp [World.cell?, hg]
      simpa using hu
    · cases hu
theorem Own.at_ (h : Own w F e size v n xs) : OwnAt w F e size v n xs := by
  refine ⟨h.1.1, ?_⟩
  rcases h.1.2 with hn | ⟨g, cap, cur, rfl, _, hg, h1, h2, h3, h4⟩
  · exact .inl hn
  · exact .inr ⟨g, 0, cap, cur, rfl, h.2 g rfl, hg, h1, h2, by omega, by simpa using h4⟩
/-- The first are cut off. -/
theorem OwnAt.drop {A : Option Addr} {c k : Nat} (h : OwnAt w F e size (.slice A n c) n xs) (hk : k ≤ n) :
    OwnAt w F e size (.slice (if c = k then A else A.map (·.add (k * size))) (n - k) (c - k)) (n - k) (xs.drop (k * size)) := by
  refine ⟨by rw [List.length_drop, h.1, Nat.sub_mul], ?_⟩
  rcases h.2 with ⟨e1, rfl⟩ | ⟨g, off, cap, cur, e1, hF, hg, h1, h2, h3, h4⟩
  · injection e1 with e1 e2 e3
    subst e1 e3
    obtain rfl : k = 0 := by omega
    exact .inl ⟨rfl, rfl⟩
  · injection e1 with e1 e2 e3
    subst e1 e3
    by_cases h0 : c = k
    · rw [if_pos h0]
      refine .inr ⟨g, off, c - k, cur, rfl, hF, hg, by omega, by omega, by rw [h0, Nat.sub_self]; omega, ?_⟩
      rw [← h4, List.drop_take, ← Nat.sub_mul, show n - k = 0 by omega]
      simp
    · rw [if_neg h0]
      have hck : k * size + (c - k) * size = c * size := by rw [← Nat.add_mul, show k + (c - k) = c by omega]
      refine .inr ⟨g, off + k * size, c - k, cur, by simp [Addr.add_lit], hF, hg, by omega, by omega, by omega, ?_⟩
      rw [← h4, List.drop_take, List.drop_drop, ← Nat.sub_mul]
end
section
variable {P : Program} (w : World)
theorem run_append_roomAt (t ty e : TypeId) (i : TypeInfo) (ht : P.underlying t = some (.slice e)) (hi : P.info? e = some i)
    (g off sLen sCap : Nat) (cur : Array Value) (hg : w.heap[g]? = some (.cells cur e (0, 0)))
    (a : Addr) (m c : Nat) (news : List Value) (hl : news.length = m * i.size) (hnews : ∀ j u, news[j]? = some u → w.cell? (a.add j) = some u) (h1 : ∀ u ∈ news, u.oneCell' = true)
    (hroom : sLen + m ≤ sCap) (hfit : off + sLen * i.size + news.length ≤ cur.size) :
    (Builtin.append_ #[t, t] ty #[.slice (some ⟨g, off, none⟩) sLen sCap, .slice (some a) m c]).run P w =
      .ok (.slice (some ⟨g, off, none⟩) (sLen + m) sCap) (w.setRow g (cur.toList.take (off + sLen * i.size) ++ news ++ cur.toList.drop (off + sLen * i.size + news.length)).toArray) := by
  have hf := run_firstCells_some (P := P) w i.size m a m c news hl hnews
  have hst := run_storeCells_at P g (off + sLen * i.size) e news 0 cur w hg (by simpa using hfit) h1
  simp only [Nat.add_zero] at hst
  simp [Builtin.append_, run_underlying ht, sizeOf, typeInfo, hi, Builtin.lenOf, hroom, hf, Addr.add_lit, hst]
/-- append(v, x...), v owned at some place, x not empty. -/
theorem run_append_at (t ty e : TypeId) (z : Value) (size bytes : Nat) (ht : P.underlying t = some (.slice e)) (hinfo : (P.info? e).map (fun i => (i.zero, i.size, i.bytes)) = some (some z, size, bytes)) (hzs : z.cells.size = size) (hsz : 0 < size)
    {F G : Nat → Prop} {v : Value} {n : Nat} {xs : List Value} (hown : OwnAt w F e size v n xs) {x : Value} {m : Nat} {news : List Value} (hm0 : 0 < m) (hr : Rd w G size x m news) (h1 : ∀ u ∈ news, u.oneCell' = true)
    (hbytes : (n + m) * bytes ≤ 140737488355328) (hb0 : 0 < bytes) :
    ∃ v' w', (Builtin.append_ #[t, t] ty #[v, x]).run P w = .ok v' w' ∧ OwnAt w' (fun k => v.ownBlock = some k ∨ k = w.heap.size) e size v' (n + m) (xs ++ news) ∧ Mods (fun k => v.ownBlock = some k) w w' := by
  obtain ⟨i, hi, hz0, rfl, rfl⟩ := info_parts hinfo
  have h63 : n + m ≤ maxLen := by
    have : n + m ≤ (n + m) * i.bytes := Nat.le_mul_of_pos_right _ hb0
    simp only [maxLen]
    omega
  have h63' : n + m ≤ 9223372036854775807 := by simp only [maxLen] at h63; omega
  obtain ⟨hl, A, c, rfl, hmc, hcm, hcells⟩ := hr
  obtain ⟨b, o, rfl, _, hc⟩ := hcells hm0
  have hnews : ∀ j u, news[j]? = some u → w.cell? ((⟨b, o, none⟩ : Addr).add j) = some u := fun j u hu => by rw [Addr.add_lit]; exact hc j u hu
  have hlen : (xs ++ news).length = (n + m) * i.size := by rw [List.length_append, hown.1, hl, Nat.add_mul]
  have grown : ∀ (old : Nat), old < n + m → ∀ S : Nat → Prop,
      OwnAt (w.drew.alloc (.cells (xs.toArray ++ news.toArray ++ Builtin.zeroCells z.cells (grownCap w (n + m) old e - (n + m))) e)) (fun k => v.ownBlock = some k ∨ k = w.heap.size) e i.size (.slice (some ⟨w.heap.size, 0, none⟩) (n + m) (grownCap w (n + m) old e)) (n + m) (xs ++ news) ∧
      Mods S w (w.drew.alloc (.cells (xs.toArray ++ news.toArray ++ Builtin.zeroCells z.cells (grownCap w (n + m) old e - (n + m))) e)) := by
    intro old ho S
    have hge := grownCap_ge w (n + m) old e
    have hcm : grownCap w (n + m) old e ≤ maxLen := grownCap_le_maxLen w (n + m) old e h63
    refine ⟨⟨hlen, .inr ⟨w.heap.size, 0, _, _, rfl, .inr rfl, heap_alloc_new w.drew _, hge, hcm, ?_, ?_⟩⟩, (Mods.refl S w).drew.alloc _⟩
    · simp only [Array.size_append, List.size_toArray, size_zeroCells, hzs, hown.1, hl, ← Nat.add_mul, Nat.zero_add]
      refine Nat.le_of_eq ?_
      congr 1
      omega
    · simp only [Array.toList_append, List.append_assoc, List.drop_zero]
      rw [← List.append_assoc, ← hlen]
      exact List.take_left
  rcases hown.2 with ⟨rfl, rfl⟩ | ⟨g, off, cap, cur, rfl, hF, hg, hnc, hcm2, hcs, htake⟩
  · have hx : xs = [] := List.eq_nil_of_length_eq_zero (by simpa using hown.1)
    subst hx
    have hr := run_append_nil (P := P) w t ty e i z ht hi hz0 ⟨b, o, none⟩ m c news hl hnews (by omega) (by omega) (by have hb := hbytes; simp only [Nat.zero_add] at hb; omega)
    have hgr := grown 0 (by omega) (fun k => (Value.slice none 0 0).ownBlock = some k)
    simp only [Nat.zero_add, List.nil_append, Array.empty_append] at hgr ⊢
    exact ⟨_, _, hr, hgr.1, hgr.2⟩
  · by_cases hroom : n + m ≤ cap
    · have hmul : n * i.size + m * i.size ≤ cap * i.size := by rw [← Nat.add_mul]; exact Nat.mul_le_mul_right _ hroom
      have hfit : off + n * i.size + news.length ≤ cur.size := by rw [hl]; omega
      have hr := run_append_roomAt (P := P) w t ty e i ht hi g off n cap cur hg ⟨b, o, none⟩ m c news hl hnews h1 hroom hfit
      refine ⟨_, _, hr, ⟨hlen, .inr ⟨g, off, cap, _, rfl, .inl rfl, setRow_heap w g cur _ e _ hg, hroom, hcm2, ?_, ?_⟩⟩, ⟨rfl, rfl, rfl, by simp [World.setRow], fun k _ hk => setRow_other w g k _ (fun e => hk (by simp [Value.ownBlock, e]))⟩⟩
      · simp only [List.size_toArray, List.length_append, List.length_take, List.length_drop, Array.length_toList]
        omega
      · have e1 : (cur.toList.take (off + n * i.size)).drop off = xs := by rw [List.drop_take, show off + n * i.size - off = n * i.size by omega]; exact htake
        have hle : off ≤ (cur.toList.take (off + n * i.size)).length := by rw [List.length_take, Array.length_toList]; omega
        simp only [List.append_assoc]
        rw [List.drop_append_of_le_length hle, e1, ← List.append_assoc, ← hlen]
        exact List.take_left
    · have holds : ∀ j u, xs[j]? = some u → w.cell? ((⟨g, off, none⟩ : Addr).add j) = some u := fun j u hu => by
        rw [Addr.add_lit]
        rw [← htake, List.getElem?_take] at hu
        split at hu
        · rw [List.getElem?_drop] at hu
          simp [World.cell?, hg]
          simpa using hu
        · cases hu
      have hr := run_append_grow (P := P) w t ty e i z ht hi hz0 ⟨g, off, none⟩ n cap xs hown.1 holds ⟨b, o, none⟩ m c news hl hnews (by omega) (by omega) (growslice_fits (by omega) hbytes)
      have hgr := grown cap (by omega) (fun k => (Value.slice (some ⟨g, off, none⟩) n cap).ownBlock = some k)
      exact ⟨_, _, hr, hgr.1, hgr.2⟩
/-- The same at the walk's list. -/
theorem wpList_append_at {ops : Array Oper} {rest : List Oper} {o : Oper} {a : Act} {Q : Exit → Act → World → Prop} (hgd : o.guard = none) (s x : Operand) (t : TypeId)
    (ho : o.op = .call { callee := .builtin .append, args := #[s, x], argTypes := #[t, t] })
    (e : TypeId) (z : Value) (size bytes : Nat) (ht : P.underlying t = some (.slice e)) (hinfo : (P.info? e).map (fun i => (i.zero, i.size, i.bytes)) = some (some z, size, bytes)) (hzs : z.cells.size = size) (hsz : 0 < size)
    {F G : Nat → Prop} {v : Value} {n : Nat} {xs : List Value} (hs : a.eval s = v) (hown : OwnAt w F e size v n xs) {y : Value} {m : Nat} {news : List Value} (hm0 : 0 < m) (hx : a.eval x = y) (hr : Rd w G size y m news) (h1 : ∀ u ∈ news, u.oneCell' = true)
    (hbytes : (n + m) * bytes ≤ 140737488355328) (hb0 : 0 < bytes)
    (h : ∀ v' w', OwnAt w' (fun k => v.ownBlock = some k ∨ k = w.heap.size) e size v' (n + m) (xs ++ news) → Mods (fun k => v.ownBlock = some k) w w' → wpList P ops Q rest (a.put o.dst v') w') : wpList P ops Q (o :: rest) a w :=
  wpList_plain hgd fun K hK => by
    obtain ⟨v', w', hrun, h2, h3⟩ := run_append_at (P := P) w t o.type e z size bytes ht hinfo hzs hsz hown hm0 hr h1 hbytes hb0
    unfold Oper.wp execOp
    simp only [ho, resolve, invoke, builtin, Sem.run_bind, Sem.run_pure, Result.andThen_ok, List.map_toArray, List.map_cons, List.map_nil, hs, hx, hrun]
    exact hK _ _ (h v' w' h2 h3)
end
end Go.Tum

/- Maps from strings to numbers, read as functions; laws at the operation. No program here. -/
namespace Go.Tum
open Go.RowKit Go.Maps Go.WideMaps
abbrev MF := List UInt8 → Option Int
/-- Block b is a map of n entries that reads as f. -/
def SMap (P : Program) (k e : TypeId) (w : World) (b n : Nat) (f : MF) : Prop :=
  ∃ D : DataW Unit, w.ownsMap P k (plainElem P e) b n D ∧ Maps.size D = n ∧ ∀ key z, D.atKey (.string key) z = (match f key with | some v => .lit (.int .i64 v) | none => z)
def ks (k : List UInt8) : Value := .string ⟨k.toArray⟩
section
variable {P : Program} {k e t : TypeId} {w w' : World} {b n : Nat} {f : MF}
theorem SMap.made (P : Program) (k e : TypeId) (w : World) : SMap P k e (w.alloc (.map #[] 0)) w.heap.size 0 (fun _ => none) :=
  ⟨.map [], World.ownsMap_made w P k _, rfl, fun _ _ => rfl⟩
theorem SMap.lt (h : SMap P k e w b n f) : b < w.heap.size := by obtain ⟨D, h1, _⟩ := h; exact h1.lt
theorem SMap.of_block (h : SMap P k e w b n f) (hb : w'.heap[b]? = w.heap[b]?) : SMap P k e w' b n f := by
  obtain ⟨D, ⟨es, clock, h1, h2⟩, h3⟩ := h
  exact ⟨D, ⟨es, clock, hb.trans h1, h2⟩, h3⟩
theorem SMap.same {F : Nat → Prop} (h : SMap P k e w b n f) (hs : Same F w w') (hb : F b) : SMap P k e w' b n f := h.of_block (hs b hb)
theorem SMap.mods {S : Nat → Prop} (h : SMap P k e w b n f) (hs : Mods S w w') (hb : ¬ S b) : SMap P k e w' b n f := h.of_block (hs.block b h.lt hb)
theorem SMap.drew (h : SMap P k e w b n f) : SMap P k e w.drew b n f := h
theorem SMap.far (h : SMap P k e w b n f) {p : Addr} (hp : b ≠ p.block) (u : Value) : SMap P k e (w.setCell p u) b n f := h.of_block (Below.heap_setCell w p u b hp)
theorem SMap.alloc (h : SMap P k e w b n f) (o : Obj) : SMap P k e (w.alloc o) b n f := h.of_block (Below.heap_alloc w o b h.lt)
theorem SMap.ne_cells (h : SMap P k e w b n f) {g : Nat} {T : TypeId} {cs : Array Value} (hc : Cells w g T cs) : b ≠ g := by
  rintro rfl
  obtain ⟨D, ⟨es, clock, h1, _⟩, _⟩ := h
  unfold Cells at hc
  rw [h1] at hc
  cases hc
theorem smap_has {D : DataW Unit} {f : MF} (h : ∀ key z, D.atKey (.string key) z = (match f key with | some v => .lit (.int .i64 v) | none => z)) (key : List UInt8) : Maps.has D (.string key) = (f key).isSome := by
  cases hf : f key with
  | none => exact has_false_of_atKey fun z => by rw [h, hf]
  | some v => exact has_true_of_atKey (y := .lit (.int .i64 v)) fun z => by rw [h, hf]
theorem SMap.congr (h : SMap P k e w b n f) {g : MF} (hg : ∀ key, g key = f key) : SMap P k e w b n g := by
  obtain ⟨D, h1, h2, h3⟩ := h
  exact ⟨D, h1, h2, fun key z => by rw [h3, hg]⟩
theorem SMap.put (h : SMap P k e w b n f) (hk : P.underlying k = some .string) (ht : P.underlying t = some (.map k e)) (he : P.underlying e = some (.int .i64)) (hn : n < maxLen) {key : List UInt8} (hl : key.length ≤ maxLen) {v : Int} (hv : (Lit.int .i64 v).wf = true) :
    ∃ w', (Instr.mapUpdate t (.map (some b)) (ks key) (.int .i64 v)).run P w = .ok () w' ∧ SMap P k e w' b (if (f key).isSome then n else n + 1) (fun k' => if k' = key then some v else f k') ∧ Mods (fun g => g = b) w w' := by
  obtain ⟨D, h1, h2, h3⟩ := h
  obtain ⟨w', hrun, r1, r2⟩ := h1.store (string_keyed hk) ht hn (keyOf_string_mk hk (s := ⟨key.toArray⟩) hl) (plainElem_int he hv)
  have hsz := size_put (h1.tidy (string_keyed hk)) (k := .string key) (d := .lit (.int .i64 v))
  have hhas := smap_has h3 key
  have hg := r2.grown
  refine ⟨w', hrun, ⟨D.put (.string key) (.lit (.int .i64 v)), ?_, ?_, fun k' z => ?_⟩, ⟨hg.os, hg.tape, hg.output, hg.size, fun i hi hne => hg.block i hi fun e => hne (by injection e)⟩⟩
  · rw [← hhas, ← h2, ← hsz]
    obtain ⟨es, clock, q1, q2, q3, q4⟩ := r1
    refine ⟨es, clock, q1, q2, ?_, q4⟩
    have q5 : Maps.size (D.put (.string key) (.lit (.int .i64 v))) = es.size := by
      have : Maps.size (D.put (.string (ByteArray.mk key.toArray).data.toList) (.lit (.int .i64 v))) = es.size := by rw [q4]; simp [Maps.size, length_sorted]
      simpa using this
    omega
  · rw [hsz, h2, hhas]
  · by_cases e : k' = key
    · subst e
      dsimp only
      rw [if_pos rfl, atKey_put_same h1.isMap ((string_keyed hk).key (keyOf_string_mk hk (s := ⟨k'.toArray⟩) hl))]
    · dsimp only; rw [if_neg e, atKey_put_other (by intro e2; injection e2 with e2; exact e e2), h3]
theorem SMap.del (h : SMap P k e w b n f) (hk : P.underlying k = some .string) (ht : P.underlying t = some (.map k e)) {key : List UInt8} (hl : key.length ≤ maxLen) (ty : TypeId) :
    ∃ w', (Builtin.delete_ #[t, k] ty #[.map (some b), ks key]).run P w = .ok (.tuple #[]) w' ∧ SMap P k e w' b (if (f key).isSome then n - 1 else n) (fun k' => if k' = key then none else f k') ∧ Mods (fun g => g = b) w w' := by
  obtain ⟨D, h1, h2, h3⟩ := h
  obtain ⟨w', hrun, r1, r2⟩ := h1.drop (string_keyed hk) ht (keyOf_string_mk hk (s := ⟨key.toArray⟩) hl) ty
  have hsz := size_del (h1.tidy (string_keyed hk)) (k := .string key)
  have hhas := smap_has h3 key
  have hg := r2.grown
  have hsz2 : Maps.size (D.del (.string key)) = if (f key).isSome then n - 1 else n := by
    rw [hhas, h2] at hsz
    split <;> rename_i c <;> simp [c] at hsz <;> omega
  refine ⟨w', hrun, ⟨D.del (.string key), ?_, hsz2, fun k' z => ?_⟩, ⟨hg.os, hg.tape, hg.output, hg.size, fun i hi hne => hg.block i hi fun e => hne (by injection e)⟩⟩
  · rw [← hsz2]
    obtain ⟨es, clock, q1, q2, q3, q4⟩ := r1
    refine ⟨es, clock, q1, q2, ?_, q4⟩
    have q5 : Maps.size (D.del (.string key)) = es.size := by
      have : Maps.size (D.del (.string (ByteArray.mk key.toArray).data.toList)) = es.size := by rw [q4]; simp [Maps.size, length_sorted]
      simpa using this
    omega
  · by_cases e : k' = key
    · subst e
      dsimp only
      rw [if_pos rfl, atKey_del_same]
    · dsimp only; rw [if_neg e, atKey_del_other (by intro e2; injection e2 with e2; exact e e2), h3]
theorem SMap.look_ok (h : SMap P k e w b n f) (hk : P.underlying k = some .string) (ht : P.underlying t = some (.map k e)) (he : P.underlying e = some (.int .i64)) (hz : (zeroValue e).run P w = .ok (.int .i64 0) w) {key : List UInt8} (hl : key.length ≤ maxLen) :
    (Instr.lookup t (.map (some b)) (ks key) true).run P w = .ok (.tuple #[.int .i64 ((f key).getD 0), .bool (f key).isSome]) w := by
  obtain ⟨D, h1, h2, h3⟩ := h
  obtain ⟨v, ps, hrun, hv⟩ := h1.look_ok (string_keyed hk) ht hz (plainElem_int he (by decide)) (keyOf_string_mk hk (s := ⟨key.toArray⟩) hl)
  obtain ⟨c, rfl, hc, hwc⟩ := plainElem_int_inv he hv
  have e1 := congrArg Prod.fst hc
  dsimp only at e1
  rw [h3] at e1
  have hrun' : (Instr.lookup t (.map (some b)) (ks key) true).run P w = .ok (.tuple #[.int .i64 c, .bool (Maps.has D (.string key))]) w := hrun
  rw [hrun', smap_has h3]
  cases hf : f key with
  | none => rw [hf] at e1; injection e1 with e1; injection e1 with _ e1; rw [← e1]; rfl
  | some v => rw [hf] at e1; injection e1 with e1; injection e1 with _ e1; rw [← e1]; rfl
theorem SMap.look (h : SMap P k e w b n f) (hk : P.underlying k = some .string) (ht : P.underlying t = some (.map k e)) (he : P.underlying e = some (.int .i64)) (hz : (zeroValue e).run P w = .ok (.int .i64 0) w) {key : List UInt8} (hl : key.length ≤ maxLen) :
    (Instr.lookup t (.map (some b)) (ks key) false).run P w = .ok (.int .i64 ((f key).getD 0)) w := by
  obtain ⟨D, h1, h2, h3⟩ := h
  obtain ⟨c, hrun, hat, hwc⟩ := h1.lookup_int (string_keyed hk) ht he hz (keyOf_string_mk hk (s := ⟨key.toArray⟩) hl)
  have hrun' : (Instr.lookup t (.map (some b)) (ks key) false).run P w = .ok (.int .i64 c) w := hrun
  have e1 : D.atKey (.string key) (.lit (.int .i64 0)) = .lit (.int .i64 c) := hat
  rw [h3] at e1
  rw [hrun']
  cases hf : f key with
  | none => rw [hf] at e1; injection e1 with e1; injection e1 with _ e1; rw [← e1]; rfl
  | some v => rw [hf] at e1; injection e1 with e1; injection e1 with _ e1; rw [← e1]; rfl
theorem SMap.len (h : SMap P k e w b n f) (ht : P.underlying t = some (.map k e)) (ty : TypeId) : (Builtin.len_ #[t] ty #[.map (some b)]).run P w = .ok (.int .i64 n) w := by
  obtain ⟨D, h1, h2, h3⟩ := h
  rw [h1.len ht ty, h2]
end
section
variable {P : Program} (w : World) {ops : Array Oper} {rest : List Oper} {o : Oper} {a : Act} {Q : Exit → Act → World → Prop} {k e t : TypeId} {b n : Nat} {f : MF}
/-- v, ok := m[key] -/
theorem wpList_smap_ok (hg : o.guard = none) (m x : Operand) (hop : o.op = Op.lookup t m x true) (hk : P.underlying k = some .string) (ht : P.underlying t = some (.map k e)) (he : P.underlying e = some (.int .i64)) (hz : ∀ w, (zeroValue e).run P w = .ok (.int .i64 0) w)
    (hm : a.eval m = .map (some b)) (key : List UInt8) (hx : a.eval x = ks key) (h : SMap P k e w b n f) (hl : key.length ≤ maxLen)
    (hK : wpList P ops Q rest (a.put o.dst (.tuple #[.int .i64 ((f key).getD 0), .bool (f key).isSome])) w) : wpList P ops Q (o :: rest) a w := by
  refine wpList_plain hg fun K' hK' => ?_
  have hrun := h.look_ok hk ht he (hz w) hl
  unfold Oper.wp
  simp [execOp, hop, hm, hx, hrun, Result.andThen]
  exact hK' _ _ hK
theorem wpList_smap_some (hg : o.guard = none) (m x : Operand) (hop : o.op = Op.lookup t m x true) (hk : P.underlying k = some .string) (ht : P.underlying t = some (.map k e)) (he : P.underlying e = some (.int .i64)) (hz : ∀ w, (zeroValue e).run P w = .ok (.int .i64 0) w)
    (hm : a.eval m = .map (some b)) (key : List UInt8) (hx : a.eval x = ks key) (h : SMap P k e w b n f) (hl : key.length ≤ maxLen) (v : Int) (hf : f key = some v)
    (hK : wpList P ops Q rest (a.put o.dst (.tuple #[.int .i64 v, .bool true])) w) : wpList P ops Q (o :: rest) a w :=
  wpList_smap_ok w hg m x hop hk ht he hz hm key hx h hl (by rw [hf]; exact hK)
theorem wpList_smap_none (hg : o.guard = none) (m x : Operand) (hop : o.op = Op.lookup t m x true) (hk : P.underlying k = some .string) (ht : P.underlying t = some (.map k e)) (he : P.underlying e = some (.int .i64)) (hz : ∀ w, (zeroValue e).run P w = .ok (.int .i64 0) w)
    (hm : a.eval m = .map (some b)) (key : List UInt8) (hx : a.eval x = ks key) (h : SMap P k e w b n f) (hl : key.length ≤ maxLen) (hf : f key = none)
    (hK : wpList P ops Q rest (a.put o.dst (.tuple #[.int .i64 0, .bool false])) w) : wpList P ops Q (o :: rest) a w :=
  wpList_smap_ok w hg m x hop hk ht he hz hm key hx h hl (by rw [hf]; exact hK)
/-- m[key] -/
theorem wpList_smap (hg : o.guard = none) (m x : Operand) (hop : o.op = Op.lookup t m x false) (hk : P.underlying k = some .string) (ht : P.underlying t = some (.map k e)) (he : P.underlying e = some (.int .i64)) (hz : ∀ w, (zeroValue e).run P w = .ok (.int .i64 0) w)
    (hm : a.eval m = .map (some b)) (key : List UInt8) (hx : a.eval x = ks key) (h : SMap P k e w b n f) (hl : key.length ≤ maxLen)
    (hK : wpList P ops Q rest (a.put o.dst (.int .i64 ((f key).getD 0))) w) : wpList P ops Q (o :: rest) a w := by
  refine wpList_plain hg fun K' hK' => ?_
  have hrun := h.look hk ht he (hz w) hl
  unfold Oper.wp
  simp [execOp, hop, hm, hx, hrun, Result.andThen]
  exact hK' _ _ hK
/-- m[key] = v -/
theorem wpList_smap_put (hg : o.guard = none) (m x y : Operand) (hop : o.op = Op.mapUpdate t m x y) (hk : P.underlying k = some .string) (ht : P.underlying t = some (.map k e)) (he : P.underlying e = some (.int .i64))
    (hm : a.eval m = .map (some b)) (key : List UInt8) (hx : a.eval x = ks key) (v : Int) (hy : a.eval y = .int .i64 v) (h : SMap P k e w b n f) (hl : key.length ≤ maxLen) (hn : n < maxLen) (hv : (Lit.int .i64 v).wf = true)
    (hK : ∀ w', SMap P k e w' b (if (f key).isSome then n else n + 1) (fun k' => if k' = key then some v else f k') → Mods (fun g => g = b) w w' → wpList P ops Q rest (a.put o.dst undef) w') : wpList P ops Q (o :: rest) a w := by
  refine wpList_plain hg fun K' hK' => ?_
  obtain ⟨w', hrun, r1, r2⟩ := h.put hk ht he hn hl hv
  unfold Oper.wp
  simp [execOp, hop, hm, hx, hy, hrun, Result.andThen]
  exact hK' _ _ (hK w' r1 r2)
/-- delete(m, key) -/
theorem wpList_smap_del (hg : o.guard = none) (m x : Operand) (hop : o.op = Op.call { callee := Callee.builtin Builtin.delete, args := #[m, x], argTypes := #[t, k] }) (hk : P.underlying k = some .string) (ht : P.underlying t = some (.map k e))
    (hm : a.eval m = .map (some b)) (key : List UInt8) (hx : a.eval x = ks key) (h : SMap P k e w b n f) (hl : key.length ≤ maxLen)
    (hK : ∀ w', SMap P k e w' b (if (f key).isSome then n - 1 else n) (fun k' => if k' = key then none else f k') → Mods (fun g => g = b) w w' → wpList P ops Q rest (a.put o.dst (.tuple #[])) w') : wpList P ops Q (o :: rest) a w := by
  refine wpList_plain hg fun K' hK' => ?_
  obtain ⟨w', hrun, r1, r2⟩ := h.del hk ht hl o.type
  unfold Oper.wp
  simp [execOp, hop, resolve, invoke, builtin, hm, hx, hrun, Result.andThen]
  exact hK' _ _ (hK w' r1 r2)
end
end Go.Tum

/- Owned slices of structs and the shelf's sort: one word for both. No program here. -/
namespace Go.Tum
open Go.RowKit Go.Sort Go.Proofs
section
variable {α : Type} {enc : α → List Value} {k : Nat}
theorem flatMap_len (hk : ∀ x, (enc x).length = k) : ∀ L : List α, (L.flatMap enc).length = L.length * k
  | [] => by simp
  | a :: L => by rw [List.flatMap_cons, List.length_append, hk, flatMap_len hk L, List.length_cons, Nat.add_mul, Nat.one_mul, Nat.add_comm]
theorem flatMap_get (hk : ∀ x, (enc x).length = k) : ∀ (L : List α) (i r : Nat), r < k → (L.flatMap enc)[i * k + r]? = (L[i]?).bind fun x => (enc x)[r]?
  | [], i, r, _ => by simp
  | a :: L, 0, r, h => by
    rw [List.flatMap_cons, Nat.zero_mul, Nat.zero_add, List.getElem?_append_left (by rw [hk]; exact h)]
    simp
  | a :: L, i + 1, r, h => by
    rw [List.flatMap_cons, List.getElem?_append_right (by rw [hk, Nat.add_mul, Nat.one_mul]; omega), hk, show (i + 1) * k + r - k = i * k + r by rw [Nat.add_mul, Nat.one_mul]; omega, flatMap_get hk L i r h]
    simp
theorem flatK_toList [Inhabited α] (hk : ∀ x, (enc x).length = k) (L : List α) : (flatK enc k L.toArray).toList = L.flatMap enc := by
  have hl := flatMap_len hk L
  have hs : (flatK enc k L.toArray).size = L.length * k := by rw [size_flatK]; simp
  apply List.ext_getElem?
  intro t
  rcases Nat.lt_or_ge t (L.length * k) with ht | ht
  · have k0 : 0 < k := by
      rcases Nat.eq_zero_or_pos k with h | h
      · subst h; simp at ht
      · exact h
    have hq : t / k < L.length := Nat.div_lt_of_lt_mul (by rw [Nat.mul_comm]; exact ht)
    have hr := Nat.mod_lt t k0
    have e : t / k * k + t % k = t := by rw [Nat.mul_comm]; exact Nat.div_add_mod t k
    have h1 := flatMap_get hk L (t / k) (t % k) hr
    rw [e, List.getElem?_eq_getElem hq] at h1
    rw [h1, Array.getElem?_toList, Array.getElem?_eq_getElem (by omega)]
    have h2 := get_flatK enc k L.toArray t (by simpa using ht)
    rw [getElem!_pos _ t (by omega)] at h2
    rw [h2]
    have h3 : (L.toArray[t / k]!) = L[t / k] := by rw [getElem!_pos _ _ (by simpa using hq)]; simp
    rw [h3]
    simp only [Option.bind_some]
    rw [List.getElem?_eq_getElem (by rw [hk]; exact hr), getElem!_pos _ _ (by rw [hk]; exact hr)]
  · rw [List.getElem?_eq_none (by rw [Array.length_toList]; omega), List.getElem?_eq_none (by omega)]
variable {w : World} {F : Nat → Prop} {e : TypeId} {g c n : Nat} {L : List α}
theorem own_holdsK [Inhabited α] (hk : ∀ x, (enc x).length = k) (hn : L.length = n) (h : Own w F e k (.slice (some ⟨g, 0, none⟩) n c) n (L.flatMap enc)) : HoldsK enc k w g 0 L.toArray := by
  intro t ht
  rw [size_flatK] at ht
  have ht2 : t < n * k := by simpa [hn] using ht
  obtain ⟨g', c', e1, _, _, hx⟩ := h.cells (by
    rcases Nat.eq_zero_or_pos n with h0 | h0
    · subst h0; simp at ht2
    · exact h0)
  injection e1 with e1
  injection e1 with e1
  injection e1 with e1
  subst e1
  obtain ⟨h1, h2⟩ := hx t ht2
  rw [Nat.zero_add]
  refine ⟨?_, h2⟩
  rw [h1, ← flatK_toList hk L, Array.getElem?_toList, Array.getElem?_eq_getElem (by rw [size_flatK]; simpa [hn] using ht2), getElem!_pos _ t (by rw [size_flatK]; simpa [hn] using ht2)]
  rfl
/-- Behind the sort the same slice owns the sorted list. -/
theorem own_sorted [Inhabited α] (hk : ∀ x, (enc x).length = k) {T : List α} (hT : T.length = n) (h : Own w F e k (.slice (some ⟨g, 0, none⟩) n c) n (L.flatMap enc)) (m : Nat) (os : Array Obj) :
    Own (sortWorldK enc k w g 0 m T.toArray os) F e k (.slice (some ⟨g, 0, none⟩) n c) n (T.flatMap enc) ∧ Mods (fun b => b = g) w (sortWorldK enc k w g 0 m T.toArray os) := by
  obtain ⟨⟨h1, h2⟩, h3⟩ := h
  rcases h2 with ⟨e1, _⟩ | ⟨g', cap, cur, e1, _, hh, k1, k2, k3, k4⟩
  · cases e1
  · injection e1 with e1 _ e2
    injection e1 with e1
    injection e1 with e1
    subst e1 e2
    have hg : g < w.heap.size := (Array.getElem?_eq_some_iff.1 hh).1
    have hsz : (flatK enc k T.toArray).size = n * k := by rw [size_flatK]; simp [hT]
    have hle : n * k ≤ c * k := Nat.mul_le_mul_right _ k1
    have hblk : (sortWorldK enc k w g 0 m T.toArray os).heap[g]? = some (.cells (putCells id 0 (flatK enc k T.toArray) cur) e (0, 0)) := by
      unfold sortWorldK putRowK
      rw [heap_grow_old _ _ (by simpa using hg)]
      simp [putRow, mapBlock, Sort.ahead, Array.getElem?_modify, hh, onCells]
    refine ⟨⟨⟨by rw [flatMap_len hk, hT], .inr ⟨g, c, _, rfl, Nat.zero_le _, hblk, k1, k2, by simp [putCells, k3], ?_⟩⟩, h3⟩, ⟨rfl, rfl, rfl, ?_, fun b hb hne => ?_⟩⟩
    · rw [← flatK_toList hk T]
      apply List.ext_getElem?
      intro j
      rcases Nat.lt_or_ge j (n * k) with hj | hj
      · rw [List.getElem?_take_of_lt hj, Array.getElem?_toList, Array.getElem?_toList]
        rw [Array.getElem?_eq_getElem (by simp [putCells]; omega), Array.getElem?_eq_getElem (by omega)]
        simp only [putCells, Array.getElem_mapIdx]
        rw [if_pos (by omega), Nat.sub_zero, getElem!_pos _ j (by omega)]
        rfl
      · rw [List.getElem?_take_eq_none hj, List.getElem?_eq_none (by rw [Array.length_toList]; omega)]
    · unfold sortWorldK putRowK
      simp [Sort.ahead]
    · unfold sortWorldK putRowK
      rw [heap_grow_old _ _ (by simpa using hb)]
      have : g ≠ b := fun e => hne e.symm
      simp [putRow, mapBlock, Sort.ahead, Array.getElem?_modify, this]
end
/-- Draws and blocks alone. -/
def Gr (w w' : World) : Prop := ∃ q os, w' = grow (w.drewN q) os
theorem Gr.refl (w : World) : Gr w w := ⟨0, #[], by simp [World.drewN]⟩
theorem Gr.drew {a w : World} (h : Gr a w) : Gr a w.drew := by
  obtain ⟨q, os, rfl⟩ := h
  exact ⟨q + 1, os, rfl⟩
theorem Gr.drewN {a w : World} (h : Gr a w) (n : Nat) : Gr a (w.drewN n) := by
  obtain ⟨q, os, rfl⟩ := h
  exact ⟨q + n, os, by simp [World.drewN, grow, Nat.add_assoc]⟩
theorem Gr.alloc {a w : World} (h : Gr a w) (o : Obj) : Gr a (w.alloc o) := by
  obtain ⟨q, os, rfl⟩ := h
  exact ⟨q, os ++ #[o], by rw [alloc_eq_grow, grow_grow]⟩
theorem Gr.trans {a b c : World} (h : Gr a b) (k : Gr b c) : Gr a c := by
  obtain ⟨q, os, rfl⟩ := h
  obtain ⟨q', os', rfl⟩ := k
  exact ⟨q + q', os ++ os', by rw [← grow_grow]; simp [World.drewN, grow, Nat.add_assoc]⟩
theorem Gr.mods {a b : World} (h : Gr a b) : Mods No a b := by
  obtain ⟨q, os, rfl⟩ := h
  exact ⟨rfl, rfl, rfl, by simp [World.drewN, grow], fun k hk _ => heap_grow_old _ _ (by simpa [World.drewN] using hk)⟩
end Go.Tum

/- A region that draws its order is walked in the order of the text: where every two of its operations that could change places are apart, and one of them looks at no memory or both only read. -/
namespace Go.Tum

/-! ### What an operation's run hangs on -/
/-- One answer in whatever world, and the world stays; or no answer in any. -/
def Wless (P : Program) {α : Type} (s : Sem α) : Prop := (∃ v, ∀ W, s.run P W = .ok v W) ∨ (∀ W, ∃ h W', s.run P W = .halt h W')
/-- An answer, the world stays; or none. -/
def Quiet (P : Program) {α : Type} (s : Sem α) : Prop := ∀ W, (∃ v, s.run P W = .ok v W) ∨ (∃ h W', s.run P W = .halt h W')
def Halts (P : Program) {α : Type} (s : Sem α) : Prop := ∀ W, ∃ h W', s.run P W = .halt h W'

section
variable {P : Program} {α β : Type}
theorem Wless.quiet {s : Sem α} (h : Wless P s) : Quiet P s := fun W => by
  rcases h with ⟨v, hv⟩ | h
  · exact .inl ⟨v, hv W⟩
  · exact .inr (h W)
theorem Halts.wless {s : Sem α} (h : Halts P s) : Wless P s := .inr h
theorem Wless.pure_ (v : α) : Wless P (pure v : Sem α) := .inl ⟨v, fun _ => rfl⟩
theorem Halts.halt_ (h : Halt) : Halts P (Sem.halt h : Sem α) := fun W => ⟨h, W, rfl⟩
theorem Halts.bind_left {s : Sem α} {f : α → Sem β} (h : Halts P s) : Halts P (s >>= f) := fun W => by
  obtain ⟨x, W', hr⟩ := h W
  exact ⟨x, W', by simp [hr, Result.andThen]⟩
theorem Halts.bind_right {s : Sem α} {f : α → Sem β} (h : ∀ v, Halts P (f v)) : Halts P (s >>= f) := fun W => by
  cases hr : s.run P W with
  | ok v W1 =>
    obtain ⟨x, W', h'⟩ := h v W1
    exact ⟨x, W', by simp [hr, Result.andThen, h']⟩
  | halt x W' => exact ⟨x, W', by simp [hr, Result.andThen]⟩
theorem Wless.bind {s : Sem α} {f : α → Sem β} (h : Wless P s) (k : ∀ v, Wless P (f v)) : Wless P (s >>= f) := by
  rcases h with ⟨v, hv⟩ | h
  · rcases k v with ⟨u, hu⟩ | hu
    · exact .inl ⟨u, fun W => by simp [hv W, Result.andThen, hu W]⟩
    · refine .inr fun W => ?_
      obtain ⟨x, W', hx⟩ := hu W
      exact ⟨x, W', by simp [hv W, Result.andThen, hx]⟩
  · exact .inr (Halts.bind_left h)
theorem Quiet.bind {s : Sem α} {f : α → Sem β} (h : Quiet P s) (k : ∀ v, Quiet P (f v)) : Quiet P (s >>= f) := fun W => by
  rcases h W with ⟨v, hv⟩ | ⟨x, W', hx⟩
  · rcases k v W with ⟨u, hu⟩ | ⟨x, W', hx⟩
    · exact .inl ⟨u, by simp [hv, Result.andThen, hu]⟩
    · exact .inr ⟨x, W', by simp [hv, Result.andThen, hx]⟩
  · exact .inr ⟨x, W', by simp [hx, Result.andThen]⟩
theorem Wless.map {s : Sem α} (f : α → β) (h : Wless P s) : Wless P (f <$> s) := by
  rcases h with ⟨v, hv⟩ | h
  · exact .inl ⟨f v, fun W => by simp [hv W, Result.andThen]⟩
  · refine .inr fun W => ?_
    obtain ⟨x, W', hx⟩ := h W
    exact ⟨x, W', by simp [hx, Result.andThen]⟩
theorem wless_program : Wless P program := .inl ⟨P, fun _ => rfl⟩
theorem halts_stuck (why : String) : Halts P (stuck why : Sem α) := .halt_ _
theorem halts_unsupported (u : Unsupported) : Halts P (unsupported u : Sem α) := .halt_ _
theorem halts_goPanic (v : Value) : Halts P (goPanic v : Sem α) := .halt_ _
theorem halts_runtimePanic (e : RuntimeError) : Halts P (runtimePanic e : Sem α) := by
  unfold runtimePanic
  refine Halts.bind_right fun p => ?_
  cases e <;> first | exact .halt_ _ | (repeat (first | exact .halt_ _ | refine Halts.bind_right fun _ => ?_))
theorem halts_boundsPanic (k : IntKind) (x y : Int) (c : BoundsCode) : Halts P (boundsPanic k x y c : Sem α) := by
  unfold boundsPanic
  dsimp only
  split <;> exact Halts.bind_right fun _ => halts_runtimePanic _
theorem wless_typeInfo (t : TypeId) : Wless P (typeInfo t) := by
  unfold typeInfo
  refine wless_program.bind fun p => ?_
  split
  · exact .pure_ _
  · exact (halts_stuck _).wless
theorem wless_underlying (t : TypeId) : Wless P (underlying t) := by
  unfold underlying
  refine wless_program.bind fun p => ?_
  split
  · exact .pure_ _
  · exact (halts_stuck _).wless
theorem wless_sizeOf (t : TypeId) : Wless P (sizeOf t) := (wless_typeInfo t).bind fun _ => .pure_ _
theorem wless_zeroValue (t : TypeId) : Wless P (zeroValue t) := by
  unfold zeroValue
  refine (wless_typeInfo t).bind fun i => ?_
  split
  · exact .pure_ _
  · exact (halts_unsupported _).wless
theorem wless_isAgg (t : TypeId) : Wless P (isAgg t) := by
  unfold isAgg
  refine (wless_underlying t).bind fun d => ?_
  split <;> exact .pure_ _
theorem wless_part (t : TypeId) (cs : Array Value) (off : Nat) : Wless P (part t cs off) := by
  unfold part
  refine (wless_isAgg t).bind fun b => ?_
  split
  · exact (wless_sizeOf t).bind fun _ => .pure_ _
  · split
    · exact .pure_ _
    · exact (halts_stuck _).wless
theorem wless_asBool (v : Value) : Wless P (asBool v) := by unfold asBool; split <;> first | exact .pure_ _ | exact (halts_stuck _).wless
theorem wless_asIntOf (v : Value) : Wless P (asIntOf v) := by unfold asIntOf; split <;> first | exact .pure_ _ | exact (halts_stuck _).wless | exact (halts_unsupported _).wless
theorem wless_asAgg (v : Value) : Wless P (asAgg v) := by unfold asAgg; split <;> first | exact .pure_ _ | exact (halts_stuck _).wless
theorem wless_sureAddr (v : Value) : Wless P (Instr.sureAddr v) := by unfold Instr.sureAddr; split <;> first | exact .pure_ _ | exact (halts_stuck _).wless
theorem wless_asAddr (v : Value) : Wless P (asAddr v) := by unfold asAddr; split <;> first | exact .pure_ _ | exact (halts_stuck _).wless | exact (halts_runtimePanic _).wless
theorem wless_sliceBound (x : Value) (y : Nat) (c : BoundsCode) : Wless P (Instr.sliceBound x y c) := by
  unfold Instr.sliceBound
  refine (wless_asIntOf x).bind fun ⟨k, i⟩ => ?_
  dsimp only
  split
  · exact .pure_ _
  · exact (halts_boundsPanic _ _ _ _).wless
theorem wless_sliceBounds (b : Bool) (len cap : Nat) (lo hi mx : Option Value) : Wless P (Instr.sliceBounds b len cap lo hi mx) := by
  unfold Instr.sliceBounds
  dsimp only
  repeat' (first | exact .pure_ _ | exact wless_sliceBound _ _ _ | exact (halts_stuck _).wless | refine Wless.bind ?_ fun _ => ?_ | split)
theorem wless_slice (t : TypeId) (x : Value) (lo hi mx : Option Value) : Wless P (Instr.slice t x lo hi mx) := by
  unfold Instr.slice
  refine (wless_underlying t).bind fun d => ?_
  repeat' (first | exact .pure_ _ | exact wless_sliceBounds _ _ _ _ _ _ | exact wless_sizeOf _ | exact wless_asAddr _ | exact wless_underlying _ | exact (halts_stuck _).wless | exact (Halts.bind_left (halts_stuck _)).wless | refine Wless.bind ?_ fun _ => ?_ | split)
theorem wless_sliceAt (t : TypeId) (x : Value) (lo hi mx : Option Value) : Wless P (Instr.sliceAt t x lo hi mx) := by
  unfold Instr.sliceAt
  refine (wless_underlying t).bind fun d => ?_
  repeat' (first | exact .pure_ _ | exact wless_slice _ _ _ _ _ | exact wless_sliceBounds _ _ _ _ _ _ | exact wless_sizeOf _ | exact wless_sureAddr _ | refine Wless.bind ?_ fun _ => ?_ | split)
theorem wless_field (t : TypeId) (x : Value) (f : Nat) : Wless P (Instr.field t x f) := by
  unfold Instr.field
  refine (wless_underlying t).bind fun d => ?_
  repeat' (first | exact .pure_ _ | exact wless_part _ _ _ | exact wless_asAgg _ | exact (halts_stuck _).wless | refine Wless.bind ?_ fun _ => ?_ | split)
theorem wless_index (t : TypeId) (x i : Value) : Wless P (Instr.index t x i) := by
  unfold Instr.index
  refine (wless_asIntOf i).bind fun _ => (wless_underlying t).bind fun d => ?_
  repeat' (first | exact .pure_ _ | exact wless_part _ _ _ | exact wless_sizeOf _ | exact (halts_stuck _).wless | exact (halts_boundsPanic _ _ _ _).wless | refine Wless.bind ?_ fun _ => ?_ | split)
theorem wless_indexAt (t : TypeId) (x i : Value) : Wless P (Instr.indexAt t x i) := by
  unfold Instr.indexAt
  refine (wless_asIntOf i).bind fun _ => (wless_underlying t).bind fun d => ?_
  dsimp only
  repeat' (first | exact .pure_ _ | exact wless_sureAddr _ | exact wless_underlying _ | exact wless_sizeOf _ | exact (halts_stuck _).wless | exact (halts_unsupported _).wless | exact (halts_boundsPanic _ _ _ _).wless | refine Wless.bind ?_ fun _ => ?_ | split)
theorem wless_extract (x : Value) (i : Nat) : Wless P (Instr.extract x i) := by
  unfold Instr.extract
  repeat' (first | exact .pure_ _ | exact (halts_stuck _).wless | split)
theorem wless_makeInterface (t : TypeId) (x : Value) : Wless P (Instr.makeInterface t x) := by
  unfold Instr.makeInterface
  refine (wless_underlying t).bind fun d => ?_
  split <;> first | exact (halts_stuck _).wless | exact .pure_ _
theorem wless_intArith (op : BinOp) (k : IntKind) (x y : Int) : Wless P (Op.intArith op k x y) := by
  unfold Op.intArith; split <;> first | exact .pure_ _ | exact (halts_stuck _).wless
theorem wless_intBits (op : BinOp) (k : IntKind) (x y : Int) : Wless P (Op.intBits op k x y) := by
  unfold Op.intBits; split <;> first | exact .pure_ _ | exact (halts_stuck _).wless
theorem wless_intCmp (op : BinOp) (x y : Int) : Wless P (Op.intCmp op x y) := by
  unfold Op.intCmp; split <;> first | exact .pure_ _ | exact (halts_stuck _).wless
theorem wless_intDiv (op : BinOp) (k : IntKind) (x y : Int) : Wless P (Op.intDiv op k x y) := by
  unfold Op.intDiv
  split
  · exact (halts_runtimePanic _).wless
  · split <;> first | exact .pure_ _ | exact (halts_stuck _).wless
theorem wless_shift (op : BinOp) (k : IntKind) (x : Int) (k' : IntKind) (y : Int) : Wless P (Op.shift op k x k' y) := by
  unfold Op.shift
  repeat' (first | exact .pure_ _ | exact (halts_stuck _).wless | exact (halts_runtimePanic _).wless | exact (halts_unsupported _).wless | refine Wless.bind ?_ fun _ => ?_ | split)
theorem wless_stringOp (op : BinOp) (x y : ByteArray) : Wless P (Op.stringOp op x y) := by
  unfold Op.stringOp
  dsimp only
  split <;> first | exact .pure_ _ | exact (halts_stuck _).wless | (split <;> first | exact .pure_ _ | exact (halts_unsupported _).wless)
theorem run_underlying' (t : TypeId) (W : World) : (underlying t).run P W = match P.underlying t with | some d => .ok d W | none => .halt (.stuck "no such type") W := by
  unfold underlying
  cases h : P.underlying t <;> simp [program, Sem.run, Result.andThen, h, stuck]
theorem wless_underlying_bind (t : TypeId) (f : TypeDesc → Sem β) (h : ∀ d, P.underlying t = some d → Wless P (f d)) : Wless P (underlying t >>= f) := by
  cases hu : P.underlying t with
  | none => exact .inr fun W => ⟨_, W, by simp [run_underlying', hu, Result.andThen]; rfl⟩
  | some d =>
    rcases h d hu with ⟨v, hv⟩ | hh
    · exact .inl ⟨v, fun W => by simp [run_underlying', hu, Result.andThen, hv W]⟩
    · refine .inr fun W => ?_
      obtain ⟨x, W', hx⟩ := hh W
      exact ⟨x, W', by simp [run_underlying', hu, Result.andThen, hx]⟩
theorem wless_typeInfo_bind (t : TypeId) (f : TypeInfo → Sem β) (h : ∀ i, P.info? t = some i → Wless P (f i)) : Wless P (typeInfo t >>= f) := by
  have hr : ∀ W, (typeInfo t).run P W = match P.info? t with | some i => .ok i W | none => .halt (.stuck "no such type") W := fun W => by
    unfold typeInfo
    cases hi : P.info? t <;> simp [program, Sem.run, Result.andThen, hi, stuck]
  cases hu : P.info? t with
  | none => exact .inr fun W => ⟨_, W, by simp [hr, hu, Result.andThen]; rfl⟩
  | some d =>
    rcases h d hu with ⟨v, hv⟩ | hh
    · exact .inl ⟨v, fun W => by simp [hr, hu, Result.andThen, hv W]⟩
    · refine .inr fun W => ?_
      obtain ⟨x, W', hx⟩ := hh W
      exact ⟨x, W', by simp [hr, hu, Result.andThen, hx]⟩
theorem wless_fieldPlace (a : Addr) (f : Field) (hz : (P.info? f.type).map (·.size) ≠ some 0) : Wless P (fieldPlace a f) := by
  unfold fieldPlace sizeOf
  rw [LawfulMonad.bind_assoc]
  refine wless_typeInfo_bind _ _ fun i hi => ?_
  simp only [LawfulMonad.pure_bind]
  rw [if_neg (by intro h0; exact hz (by rw [hi]; simp [h0]))]
  exact .pure_ _
theorem wless_fieldAt (s : TypeId) (x : Value) (f : Nat) (hz : ∀ fs fd, P.underlying s = some (.struct fs) → fs[f]? = some fd → (P.info? fd.type).map (·.size) ≠ some 0) : Wless P (Instr.fieldAt s x f) := by
  unfold Instr.fieldAt
  refine wless_underlying_bind _ _ fun d hd => ?_
  split
  · rename_i fields
    split
    · rename_i fd hf
      exact (wless_sureAddr _).bind fun a => (wless_fieldPlace a fd (hz _ _ hd hf)).bind fun _ => .pure_ _
    · exact (halts_stuck _).wless
  · exact (halts_stuck _).wless
theorem wless_equal_plain (t : TypeId) (x y : Value) (h : (∃ a b, x = .bool a ∧ y = .bool b) ∨ x = .pointer none ∧ (∃ b, y = .pointer b) ∨ (∃ b, x = .pointer b) ∧ y = .pointer none ∨
    (∃ n c, x = .slice none n c) ∧ (∃ a n c, y = .slice a n c) ∨ (∃ a n c, x = .slice a n c) ∧ (∃ n c, y = .slice none n c) ∨ x = .map none ∧ (∃ b, y = .map b) ∨ (∃ b, x = .map b) ∧ y = .map none ∨
    x = .nilIface ∧ y = .nilIface ∨ x = .nilIface ∧ (∃ a b, y = .iface a b) ∨ (∃ a b, x = .iface a b) ∧ y = .nilIface ∨ x = .nilFunc ∧ y = .nilFunc ∨ x = .nilFunc ∧ (∃ a b c, y = .func a b c) ∨ (∃ a b c, x = .func a b c) ∧ y = .nilFunc) :
    Wless P (Op.equal t x y) := by
  unfold Op.equal Op.maxDepth Op.equalIn
  refine (wless_underlying t).bind fun d => ?_
  rcases h with ⟨a, b, rfl, rfl⟩ | ⟨rfl, b, rfl⟩ | ⟨⟨b, rfl⟩, rfl⟩ | ⟨⟨n, c, rfl⟩, a, m, e, rfl⟩ | ⟨⟨a, m, e, rfl⟩, n, c, rfl⟩ | ⟨rfl, b, rfl⟩ | ⟨⟨b, rfl⟩, rfl⟩ | ⟨rfl, rfl⟩ | ⟨rfl, a, b, rfl⟩ | ⟨⟨a, b, rfl⟩, rfl⟩ | ⟨rfl, rfl⟩ | ⟨rfl, a, b, c, rfl⟩ | ⟨⟨a, b, c, rfl⟩, rfl⟩
  all_goals (cases d <;> (repeat' (first | exact .pure_ _ | exact (halts_stuck _).wless | exact (halts_unsupported _).wless | (exfalso; simp_all; done) | (injection ‹Value.pointer none = _› with e; subst e; unfold samePointer; split <;> first | exact .pure_ _ | (exfalso; simp_all; done)) | split)))
theorem wless_eqGuardIn_nil (t : TypeId) : Wless P (Op.eqGuardIn Op.maxDepth t .nilIface .nilIface) := by
  unfold Op.maxDepth Op.eqGuardIn
  refine (wless_underlying t).bind fun d => ?_
  split <;> first | exact .pure_ _ | (exfalso; simp_all; done)
end

/-! ### Which operations these are -/
/-- Two values that a binary operation takes without a look at memory. -/
def plain2 : BinOp → Value → Value → Bool
  | _, .int _ _, .int _ _ => true
  | _, .string _, .string _ => true
  | .eql, x, y | .neq, x, y =>
    match x, y with
    | .bool _, .bool _ => true
    | .pointer none, .pointer _ | .pointer _, .pointer none => true
    | .slice none _ _, .slice _ _ _ | .slice _ _ _, .slice none _ _ => true
    | .map none, .map _ | .map _, .map none => true
    | .nilIface, .nilIface | .nilIface, .iface _ _ | .iface _ _, .nilIface => true
    | .nilFunc, .nilFunc | .nilFunc, .func _ _ _ | .func _ _ _, .nilFunc => true
    | .tuple _, .tuple _ => true
    | _, _ => false
  | _, .tuple _, .tuple _ => true
  | _, _, _ => false
section
variable {P : Program}
theorem wless_binOp_int (op : BinOp) (t : TypeId) (k : IntKind) (a : Int) (k' : IntKind) (b : Int) : Wless P (binOp op t (.int k a) (.int k' b)) := by
  cases op <;> simp only [binOp] <;> first
    | exact wless_shift _ _ _ _ _
    | (split <;> first | exact (halts_stuck _).wless | exact wless_intArith _ _ _ _ | exact wless_intDiv _ _ _ _ | exact wless_intBits _ _ _ _ | exact wless_intCmp _ _ _)
theorem wless_binOp_string (op : BinOp) (t : TypeId) (a b : ByteArray) : Wless P (binOp op t (.string a) (.string b)) := by
  cases op <;> simp only [binOp] <;> exact wless_stringOp _ _ _
theorem wless_binOp (op : BinOp) (t : TypeId) (x y : Value) (h : plain2 op x y = true) : Wless P (binOp op t x y) := by
  unfold plain2 at h
  split at h
  · exact wless_binOp_int _ _ _ _ _ _
  · exact wless_binOp_string _ _ _ _
  · split at h
    all_goals first
      | (cases h; done)
      | (simp only [binOp]; refine Wless.bind ?_ fun _ => .pure_ _; refine wless_equal_plain _ _ _ ?_; simp; done)
      | (simp only [binOp, Op.equal, Op.maxDepth, Op.equalIn]
         refine Wless.bind ?_ fun _ => .pure_ _
         refine (wless_underlying _).bind fun d => ?_
         first | exact (halts_stuck _).wless | (split <;> first | exact (halts_stuck _).wless | (exfalso; simp_all; done)))
  · split at h
    all_goals first
      | (cases h; done)
      | (simp only [binOp]; refine Wless.bind ?_ fun _ => .pure_ _; refine wless_equal_plain _ _ _ ?_; simp; done)
      | (simp only [binOp, Op.equal, Op.maxDepth, Op.equalIn]
         refine Wless.bind ?_ fun _ => .pure_ _
         refine (wless_underlying _).bind fun d => ?_
         first | exact (halts_stuck _).wless | (split <;> first | exact (halts_stuck _).wless | (exfalso; simp_all; done)))
  · rename_i op _ _ _ _ _ _
    cases op <;> simp only [binOp] <;> first | exact (halts_stuck _).wless | (exfalso; simp_all; done)
  · cases h
theorem wless_eqGuard (op : BinOp) (t : TypeId) (x y : Operand) (a b : Value) (h : ∀ c d, ¬ (a = .agg c ∧ b = .agg d)) : Wless P (eqGuard op t x y a b) := by
  unfold eqGuard
  repeat' (first | exact .pure_ _ | exact wless_eqGuardIn_nil _ | exact (halts_unsupported _).wless | (exfalso; simp_all; done) | refine Wless.bind ?_ fun _ => ?_ | split)
theorem wless_unary (op : UnOp) (x : Value) : Wless P (Op.unary op x) := by
  unfold Op.unary
  split <;> first | exact wless_intArith _ _ _ _ | exact wless_intBits _ _ _ _ | exact .pure_ _ | exact (halts_stuck _).wless | exact (halts_unsupported _).wless
theorem wless_len_plain (ats : Array TypeId) (ty : TypeId) (x : Value) (h : (∃ s, x = .string s) ∨ (∃ a n c, x = .slice a n c)) : Wless P (Builtin.len_ ats ty #[x]) := by
  unfold Builtin.len_
  split
  · rename_i t' x' heq
    have hx : x' = x := by simp at heq; exact heq.2.symm
    subst hx
    refine (wless_underlying _).bind fun d => ?_
    split <;> first | exact .pure_ _ | (exfalso; rcases h with ⟨_, h⟩ | ⟨_, _, _, h⟩ <;> simp_all; done) | exact (halts_stuck _).wless | (refine (wless_underlying _).bind fun _ => ?_; split <;> first | exact .pure_ _ | exact (halts_stuck _).wless)
  · exact (halts_stuck _).wless
theorem wless_min2 (k : IntKind) (a : Int) (k' : IntKind) (b : Int) : Wless P (Builtin.min2 (.int k a) (.int k' b)) := by simp only [Builtin.min2]; exact .pure_ _
theorem wless_max2 (k : IntKind) (a : Int) (k' : IntKind) (b : Int) : Wless P (Builtin.max2 (.int k a) (.int k' b)) := by simp only [Builtin.max2]; exact .pure_ _
theorem wless_mapM {α β : Type} (f : α → Sem β) (h : ∀ x, Wless P (f x)) : ∀ l : List α, Wless P (l.mapM f)
  | [] => .pure_ _
  | x :: l => by
    rw [List.mapM_cons]
    exact (h x).bind fun _ => (wless_mapM f h l).bind fun _ => .pure_ _
theorem wless_build (t : TypeId) (ps : Array (Nat × Value)) : Wless P (Instr.build t ps) := by
  unfold Instr.build
  refine (wless_zeroValue t).bind fun z => (wless_underlying t).bind fun d => ?_
  split
  · refine Wless.bind ?_ fun _ => ?_
    · rw [Array.mapM_eq_mapM_toList]
      exact Wless.map _ (wless_mapM _ (fun f => (wless_sizeOf _).bind fun _ => .pure_ _) _)
    · split <;> first | exact .pure_ _ | exact (halts_stuck _).wless
  · refine (wless_sizeOf _).bind fun _ => ?_
    split <;> first | exact .pure_ _ | exact (halts_stuck _).wless
  · exact (halts_stuck _).wless

/-! ### Operations that only read -/
theorem quiet_load (a : Addr) : Quiet P (load a) := fun W => by
  unfold load
  simp only [Sem.run]
  cases W.cell? a with
  | some v => exact .inl ⟨v, rfl⟩
  | none =>
    simp only
    split
    · exact .inl ⟨_, rfl⟩
    · exact .inr ⟨_, _, rfl⟩
theorem quiet_loadCellsFrom (a : Addr) : ∀ (n i : Nat) (acc : Array Value), Quiet P (loadCellsFrom a i n acc)
  | 0, _, acc => by unfold loadCellsFrom; exact (Wless.pure_ _).quiet
  | n + 1, i, acc => by
    unfold loadCellsFrom
    exact (quiet_load _).bind fun _ => quiet_loadCellsFrom a n _ _
theorem quiet_loadVar (t : TypeId) (a : Addr) : Quiet P (loadVar t a) := by
  unfold loadVar
  refine (wless_isAgg t).quiet.bind fun b => ?_
  split
  · exact (wless_sizeOf t).quiet.bind fun _ => (quiet_loadCellsFrom a _ _ _).bind fun _ => (Wless.pure_ _).quiet
  · exact quiet_load a
theorem quiet_loadAt (t : TypeId) (x : Value) : Quiet P (Instr.loadAt t x) := by
  unfold Instr.loadAt
  exact (wless_sureAddr x).quiet.bind fun a => quiet_loadVar t a
theorem quiet_forIn {α σ : Type} (f : α → σ → Sem (ForInStep σ)) (h : ∀ x s, Quiet P (f x s)) : ∀ (l : List α) (s : σ), Quiet P (forIn l s f)
  | [], s => by rw [List.forIn_nil]; exact (Wless.pure_ _).quiet
  | x :: l, s => by
    rw [List.forIn_cons]
    refine (h x s).bind fun r => ?_
    cases r with
    | done s' => exact (Wless.pure_ _).quiet
    | yield s' => exact quiet_forIn f h l s'
theorem quiet_bytesToString (x : Value) : Quiet P (Conv.bytesToString x) := by
  unfold Conv.bytesToString
  split
  · exact (Wless.pure_ _).quiet
  · refine (quiet_loadCellsFrom _ _ _ _).bind fun cs => ?_
    dsimp only
    rw [← Array.forIn_toList]
    refine Quiet.bind (quiet_forIn _ (fun c s => ?_) _ _) fun _ => (Wless.pure_ _).quiet
    split
    · exact (Wless.pure_ _).quiet
    · exact ((halts_stuck _).bind_left).wless.quiet
  · exact (halts_stuck _).wless.quiet
theorem quiet_convert_string (src dst e : TypeId) (x : Value) (h1 : P.underlying src = some (.slice e)) (h2 : P.underlying e = some (.int .u8)) (h3 : P.underlying dst = some .string) : Quiet P (convert src dst x) := by
  unfold convert
  intro W
  simp only [Sem.run_bind, run_underlying', h1, h3, Result.andThen]
  split <;> first
    | (exfalso; simp_all; done)
    | exact (Wless.pure_ _).quiet W
    | skip
  rename_i heq1 _ _ _
  injection heq1 with heq1
  subst heq1
  simp only [Sem.run_bind, run_underlying', h2, Result.andThen]
  exact quiet_bytesToString _ W
end

/-! ### The two kinds, by their look -/
def freeCall (c : Call) : Bool :=
  match c.callee with
  | .builtin .len => c.args.size == 1
  | .builtin .min | .builtin .max => c.args.size == 2
  | _ => false
def freeOp (P : Program) (o : Oper) : Bool :=
  match o.op with
  | .move _ | .assign _ | .pick _ _ _ | .field _ _ _ | .index _ _ _ | .indexAddr _ _ _ | .slice _ _ _ _ _ | .extract _ _ | .makeInterface _ _ | .makeFunc _ _ _ | .unOp _ _ _ | .nilCheck _ | .binOp _ _ _ _ _ | .build _ _ => true
  | .fieldAddr s _ f => match P.underlying s with
    | some (.struct fs) => match fs[f]? with
      | some fd => (P.info? fd.type).map (·.size) != some 0
      | none => true
    | _ => true
  | .convert src dst _ => match P.underlying src, P.underlying dst with
    | some (.int _), some (.int _) => true
    | _, _ => false
  | .call c => freeCall c
  | _ => false
def readOp (P : Program) (o : Oper) : Bool :=
  match o.op with
  | .load _ _ => true
  | .convert src dst _ => match P.underlying src, P.underlying dst with
    | some (.slice e), some .string => match P.underlying e with
      | some (.int .u8) => true
      | _ => false
    | _, _ => false
  | _ => false
/-- What its operands must look like. -/
def plainLen : Value → Bool
  | .string _ | .slice _ _ _ | .tuple _ => true
  | _ => false
def plainInt : Value → Bool
  | .int _ _ => true
  | _ => false
def plainNone : Value → Bool
  | .tuple _ => true
  | _ => false
def plainPtr : Value → Bool
  | .pointer _ | .tuple _ => true
  | _ => false
def plainConv : Value → Bool
  | .int _ _ | .slice _ _ _ | .tuple _ => true
  | _ => false
def plainCall (c : Call) (ρ : Operand → Value) : Bool :=
  match c.callee with
  | .builtin .len => c.args.toList.all fun x => plainLen (ρ x)
  | .builtin .min | .builtin .max => (c.args.toList.all fun x => plainInt (ρ x)) || c.args.toList.all fun x => plainNone (ρ x)
  | _ => true
def plainOp (o : Oper) (ρ : Operand → Value) : Bool :=
  match o.op with
  | .binOp op _ x y _ => plain2 op (ρ x) (ρ y)
  | .nilCheck x => plainPtr (ρ x)
  | .convert _ _ x => plainConv (ρ x)
  | .call c => plainCall c ρ
  | _ => true
def FreeAt (P : Program) (ρ : Operand → Value) (o : Oper) : Prop := (∃ u, ∀ W, (execOp ρ o).run P W = .ok (.value u) W) ∨ Halts P (execOp ρ o)
def ReadAt (P : Program) (ρ : Operand → Value) (o : Oper) : Prop := ∀ W, (∃ u, (execOp ρ o).run P W = .ok (.value u) W) ∨ (∃ h W', (execOp ρ o).run P W = .halt h W')
section
variable {P : Program}
theorem freeAt_of {ρ : Operand → Value} {o : Oper} {s : Sem Value} (he : execOp ρ o = (do pure (.value (← s)))) (h : Wless P s) : FreeAt P ρ o := by
  unfold FreeAt Halts
  rw [he]
  rcases h with ⟨v, hv⟩ | h
  · exact .inl ⟨v, fun W => by simp [hv W, Result.andThen]⟩
  · exact .inr (Halts.bind_left h)
theorem readAt_of {ρ : Operand → Value} {o : Oper} {s : Sem Value} (he : execOp ρ o = (do pure (.value (← s)))) (h : Quiet P s) : ReadAt P ρ o := by
  unfold ReadAt
  rw [he]
  intro W
  rcases h W with ⟨v, hv⟩ | ⟨x, W', hx⟩
  · exact .inl ⟨v, by simp [hv, Result.andThen]⟩
  · exact .inr ⟨x, W', by simp [hx, Result.andThen]⟩
theorem wless_convert_int (src dst : TypeId) (k k' : IntKind) (x : Value) (hs : P.underlying src = some (.int k')) (hd : P.underlying dst = some (.int k)) (hx : (∃ j n, x = .int j n) ∨ (∃ a n c, x = .slice a n c) ∨ (∃ t, x = .tuple t)) : Wless P (convert src dst x) := by
  unfold convert
  refine wless_underlying_bind _ _ fun d hs' => wless_underlying_bind _ _ fun d' hd' => ?_
  rw [hs] at hs'
  rw [hd] at hd'
  injection hs' with hs'
  injection hd' with hd'
  subst hs'
  subst hd'
  rcases hx with ⟨j, n, rfl⟩ | ⟨a, n, c, rfl⟩ | ⟨t, rfl⟩
  · exact .pure_ _
  · exact (halts_unsupported _).wless
  · exact (halts_unsupported _).wless
theorem plainInt_spec {v : Value} (h : plainInt v = true) : ∃ k n, v = .int k n := by
  unfold plainInt at h
  split at h
  · exact ⟨_, _, rfl⟩
  · cases h
theorem plainNone_spec {v : Value} (h : plainNone v = true) : ∃ t, v = .tuple t := by
  unfold plainNone at h
  split at h
  · exact ⟨_, rfl⟩
  · cases h
theorem free_ok {ρ : Operand → Value} {o : Oper} (h : freeOp P o = true) (hp : plainOp o ρ = true) : FreeAt P ρ o := by
  obtain ⟨dst, op, type, pos, after, guard⟩ := o
  unfold freeOp at h
  unfold plainOp at hp
  cases op <;> dsimp only at h hp
  case move x => exact .inl ⟨ρ x, fun _ => rfl⟩
  case assign x => exact .inl ⟨ρ x, fun _ => rfl⟩
  case pick c a b => exact freeAt_of (s := do pure (if ← asBool (ρ c) then ρ a else ρ b)) (by simp [execOp]) ((wless_asBool _).bind fun _ => .pure_ _)
  case field t x f => exact freeAt_of rfl (wless_field _ _ _)
  case index t x i => exact freeAt_of rfl (wless_index _ _ _)
  case indexAddr t x i => exact freeAt_of rfl (wless_indexAt _ _ _)
  case slice t x l hi m => exact freeAt_of rfl (wless_sliceAt _ _ _ _ _)
  case extract t i => exact freeAt_of rfl (wless_extract _ _)
  case makeInterface t x => exact freeAt_of rfl (wless_makeInterface _ _)
  case makeFunc fn a b => exact freeAt_of rfl (.pure_ _)
  case unOp op t x => exact freeAt_of rfl (wless_unary _ _)
  case build t ps => exact freeAt_of rfl (wless_build _ _)
  case nilCheck x =>
    unfold plainPtr at hp
    split at hp
    · rename_i a hx
      cases a with
      | none => exact .inr (by simp only [execOp, hx]; exact halts_runtimePanic _)
      | some a => exact .inl ⟨.pointer (some a), fun W => by simp [execOp, hx]⟩
    · rename_i t hx
      exact .inl ⟨.tuple t, fun W => by simp [execOp, hx]⟩
    · cases hp
  case binOp op t x y t' =>
    refine freeAt_of rfl (Wless.bind (wless_eqGuard _ _ _ _ _ _ ?_) fun _ => wless_binOp _ _ _ _ hp)
    rintro c d ⟨h1, h2⟩
    rw [h1, h2] at hp
    cases op <;> simp [plain2] at hp
  case fieldAddr s x f =>
    refine freeAt_of rfl (wless_fieldAt _ _ _ fun fs fd hs hf => ?_)
    rw [hs] at h
    simp only [hf] at h
    simpa using h
  case convert src dst x =>
    split at h
    · rename_i k' k h1 h2
      refine freeAt_of rfl (wless_convert_int _ _ k k' _ h1 h2 ?_)
      unfold plainConv at hp
      split at hp <;> simp_all
    · cases h
  case call c =>
    obtain ⟨callee, args, ats⟩ := c
    unfold freeCall at h
    unfold plainCall at hp
    dsimp only at h hp
    obtain ⟨args⟩ := args
    split at h
    · match args, h with
      | [x], _ =>
        have hx : plainLen (ρ x) = true := by simpa using hp
        refine freeAt_of (s := Builtin.len_ ats type #[ρ x]) (by simp [execOp, resolve, invoke, builtin]) ?_
        unfold plainLen at hx
        unfold Builtin.len_
        split
        · rename_i t' x' heq
          have hx' : x' = ρ x := by simp at heq; exact heq.2.symm
          subst hx'
          refine (wless_underlying _).bind fun d => ?_
          split <;> first | exact .pure_ _ | (exfalso; simp_all; done) | exact (halts_stuck _).wless | (refine (wless_underlying _).bind fun _ => ?_; split <;> first | exact .pure_ _ | exact (halts_stuck _).wless)
        · exact (halts_stuck _).wless
    · match args, h with
      | [x, y], _ =>
        refine freeAt_of (s := Builtin.min_ ats type #[ρ x, ρ y]) (by simp [execOp, resolve, invoke, builtin]) ?_
        simp only [Builtin.min_, List.foldlM_cons, List.foldlM_nil]
        refine Wless.bind ?_ fun _ => .pure_ _
        simp only [List.all_cons, List.all_nil, Bool.and_true, Bool.or_eq_true, Bool.and_eq_true] at hp
        rcases hp with ⟨h1, h2⟩ | ⟨h1, h2⟩
        · obtain ⟨k1, n1, e1⟩ := plainInt_spec h1
          obtain ⟨k2, n2, e2⟩ := plainInt_spec h2
          rw [e1, e2]
          exact .pure_ _
        · obtain ⟨t1, e1⟩ := plainNone_spec h1
          obtain ⟨t2, e2⟩ := plainNone_spec h2
          rw [e1, e2]
          exact (halts_stuck _).wless
    · match args, h with
      | [x, y], _ =>
        refine freeAt_of (s := Builtin.max_ ats type #[ρ x, ρ y]) (by simp [execOp, resolve, invoke, builtin]) ?_
        simp only [Builtin.max_, List.foldlM_cons, List.foldlM_nil]
        refine Wless.bind ?_ fun _ => .pure_ _
        simp only [List.all_cons, List.all_nil, Bool.and_true, Bool.or_eq_true, Bool.and_eq_true] at hp
        rcases hp with ⟨h1, h2⟩ | ⟨h1, h2⟩
        · obtain ⟨k1, n1, e1⟩ := plainInt_spec h1
          obtain ⟨k2, n2, e2⟩ := plainInt_spec h2
          rw [e1, e2]
          exact .pure_ _
        · obtain ⟨t1, e1⟩ := plainNone_spec h1
          obtain ⟨t2, e2⟩ := plainNone_spec h2
          rw [e1, e2]
          exact (halts_stuck _).wless
    · cases h
  all_goals cases h
theorem read_ok {ρ : Operand → Value} {o : Oper} (h : readOp P o = true) : ReadAt P ρ o := by
  obtain ⟨dst, op, type, pos, after, guard⟩ := o
  unfold readOp at h
  cases op <;> dsimp only at h
  case load t x => exact readAt_of rfl (quiet_loadAt _ _)
  case convert src dst x =>
    split at h
    · rename_i e h1 h2
      split at h
      · rename_i h3
        exact readAt_of rfl (quiet_convert_string _ _ e _ h1 h3 h2)
      · cases h
    · cases h
  all_goals cases h
end
end Go.Tum

/- A region that draws its order may be walked in the order of the text: the theorem, and the check that it asks of the region. -/
namespace Go.Tum
/-- No way out but by the end. -/
def Calm (Q : Exit → Act → World → Prop) : Prop := (∀ c a w, ¬ Q (.panic c) a w) ∧ (∀ a w, ¬ Q .outgrown a w)

section
variable {P : Program} {ops : Array Oper} {Q : Exit → Act → World → Prop}

theorem Calm.lets (h : Calm Q) : ¬ LetsOut Q := fun ⟨a, w, hq⟩ => h.2 a w hq

/-- What an operation that comes to its end leaves: a value in its temporary, perhaps a deferred call. -/
theorem wp_exists {o : Oper} {a : Act} {w : World} {K : Act → World → Prop} (hQ : Calm Q) (h : o.wp P a w K Q) :
    ∃ (ds : List Deferred) (v : Value) (w' : World), K (({ a with defers := ds ++ a.defers } : Act).put o.dst v) w' := by
  unfold Oper.wp at h
  generalize (execOp a.eval o).run P w = r at h
  cases r with
  | ok n w' =>
    cases n <;> simp only [Oper.upon] at h
    case value v => exact ⟨[], v, w', h⟩
    case skip => exact ⟨[], undef, w', h⟩
    case defer d => exact ⟨[d], undef, w', h⟩
    case enter f args =>
      obtain ⟨e, w'', fr, hR, _⟩ := h []
      cases e with
      | returned v => exact ⟨[], v, w'', hR⟩
      | panicked c => exact absurd hR (hQ.1 _ _ _)
      | outgrown => exact absurd hR hQ.lets
    case row row args =>
      obtain ⟨v, w'', hR, _⟩ := h default []
      exact ⟨[], v, w'', hR⟩
  | halt x w' =>
    cases x <;> simp only [Oper.upon] at h
    case panic v => exact absurd h (hQ.1 _ _ _)

theorem wpOp_exists {i : Nat} {o : Oper} {a : Act} {w : World} {K : Act → World → Prop} (hi : ops[i]? = some o) (hQ : Calm Q) (h : wpOp P ops Q i K a w) :
    ∃ (ds : List Deferred) (v : Value) (w' : World), K (({ a with defers := ds ++ a.defers } : Act).put o.dst v) w' := by
  unfold wpOp at h
  simp only [hi] at h
  split at h
  · rcases h with h | ⟨_, h⟩
    · exact wp_exists hQ h
    · exact absurd h hQ.lets
  · exact ⟨[], undef, w, h⟩

/-- Operation i has no part in what o looks at. -/
def farFrom (ops : Array Oper) (o : Oper) (i : Nat) : Bool :=
  match (ops[i]?).bind (·.dst) with
  | some d => !(o.looksAt ops).contains d
  | none => true
theorem eval_far {o oi : Oper} {i : Nat} (hi : ops[i]? = some oi) (h : farFrom ops o i = true) (a : Act) (ds : List Deferred) (v : Value) :
    ∀ x ∈ o.op.operands, (({ a with defers := ds } : Act).put oi.dst v).eval x = a.eval x := by
  intro x hx
  have h1 : ({ a with defers := ds } : Act).eval x = a.eval x := by cases x <;> rfl
  rw [← h1]
  refine Act.eval_put fun d hd hxd => ?_
  subst hxd
  simp only [farFrom, hi, Option.bind_some, hd] at h
  have : d ∈ o.looksAt ops := List.mem_append_left _ (List.mem_filterMap.2 ⟨.tmp d, by simpa using hx, rfl⟩)
  simp [this] at h

theorem all_congr' {α : Type} {p q : α → Bool} : ∀ l : List α, (∀ x ∈ l, p x = q x) → l.all p = l.all q
  | [], _ => rfl
  | x :: l, h => by
    rw [List.all_cons, List.all_cons, h x (List.mem_cons_self ..), all_congr' l fun y hy => h y (List.mem_cons_of_mem _ hy)]
theorem plain_congr {o : Oper} {ρ ρ' : Operand → Value} (h : ∀ x ∈ o.op.operands, ρ' x = ρ x) : plainOp o ρ' = plainOp o ρ := by
  obtain ⟨dst, op, type, pos, after, guard⟩ := o
  cases op <;> simp only [plainOp] <;> simp only [Op.operands] at h
  case binOp op t x y t' => rw [h x (by simp), h y (by simp)]
  case nilCheck x => rw [h x (by simp)]
  case convert s d x => rw [h x (by simp)]
  case call c =>
    obtain ⟨callee, args, ats⟩ := c
    simp only [plainCall]
    have ha : ∀ x ∈ args.toList, ρ' x = ρ x := fun x hx => h x (by simp [Call.operands]; exact .inr (by simpa using hx))
    split
    · exact all_congr' _ fun x hx => by rw [ha x hx]
    · rw [all_congr' _ fun x hx => (by rw [ha x hx] : plainInt (ρ' x) = plainInt (ρ x)), all_congr' _ fun x hx => (by rw [ha x hx] : plainNone (ρ' x) = plainNone (ρ x))]
    · rw [all_congr' _ fun x hx => (by rw [ha x hx] : plainInt (ρ' x) = plainInt (ρ x)), all_congr' _ fun x hx => (by rw [ha x hx] : plainNone (ρ' x) = plainNone (ρ x))]
    · rfl

/-- Operations of which something is asked. -/
def needs (o : Oper) : Bool :=
  match o.op with
  | .binOp _ _ _ _ _ | .nilCheck _ | .convert _ _ _ | .call _ => true
  | _ => false
theorem plain_of_not {o : Oper} {ρ : Operand → Value} (h : needs o = false) : plainOp o ρ = true := by
  obtain ⟨dst, op, type, pos, after, guard⟩ := o
  cases op <;> simp_all [needs, plainOp]
/-- At the end every operation's operands look as they must. -/
def chk (ops : Array Oper) (a : Act) : Bool := ops.toList.all fun o => plainOp o a.eval
def Chk (ops : Array Oper) (Q : Exit → Act → World → Prop) : Exit → Act → World → Prop := fun e a w => (e = .normal → chk ops a = true) ∧ Q e a w
theorem Chk.calm (h : Calm Q) : Calm (Chk ops Q) := ⟨fun c a w hq => h.1 c a w hq.2, fun a w hq => h.2 a w hq.2⟩

/-- What the rest of the walk does not write is at the end as it is now. -/
theorem plain_now (hQ : Calm Q) {o : Oper} {io : Nat} (ho : ops[io]? = some o) : ∀ (l : List Nat) (a : Act) (w : World), (∀ i ∈ l, farFrom ops o i = true) →
    wpOps P ops (Chk ops Q) l a w → plainOp o a.eval = true
  | [], a, w, _, h => by
    have h1 : chk ops a = true := h.1 rfl
    exact List.all_eq_true.1 h1 o (by simpa using Array.mem_of_getElem? ho)
  | i :: l, a, w, hf, h => by
    rw [wpOps_cons] at h
    cases hi : ops[i]? with
    | none =>
      unfold wpOp at h
      simp only [hi] at h
      exact plain_now hQ ho l a w (fun j hj => hf j (List.mem_cons_of_mem _ hj)) h
    | some oi =>
      obtain ⟨ds, v, w', h'⟩ := wpOp_exists hi (Chk.calm hQ) h
      have h2 := plain_now hQ ho l _ w' (fun j hj => hf j (List.mem_cons_of_mem _ hj)) h'
      rw [plain_congr (eval_far hi (hf i (List.mem_cons_self ..)) a _ v)] at h2
      exact h2

/-- In this state the operation would run so. -/
theorem yields_of_free {o : Oper} {i : Nat} {a : Act} {w : World} {K : Act → World → Prop} (hi : ops[i]? = some o) (hQ : Calm Q) (hf : FreeAt P a.eval o) (h : wpOp P ops Q i K a w) :
    ∃ u, Yields P ops o u a ∧ K (a.put o.dst u) w := by
  unfold wpOp at h
  simp only [hi] at h
  split at h
  · rename_i hw
    rcases h with h | ⟨_, h⟩
    · rcases hf with ⟨u, hu⟩ | hf
      · refine ⟨u, .inl ⟨hw, hu⟩, ?_⟩
        unfold Oper.wp at h
        rw [hu w] at h
        exact h
      · obtain ⟨x, W', hx⟩ := hf w
        unfold Oper.wp at h
        rw [hx] at h
        cases x <;> simp only [Oper.upon] at h
        exact absurd h (hQ.1 _ _ _)
    · exact absurd h hQ.lets
  · rename_i hw
    exact ⟨undef, .inr ⟨by simpa using hw, rfl⟩, h⟩
theorem yields_of_read {o : Oper} {i : Nat} {a : Act} {w : World} {K : Act → World → Prop} (hi : ops[i]? = some o) (hQ : Calm Q) (hf : ReadAt P a.eval o) (h : wpOp P ops Q i K a w) :
    ∃ u, ((Region.wanted o (yielded ops a.tmps) = true ∧ (execOp a.eval o).run P w = .ok (.value u) w) ∨ (Region.wanted o (yielded ops a.tmps) = false ∧ u = undef)) ∧ K (a.put o.dst u) w := by
  unfold wpOp at h
  simp only [hi] at h
  split at h
  · rename_i hw
    rcases h with h | ⟨_, h⟩
    · rcases hf w with ⟨u, hu⟩ | ⟨x, W', hx⟩
      · refine ⟨u, .inl ⟨hw, hu⟩, ?_⟩
        unfold Oper.wp at h
        rw [hu] at h
        exact h
      · unfold Oper.wp at h
        rw [hx] at h
        cases x <;> simp only [Oper.upon] at h
        exact absurd h (hQ.1 _ _ _)
    · exact absurd h hQ.lets
  · rename_i hw
    exact ⟨undef, .inr ⟨by simpa using hw, rfl⟩, h⟩
theorem wpOp_of_read {o : Oper} {i : Nat} {a : Act} {w : World} {K : Act → World → Prop} {u : Value} (hi : ops[i]? = some o)
    (h : (Region.wanted o (yielded ops a.tmps) = true ∧ (execOp a.eval o).run P w = .ok (.value u) w) ∨ (Region.wanted o (yielded ops a.tmps) = false ∧ u = undef)) (hk : K (a.put o.dst u) w) : wpOp P ops Q i K a w := by
  unfold wpOp
  simp only [hi]
  rcases h with ⟨hw, hr⟩ | ⟨hw, rfl⟩
  · simp only [hw, if_true, Oper.wp, hr, Oper.upon]; exact .inl hk
  · simp only [hw, Bool.false_eq_true, if_false]; exact hk

/-- x carried out where y's value is already in its temporary, out of x and then y. -/
theorem wpOp_under {i j : Nat} {x y : Oper} {u : Value} (hi : ops[i]? = some x) (hj : ops[j]? = some y) (hap : x.apart ops y = true) (hsi : ∀ cs b, x.op ≠ .select cs b) (hsj : ∀ cs b, y.op ≠ .select cs b)
    {K : Act → World → Prop} {a : Act} {w : World} (hQ : Calm Q) (hy : Yields P ops y u a) (h : wpOp P ops Q i (wpOp P ops Q j K) a w) : wpOp P ops Q i K (a.put y.dst u) w := by
  obtain ⟨h1, h2, h3⟩ := Oper.apart_spec hap
  have h2' : ∀ d, y.dst = some d → x.dst ≠ some d := fun d hd hx => h2 d hx hd
  have keep : ∀ (a : Act), Yields P ops y u a → ∀ v, Yields P ops y u (a.put x.dst v) := fun a hy v =>
    hy.of_same (execOp_put y hsj a x.dst v h1) (wanted_put y a x.dst v h1)
  have keepD : ∀ d, Yields P ops y u { a with defers := d :: a.defers } := fun d => hy.of_same rfl rfl
  have next : ∀ (a' : Act) (w' : World), Yields P ops y u a' → wpOp P ops Q j K a' w' → K (a'.put y.dst u) w' := fun a' w' hy' h' => by
    unfold wpOp at h'
    simp only [hj] at h'
    rcases hy' with ⟨hw, hr⟩ | ⟨hw, rfl⟩
    · simp only [hw, if_true] at h'
      rcases h' with h' | ⟨_, h'⟩
      · unfold Oper.wp at h'; rw [hr w'] at h'; exact h'
      · exact absurd h' hQ.lets
    · simp only [hw, Bool.false_eq_true, if_false] at h'
      exact h'
  unfold wpOp at h ⊢
  simp only [hi] at h ⊢
  rw [wanted_put x a y.dst u h3]
  split
  · rename_i hw
    simp only [hw, if_true] at h
    rcases h with h | ⟨_, h⟩
    case inr => exact absurd h hQ.lets
    refine .inl ?_
    unfold Oper.wp at *
    rw [execOp_put x hsi a y.dst u h3]
    generalize (execOp a.eval x).run P w = r at *
    cases r with
    | ok n w' =>
      cases n <;> simp only [Oper.upon] at h ⊢
      case value v => rw [Act.put_comm a u v h2']; exact next _ _ (keep a hy v) h
      case skip => rw [Act.put_comm a u undef h2']; exact next _ _ (keep a hy _) h
      case defer d =>
        rw [Act.put_defers, Act.put_comm _ u undef h2']
        exact next _ _ (keep _ (keepD d) _) h
      case enter f args =>
        refine Calls.mono h fun e w'' he => ?_
        cases e with
        | returned v => simp only at he ⊢; rw [Act.put_comm a u v h2']; exact next _ _ (keep a hy v) he
        | panicked c => exact absurd he (hQ.1 _ _ _)
        | outgrown => exact he
      case row row args => exact Rows.mono h fun v w'' he => by rw [Act.put_comm a u v h2']; exact next _ _ (keep a hy v) he
    | halt x' w' =>
      cases x' <;> simp only [Oper.upon] at h ⊢
      case panic v => exact absurd h (hQ.1 _ _ _)
  · rename_i hw
    simp only [hw] at h
    simp only [Bool.false_eq_true, if_false] at h
    rw [Act.put_comm a u undef h2']
    exact next _ _ (keep a hy _) h

/-- May i and j (i before j in the text) change places? -/
def swapB (P : Program) (ops : Array Oper) (i j : Nat) : Bool :=
  match ops[i]?, ops[j]? with
  | some x, some y => x.apart ops y && (freeOp P x || freeOp P y || (readOp P x && readOp P y))
  | _, _ => false

/-- The two first change places. -/
theorem swap_two (hQ : Calm Q) (hs : Region.noSelect ops = true) {i j : Nat} {l : List Nat} (hsw : swapB P ops i j = true)
    (hfi : ∀ x, ops[i]? = some x → needs x = true → farFrom ops x i = true ∧ ∀ k ∈ l, farFrom ops x k = true) (hfj : ∀ y, ops[j]? = some y → needs y = true → farFrom ops y j = true ∧ ∀ k ∈ l, farFrom ops y k = true)
    {a : Act} {w : World} (h : wpOps P ops (Chk ops Q) (i :: j :: l) a w) : wpOps P ops (Chk ops Q) (j :: i :: l) a w := by
  have hC := Chk.calm (ops := ops) hQ
  unfold swapB at hsw
  split at hsw
  · rename_i x y hi hj
    simp only [Bool.and_eq_true, Bool.or_eq_true] at hsw
    obtain ⟨hap, hk⟩ := hsw
    have hsx := Region.noSelect_spec hs i x
    have hsy := Region.noSelect_spec hs j y
    obtain ⟨h1, h2, h3⟩ := Oper.apart_spec hap
    have fj : farFrom ops x j = true := by
      unfold farFrom
      rw [hj]
      simp only [Option.bind_some]
      split
      · rename_i d hd; simpa using h3 d hd
      · rfl
    have fi : farFrom ops y i = true := by
      unfold farFrom
      rw [hi]
      simp only [Option.bind_some]
      split
      · rename_i d hd; simpa using h1 d hd
      · rfl
    have px : plainOp x a.eval = true := by
      cases hn : needs x with
      | false => exact plain_of_not hn
      | true =>
        exact plain_now hQ hi _ a w (fun k hk => by
          rcases List.mem_cons.1 hk with rfl | hk
          · exact (hfi x hi hn).1
          · rcases List.mem_cons.1 hk with rfl | hk
            · exact fj
            · exact (hfi x hi hn).2 k hk) h
    have py : plainOp y a.eval = true := by
      cases hn : needs y with
      | false => exact plain_of_not hn
      | true =>
        exact plain_now hQ hj _ a w (fun k hk => by
          rcases List.mem_cons.1 hk with rfl | hk
          · exact fi
          · rcases List.mem_cons.1 hk with rfl | hk
            · exact (hfj y hj hn).1
            · exact (hfj y hj hn).2 k hk) h
    rw [wpOps_cons] at h
    rw [wpOps_cons]
    rw [show wpOps P ops (Chk ops Q) (j :: l) = wpOp P ops (Chk ops Q) j (wpOps P ops (Chk ops Q) l) from funext fun a => funext fun w => wpOps_cons j l a w] at h
    rw [show wpOps P ops (Chk ops Q) (i :: l) = wpOp P ops (Chk ops Q) i (wpOps P ops (Chk ops Q) l) from funext fun a => funext fun w => wpOps_cons i l a w]
    rcases hk with (hk | hk) | hk
    · obtain ⟨u, hy, h'⟩ := yields_of_free hi hC (free_ok hk px) h
      have h4 := wpOp_put hj hap (fun cs b => hsx cs b hi) (fun cs b => hsy cs b hj) (fun c a w hq => absurd hq (hC.1 _ _ _)) hy h'
      exact wpOp_mono (fun a' w' h5 => h5.1.wpOp hi h5.2) h4
    · have hy : ∃ u, Yields P ops y u a := by
        obtain ⟨ds, v, w', h'⟩ := wpOp_exists hi hC h
        have he : execOp (({ a with defers := ds ++ a.defers } : Act).put x.dst v).eval y = execOp a.eval y :=
          (execOp_put y (fun cs b => hsy cs b hj) _ x.dst v h1).trans (execOp_congr y (fun cs b => hsy cs b hj) fun o _ => by cases o <;> rfl)
        have hw : Region.wanted y (yielded ops (({ a with defers := ds ++ a.defers } : Act).put x.dst v).tmps) = Region.wanted y (yielded ops a.tmps) := wanted_put y _ x.dst v h1
        have hf := free_ok hk py
        obtain ⟨u, hu, _⟩ := yields_of_free hj hC (by unfold FreeAt at *; rw [he]; exact hf) h'
        exact ⟨u, hu.of_same he.symm hw.symm⟩
      obtain ⟨u, hy⟩ := hy
      exact hy.wpOp hj (wpOp_under hi hj hap (fun cs b => hsx cs b hi) (fun cs b => hsy cs b hj) hC hy h)
    · obtain ⟨u, hu, h'⟩ := yields_of_read hi hC (read_ok hk.1) h
      obtain ⟨v, hv, h''⟩ := yields_of_read hj hC (read_ok hk.2) h'
      rw [execOp_put y (fun cs b => hsy cs b hj) a x.dst u h1, wanted_put y a x.dst u h1] at hv
      refine wpOp_of_read hj hv (wpOp_of_read (u := u) hi ?_ ?_)
      · rw [execOp_put x (fun cs b => hsx cs b hi) a y.dst v h3, wanted_put x a y.dst v h3]
        exact hu
      · rw [← Act.put_comm a u v h2]
        exact h''
  · cases hsw

theorem wpOps_mono {l l' : List Nat} (h : ∀ a w, wpOps P ops Q l a w → wpOps P ops Q l' a w) (i : Nat) (a : Act) (w : World) (hh : wpOps P ops Q (i :: l) a w) : wpOps P ops Q (i :: l') a w := by
  rw [wpOps_cons] at hh ⊢
  exact wpOp_mono h hh

theorem far_of_swap {i j : Nat} (h : swapB P ops i j = true) : ∀ y, ops[j]? = some y → farFrom ops y i = true := by
  intro y hj
  unfold swapB at h
  rw [hj] at h
  cases hi : ops[i]? with
  | none => rw [hi] at h; cases h
  | some x =>
    rw [hi] at h
    simp only [Bool.and_eq_true] at h
    obtain ⟨h1, _, _⟩ := Oper.apart_spec h.1
    unfold farFrom
    rw [hi]
    simp only [Option.bind_some]
    split
    · rename_i d hd; simpa using h1 d hd
    · rfl

/-- j comes to the front. -/
theorem move_front (hQ : Calm Q) (hs : Region.noSelect ops = true) {j : Nat} {B : List Nat}
    (hG : ∀ i k, i ≤ k → k < ops.size → ∀ x, ops[i]? = some x → needs x = true → farFrom ops x k = true) (hjn : j < ops.size) (hB : ∀ k ∈ B, j < k ∧ k < ops.size) :
    ∀ (A : List Nat), (∀ i ∈ A, i < j ∧ swapB P ops i j = true) → A.Pairwise (· < ·) → ∀ (a : Act) (w : World), wpOps P ops (Chk ops Q) (A ++ j :: B) a w → wpOps P ops (Chk ops Q) (j :: (A ++ B)) a w
  | [], _, _, a, w, h => h
  | i :: A, hA, hp, a, w, h => by
    have hp' := List.pairwise_cons.1 hp
    have h1 : wpOps P ops (Chk ops Q) (i :: j :: (A ++ B)) a w :=
      wpOps_mono (move_front hQ hs hG hjn hB A (fun k hk => hA k (List.mem_cons_of_mem _ hk)) hp'.2) i a w h
    have hi := hA i (List.mem_cons_self ..)
    refine swap_two hQ hs hi.2 (fun x hx hn => ⟨hG i i (Nat.le_refl _) (by omega) x hx hn, fun k hk => ?_⟩) (fun y hy hn => ⟨hG j j (Nat.le_refl _) hjn y hy hn, fun k hk => ?_⟩) h1
    · rcases List.mem_append.1 hk with hk | hk
      · have := hp'.1 k hk
        have := (hA k (List.mem_cons_of_mem _ hk)).1
        exact hG i k (by omega) (by omega) x hx hn
      · have := hB k hk
        exact hG i k (by omega) this.2 x hx hn
    · rcases List.mem_append.1 hk with hk | hk
      · exact far_of_swap (hA k (List.mem_cons_of_mem _ hk)).2 y hy
      · have := hB k hk
        exact hG j k (by omega) this.2 y hy hn

/-! ### Which have not come up yet -/
def unl (ops : Array Oper) (listed : Array Bool) : List Nat := (List.range ops.size).filter fun i => !listed.getD i true
theorem mem_unl {listed : Array Bool} {i : Nat} : i ∈ unl ops listed ↔ i < ops.size ∧ listed.getD i true = false := by
  unfold unl
  rw [List.mem_filter, List.mem_range]
  simp
theorem unl_sorted (listed : Array Bool) : (unl ops listed).Pairwise (· < ·) := List.Pairwise.filter _ List.pairwise_lt_range
theorem getD_replicate_false' (m j : Nat) : (Array.replicate m false).getD j false = false := by
  rcases Nat.lt_or_ge j m with h | h
  · simp [h]
  · simp [h]
theorem getD_set_self {listed : Array Bool} (j : Nat) : (listed.setIfInBounds j true).getD j true = true := by
  rcases Nat.lt_or_ge j listed.size with h | h
  · simp [h]
  · simp [h]
theorem unl_set (listed : Array Bool) (j : Nat) : unl ops (listed.setIfInBounds j true) = (unl ops listed).filter fun i => i != j := by
  unfold unl
  rw [List.filter_filter]
  refine List.filter_congr fun i _ => ?_
  by_cases h : i = j
  · subst h
    rw [getD_set_self]
    simp
  · rw [getD_set_ne true (Ne.symm h)]
    simp [h]

def depB (ops : Array Oper) : Nat → Nat → Nat → Bool
  | 0, _, _ => false
  | f + 1, j, i => match ops[j]? with
    | some oj => oj.after.any fun e => Region.binds .any e && (e.on == i || depB ops f e.on i)
    | none => false
def Closed (ops : Array Oper) (listed : Array Bool) : Prop := ∀ (j : Nat) (oj : Oper), ops[j]? = some oj → listed.getD j false = true → ∀ e ∈ oj.after, Region.binds .any e = true → listed.getD e.on false = true
theorem dep_listed {listed : Array Bool} (hc : Closed ops listed) {i : Nat} : ∀ (f j : Nat), (∀ oj, ops[j]? = some oj → ∀ e ∈ oj.after, Region.binds .any e = true → listed.getD e.on false = true) → depB ops f j i = true → listed.getD i false = true
  | 0, _, _, h => by cases h
  | f + 1, j, hj, h => by
    unfold depB at h
    split at h
    · rename_i oj ho
      obtain ⟨e, he, hb⟩ := Array.any_eq_true'.1 h
      simp only [Bool.and_eq_true, Bool.or_eq_true, beq_iff_eq] at hb
      have hl := hj oj ho e he hb.1
      rcases hb.2 with h1 | h1
      · rw [← h1]; exact hl
      · exact dep_listed hc f e.on (fun ok hk e' he' hb' => hc e.on ok hk hl e' he' hb') h1
    · cases h

/-- THE CHECK of a region's look. -/
def porOk (P : Program) (ops : Array Oper) : Bool :=
  Region.noSelect ops && (List.range ops.size).all fun j => (match ops[j]? with
    | some o => o.after.all (fun e => !Region.binds .any e || decide (e.on < j)) && (!needs o || (List.range (ops.size - j)).all fun d => farFrom ops o (j + d))
    | none => true) && (List.range j).all fun i => swapB P ops i j || depB ops 12 j i

theorem por_any (hQ : Calm Q) (hs : Region.noSelect ops = true)
    (hE : ∀ j o, ops[j]? = some o → ∀ e ∈ o.after, Region.binds .any e = true → e.on < j)
    (hG : ∀ i k, i ≤ k → k < ops.size → ∀ x, ops[i]? = some x → needs x = true → farFrom ops x k = true)
    (hS : ∀ i j, i < j → j < ops.size → swapB P ops i j = true ∨ depB ops 12 j i = true) :
    ∀ (fuel : Nat) (listed : Array Bool) (a : Act) (w : World), listed.size = ops.size → Closed ops listed → (unl ops listed).length ≤ fuel → wpOps P ops (Chk ops Q) (unl ops listed) a w → wpAny P .any ops Q fuel listed a w := by
  have hmin : ∀ (listed : Array Bool), listed.size = ops.size → Region.ready .any ops listed = [] → unl ops listed = [] := by
    intro listed hsz hr
    cases hu : unl ops listed with
    | nil => rfl
    | cons m l =>
      exfalso
      have hm : m ∈ unl ops listed := by rw [hu]; exact List.mem_cons_self ..
      obtain ⟨hmn, hml⟩ := mem_unl.1 hm
      have hsort := unl_sorted (ops := ops) listed
      rw [hu] at hsort
      have hall := (List.pairwise_cons.1 hsort).1
      have : m ∈ Region.ready .any ops listed := by
        rw [mem_ready]
        refine ⟨hml, ops[m], Array.getElem?_eq_getElem hmn, fun e he hb => ?_⟩
        have hlt := hE m _ (Array.getElem?_eq_getElem hmn) e he hb
        cases hx : listed.getD e.on false with
        | true => rfl
        | false =>
          exfalso
          have hin : e.on < listed.size := by omega
          have hx' : listed.getD e.on true = false := by simp [hin] at hx ⊢; exact hx
          have hmem : e.on ∈ unl ops listed := mem_unl.2 ⟨by omega, hx'⟩
          rw [hu] at hmem
          rcases List.mem_cons.1 hmem with h1 | h1
          · omega
          · have := hall _ h1
            omega
      rw [hr] at this
      cases this
  intro fuel
  induction fuel with
  | zero =>
    intro listed a w hsz hc hl h
    have hu : unl ops listed = [] := List.eq_nil_of_length_eq_zero (by omega)
    rw [hu] at h
    refine ⟨?_, h.2⟩
    cases hr : Region.ready .any ops listed with
    | nil => rfl
    | cons m l =>
      exfalso
      have hm : m ∈ Region.ready .any ops listed := by rw [hr]; exact List.mem_cons_self ..
      obtain ⟨h1, o, ho, _⟩ := mem_ready.1 hm
      have : m ∈ unl ops listed := mem_unl.2 ⟨(Array.getElem?_eq_some_iff.1 ho).1, h1⟩
      rw [hu] at this
      cases this
  | succ fuel ih =>
    intro listed a w hsz hc hl h
    refine ⟨fun hr => ?_, fun j hj => ?_⟩
    · rw [hmin listed hsz hr] at h
      exact h.2
    · obtain ⟨hju, oj, hoj, hall⟩ := mem_ready.1 hj
      have hjn : j < ops.size := (Array.getElem?_eq_some_iff.1 hoj).1
      have hjm : j ∈ unl ops listed := mem_unl.2 ⟨hjn, hju⟩
      obtain ⟨A, B, hAB⟩ := List.append_of_mem hjm
      have hsort := unl_sorted (ops := ops) listed
      rw [hAB] at hsort
      obtain ⟨hpA, hpB, hAjB⟩ := List.pairwise_append.1 hsort
      have hpB' := List.pairwise_cons.1 hpB
      have hAlt : ∀ i ∈ A, i < j := fun i hi => hAjB i hi j (List.mem_cons_self ..)
      have hmemA : ∀ i ∈ A, i ∈ unl ops listed := fun i hi => by rw [hAB]; exact List.mem_append_left _ hi
      have hmemB : ∀ k ∈ B, k ∈ unl ops listed := fun k hk => by rw [hAB]; exact List.mem_append_right _ (List.mem_cons_of_mem _ hk)
      have hset : unl ops (listed.setIfInBounds j true) = A ++ B := by
        rw [unl_set, hAB, List.filter_append, List.filter_cons]
        have e1 : A.filter (fun i => i != j) = A := List.filter_eq_self.2 fun i hi => by have := hAlt i hi; simp; omega
        have e2 : B.filter (fun i => i != j) = B := List.filter_eq_self.2 fun k hk => by have := hpB'.1 k hk; simp; omega
        rw [e1, e2]
        simp
      rw [hAB] at h
      have h1 := move_front hQ hs hG hjn (fun k hk => ⟨hpB'.1 k hk, (mem_unl.1 (hmemB k hk)).1⟩) A (fun i hi => ⟨hAlt i hi, by
        rcases hS i j (hAlt i hi) hjn with h2 | h2
        · exact h2
        · exfalso
          have h3 := dep_listed hc 12 j (fun o ho e he hb => by
            have : o = oj := Option.some.inj (ho.symm.trans hoj)
            subst this
            exact hall e he hb) h2
          have h4 := (mem_unl.1 (hmemA i hi)).2
          have h5 := (mem_unl.1 (hmemA i hi)).1
          rw [← hsz] at h5
          simp [h5] at h3 h4
          rw [h3] at h4
          cases h4⟩) hpA a w h
      rw [wpOps_cons] at h1
      have hclosed : Closed ops (listed.setIfInBounds j true) := by
        intro k ok hk hl e he hb
        by_cases hjk : j = k
        · subst hjk
          have : ok = oj := Option.some.inj (hk.symm.trans hoj)
          subst this
          exact getD_set_true (hall e he hb)
        · rw [getD_set_ne false hjk] at hl
          exact getD_set_true (hc k ok hk hl e he hb)
      have hlen : (unl ops (listed.setIfInBounds j true)).length ≤ fuel := by
        rw [hset]
        rw [hAB] at hl
        simp only [List.length_append, List.length_cons] at hl ⊢
        omega
      have h2 : wpOp P ops Q j (wpOps P ops (Chk ops Q) (A ++ B)) a w := by
        unfold wpOp at h1 ⊢
        rw [hoj] at h1 ⊢
        simp only at h1 ⊢
        split
        · rename_i hw
          rw [if_pos hw] at h1
          rcases h1 with h1 | ⟨_, h1⟩
          · refine .inl ?_
            unfold Oper.wp at h1 ⊢
            generalize (execOp a.eval oj).run P w = r at h1 ⊢
            cases r with
            | ok n w' =>
              cases n <;> simp only [Oper.upon] at h1 ⊢ <;> first
                | exact h1
                | exact Calls.mono h1 fun e w'' he => by
                    cases e with
                    | returned v => exact he
                    | panicked c => exact he.2
                    | outgrown => obtain ⟨a0, w0, hq⟩ := he; exact ⟨a0, w0, hq.2⟩
            | halt x w' =>
              cases x <;> simp only [Oper.upon] at h1 ⊢
              exact h1.2
          · exact absurd h1 (Chk.calm hQ).lets
        · rename_i hw
          rw [if_neg hw] at h1
          exact h1
      refine wpOp_mono (fun a' w' h3 => ih (listed.setIfInBounds j true) a' w' (by simpa using hsz) hclosed hlen (by rw [hset]; exact h3)) h2

/-- **A region that draws its order, walked in the order of the text.** -/
theorem any_por {l : List Oper} {a : Act} {w : World} (hok : porOk P l.toArray = true) (hQ : Calm Q)
    (h : wpList P l.toArray (Chk l.toArray Q) l a w.drew) : wpAny P .any l.toArray Q l.toArray.size (Array.replicate l.toArray.size false) a w.drew := by
  unfold porOk at hok
  simp only [Bool.and_eq_true, List.all_eq_true, List.mem_range] at hok
  obtain ⟨hs, hall⟩ := hok
  refine por_any hQ hs (fun j o ho e he hb => ?_) (fun i k hik hk x hx hn => ?_) (fun i j hij hj => ?_) _ _ a _ (by simp) ?_ ?_ ?_
  · have hjn : j < l.toArray.size := (Array.getElem?_eq_some_iff.1 ho).1
    have h1 := (hall j hjn).1
    rw [ho] at h1
    simp only [Bool.and_eq_true] at h1
    have h2 := (Array.all_eq_true_iff_forall_mem.1 h1.1) e he
    simpa [hb] using h2
  · have hin : i < l.toArray.size := (Array.getElem?_eq_some_iff.1 hx).1
    have h1 := (hall i hin).1
    rw [hx] at h1
    simp only [Bool.and_eq_true, hn, Bool.not_true, Bool.false_or, List.all_eq_true, List.mem_range] at h1
    have h2 := h1.2 (k - i) (by omega)
    rwa [show i + (k - i) = k by omega] at h2
  · have h1 := (hall j hj).2 i hij
    simpa using h1
  · intro j oj hj hl
    rw [getD_replicate_false'] at hl
    cases hl
  · refine Nat.le_trans (List.length_filter_le _ _) (by simp)
  · have hu : unl l.toArray (Array.replicate l.toArray.size false) = List.range l.toArray.size := List.filter_eq_self.2 fun i hi => by
      have := List.mem_range.1 hi
      simp at this
      simp [this]
    rw [hu, List.range_eq_range', List.size_toArray, wpOps_eq_wpList l 0 (by simp)]
    exact h
theorem wp_region_por {id : Nat} {l : List Oper} {a : Act} {w : World} (hm : P.follows .mixedOrders = true) (hok : porOk P l.toArray = true) (hQ : Calm Q)
    (h : wpList P l.toArray (Chk l.toArray Q) l a w.drew) : (Code.region id l.toArray true).wp P Q a w := wp_region_any hm (any_por hok hQ h)
theorem calm_ret {fn : Func} {Φ : Value → World → Prop} : Calm (bodyPost P fn (Ret Φ)) := ⟨fun _ _ _ h => h.2, fun _ _ h => h⟩
theorem calm_then {K : Act → World → Prop} (h : Calm Q) : Calm (Exit.then K Q) := ⟨fun c a w hq => h.1 c a w hq, fun a w hq => h.2 a w hq⟩
theorem calm_in {id : Nat} (h : Calm Q) : Calm (Exit.inBlock id Q) := ⟨fun c a w hq => h.1 c a w hq, fun a w hq => h.2 a w hq⟩
theorem calm_noGoto (h : Calm Q) : Calm (Exit.noGoto Q) := ⟨fun c a w hq => h.1 c a w hq, fun a w hq => h.2 a w hq⟩
theorem calm_chk {os : Array Oper} (h : Calm Q) : Calm (Chk os Q) := Chk.calm h
theorem chk_end {os : Array Oper} {a : Act} {w : World} (h : chk os a = true) (k : Q .normal a w) : Chk os Q .normal a w := ⟨fun _ => h, k⟩
end
end Go.Tum

/- A region that draws its order, with calls that loads may cross: walked in the order of the text, where each such call leaves the blocks that those loads read. -/
namespace Go.Tum
/-- The blocks of B hold the same in both, and no view. -/
def Keep (B : Nat → Prop) (w w' : World) : Prop := ∀ b, B b → ∃ o, (∀ x y, o ≠ Obj.view x y) ∧ w.heap[b]? = some o ∧ w'.heap[b]? = some o
theorem Keep.of {B S : Nat → Prop} {w w' : World} (hm : Mods S w w') (hB : ∀ b, B b → ¬ S b ∧ ∃ t cs, Cells w b t cs) : Keep B w w' := fun b hb => by
  obtain ⟨h1, t, cs, hc⟩ := hB b hb
  exact ⟨_, (fun _ _ e => by cases e), hc, hc.mods hm h1⟩
/-- What reads block b alone. -/
def Loc (P : Program) (b : Nat) {α : Type} (s : Sem α) : Prop := ∀ o, (∀ x y, o ≠ Obj.view x y) → ∀ W1 W2 : World, W1.heap[b]? = some o → W2.heap[b]? = some o →
  (∃ v, s.run P W1 = .ok v W1 ∧ s.run P W2 = .ok v W2) ∨ ((∃ h W', s.run P W1 = .halt h W') ∧ ∃ h W', s.run P W2 = .halt h W')
section
variable {P : Program} {α β : Type} {b : Nat}
theorem Wless.loc {s : Sem α} (h : Wless P s) : Loc P b s := fun _ _ W1 W2 _ _ => by
  rcases h with ⟨v, hv⟩ | h
  · exact .inl ⟨v, hv W1, hv W2⟩
  · exact .inr ⟨h W1, h W2⟩
theorem Loc.bind {s : Sem α} {f : α → Sem β} (h : Loc P b s) (k : ∀ v, Loc P b (f v)) : Loc P b (s >>= f) := fun o ho W1 W2 h1 h2 => by
  rcases h o ho W1 W2 h1 h2 with ⟨v, e1, e2⟩ | ⟨⟨x, W', e1⟩, y, W'', e2⟩
  · rcases k v o ho W1 W2 h1 h2 with ⟨u, e3, e4⟩ | ⟨⟨x, W', e3⟩, y, W'', e4⟩
    · exact .inl ⟨u, by simp [e1, Result.andThen, e3], by simp [e2, Result.andThen, e4]⟩
    · exact .inr ⟨⟨x, W', by simp [e1, Result.andThen, e3]⟩, y, W'', by simp [e2, Result.andThen, e4]⟩
  · exact .inr ⟨⟨x, W', by simp [e1, Result.andThen]⟩, y, W'', by simp [e2, Result.andThen]⟩
theorem loc_load (a : Addr) : Loc P a.block (load a) := fun o ho W1 W2 h1 h2 => by
  have hc : W1.cell? a = W2.cell? a := World.cell?_of_block (h1.trans h2.symm)
  unfold load
  simp only [Sem.run]
  rw [← hc]
  cases W1.cell? a with
  | some v => exact .inl ⟨v, rfl, rfl⟩
  | none =>
    have hf : ∀ W : World, W.heap[a.block]? = some o → W.farLoad P a (Mode.plain == .atomic) = .error (W.noCell a "load: no such cell") := fun W hW => by
      unfold World.farLoad
      rw [hW]
      cases o <;> first | rfl | exact absurd rfl (ho _ _)
    simp only
    rw [hf W1 h1, hf W2 h2]
    exact .inr ⟨⟨_, _, rfl⟩, _, _, rfl⟩
theorem loc_loadCellsFrom (a : Addr) : ∀ (n i : Nat) (acc : Array Value), Loc P a.block (loadCellsFrom a i n acc)
  | 0, _, acc => by unfold loadCellsFrom; exact (Wless.pure_ _).loc
  | n + 1, i, acc => by
    unfold loadCellsFrom
    have hb : (a.add i).block = a.block := by cases a; simp only [Addr.add]; repeat (split <;> try rfl)
    have hl := loc_load (P := P) (a.add i)
    rw [hb] at hl
    exact hl.bind fun _ => loc_loadCellsFrom a n _ _
theorem loc_loadVar (t : TypeId) (a : Addr) : Loc P a.block (loadVar t a) := by
  unfold loadVar
  refine (wless_isAgg t).loc.bind fun b => ?_
  split
  · exact (wless_sizeOf t).loc.bind fun _ => (loc_loadCellsFrom a _ _ _).bind fun _ => (Wless.pure_ _).loc
  · exact loc_load a
theorem loc_loadAt (t : TypeId) (x : Value) (h : ∀ a, x = .pointer (some a) → a.block = b) : Loc P b (Instr.loadAt t x) := by
  cases x
  case pointer p =>
    cases p with
    | none => exact (Halts.bind_left (by unfold Instr.sureAddr; exact halts_stuck _)).wless.loc
    | some a =>
      have := h a rfl
      subst this
      have e : Instr.loadAt t (.pointer (some a)) = loadVar t a := rfl
      rw [e]
      exact loc_loadVar t a
  all_goals exact (Halts.bind_left (by unfold Instr.sureAddr; exact halts_stuck _)).wless.loc
end

/-- A load's address, where it is one. -/
def loadAddr (o : Oper) : Option Operand :=
  match o.op with
  | .load _ x => some x
  | _ => none
/-- It lies in B. -/
def goodAddr (B : Nat → Prop) (v : Value) : Prop := ∀ x, v = .pointer (some x) → B x.block
theorem loc_op {P : Program} {B : Nat → Prop} {ρ : Operand → Value} {o : Oper} {x : Operand} (h : loadAddr o = some x) (hg : goodAddr B (ρ x)) : (∃ b, B b ∧ Loc P b (execOp ρ o)) ∨ Halts P (execOp ρ o) := by
  obtain ⟨dst, op, type, pos, after, guard⟩ := o
  cases op <;> simp only [loadAddr] at h <;> first | cases h | skip
  case load.refl t =>
    have e : ∀ b, Loc P b (Instr.loadAt t (ρ x)) → Loc P b (execOp ρ ⟨dst, .load t x, type, pos, after, guard⟩) := fun b hl => hl.bind fun _ => (Wless.pure_ _).loc
    have e2 : Halts P (Instr.loadAt t (ρ x)) → Halts P (execOp ρ ⟨dst, .load t x, type, pos, after, guard⟩) := fun hl => hl.bind_left
    unfold goodAddr at hg
    generalize ρ x = v at hg e e2
    cases v
    case pointer p =>
      cases p with
      | none => exact .inr (e2 (Halts.bind_left (by unfold Instr.sureAddr; exact halts_stuck _)))
      | some a => exact .inl ⟨a.block, hg a rfl, e _ (loc_loadAt t _ fun a' ha => by injection ha with ha; injection ha with ha; rw [ha])⟩
    all_goals exact .inr (e2 (Halts.bind_left (by unfold Instr.sureAddr; exact halts_stuck _)))
/-- What such a load tells in one world it tells in the other. -/
theorem keep_run {P : Program} {B : Nat → Prop} {ρ : Operand → Value} {o : Oper} {x : Operand} (h : loadAddr o = some x) (hg : goodAddr B (ρ x)) {w w' : World} (hk : Keep B w w') (u : Value) :
    (execOp ρ o).run P w = .ok (.value u) w ↔ (execOp ρ o).run P w' = .ok (.value u) w' := by
  rcases loc_op (P := P) h hg with ⟨b, hb, hl⟩ | hh
  · obtain ⟨ob, hv, h1, h2⟩ := hk b hb
    rcases hl ob hv w w' h1 h2 with ⟨v, e1, e2⟩ | ⟨⟨x1, w1, e1⟩, y1, w2, e2⟩
    · rw [e1, e2]
      simp
    · rw [e1, e2]
      simp
  · obtain ⟨x1, w1, e1⟩ := hh w
    obtain ⟨x2, w2, e2⟩ := hh w'
    rw [e1, e2]
    simp

section
variable {P : Program} {ops : Array Oper} {Q : Exit → Act → World → Prop}
/-- x carried out where y's value is already in its temporary: out of x, and what then stands. -/
theorem wpOp_under2 {i : Nat} {x : Oper} {dy : Option Tmp} {u : Value} (hi : ops[i]? = some x) (h2' : ∀ d, dy = some d → x.dst ≠ some d) (hex : ∀ (a : Act), execOp (a.put dy u).eval x = execOp a.eval x) (hwx : ∀ (a : Act), Region.wanted x (yielded ops (a.put dy u).tmps) = Region.wanted x (yielded ops a.tmps))
    (Y : Act → Prop) (keep : ∀ a, Y a → ∀ v, Y (a.put x.dst v)) (keepD : ∀ a, Y a → ∀ d, Y { a with defers := d :: a.defers })
    {G K : Act → World → Prop} (next : ∀ a' w', Y a' → G a' w' → K (a'.put dy u) w')
    {a : Act} {w : World} (hQ : Calm Q) (hy : Y a) (h : wpOp P ops Q i G a w) : wpOp P ops Q i K (a.put dy u) w := by
  unfold wpOp at h ⊢
  simp only [hi] at h ⊢
  rw [hwx a]
  split
  · rename_i hw
    simp only [hw, if_true] at h
    rcases h with h | ⟨_, h⟩
    case inr => exact absurd h hQ.lets
    refine .inl ?_
    unfold Oper.wp at *
    rw [hex a]
    generalize (execOp a.eval x).run P w = r at *
    cases r with
    | ok n w' =>
      cases n <;> simp only [Oper.upon] at h ⊢
      case value v => rw [Act.put_comm a u v h2']; exact next _ _ (keep a hy v) h
      case skip => rw [Act.put_comm a u undef h2']; exact next _ _ (keep a hy _) h
      case defer d =>
        rw [Act.put_defers, Act.put_comm _ u undef h2']
        exact next _ _ (keep _ (keepD _ hy d) _) h
      case enter f args =>
        refine Calls.mono h fun e w'' he => ?_
        cases e with
        | returned v => simp only at he ⊢; rw [Act.put_comm a u v h2']; exact next _ _ (keep a hy v) he
        | panicked c => exact absurd he (hQ.1 _ _ _)
        | outgrown => exact he
      case row row args => exact Rows.mono h fun v w'' he => by rw [Act.put_comm a u v h2']; exact next _ _ (keep a hy v) he
    | halt x' w' =>
      cases x' <;> simp only [Oper.upon] at h ⊢
      case panic v => exact absurd h (hQ.1 _ _ _)
  · rename_i hw
    simp only [hw] at h
    simp only [Bool.false_eq_true, if_false] at h
    rw [Act.put_comm a u undef h2']
    exact next _ _ (keep a hy _) h
/-- The other way: x out of where y's value is already in its temporary. -/
theorem wpOp_put2 {j : Nat} {oj : Oper} {dx : Option Tmp} {u : Value} (hj : ops[j]? = some oj) (h2 : ∀ d, oj.dst = some d → dx ≠ some d) (hex : ∀ (a : Act), execOp (a.put dx u).eval oj = execOp a.eval oj) (hwx : ∀ (a : Act), Region.wanted oj (yielded ops (a.put dx u).tmps) = Region.wanted oj (yielded ops a.tmps))
    (Y : Act → Prop) (keep : ∀ a, Y a → ∀ v, Y (a.put oj.dst v)) (keepD : ∀ a, Y a → ∀ d, Y { a with defers := d :: a.defers })
    {K : Act → World → Prop} {a : Act} {w : World} (hQ : Calm Q) (hy : Y a) (h : wpOp P ops Q j K (a.put dx u) w) : wpOp P ops Q j (fun a' w' => Y a' ∧ K (a'.put dx u) w') a w := by
  have h2' : ∀ d, dx = some d → oj.dst ≠ some d := fun d hd he => h2 d he hd
  unfold wpOp at h ⊢
  simp only [hj] at h ⊢
  rw [hwx a] at h
  split
  · rename_i hw
    simp only [hw, if_true] at h
    rcases h with h | ⟨_, h⟩
    case inr => exact absurd h hQ.lets
    refine .inl ?_
    unfold Oper.wp at *
    rw [hex a] at h
    generalize (execOp a.eval oj).run P w = r at *
    cases r with
    | ok n w' =>
      cases n <;> simp only [Oper.upon] at h ⊢
      case value v => exact ⟨keep a hy v, by rw [← Act.put_comm a u v h2']; exact h⟩
      case skip => exact ⟨keep a hy _, by rw [← Act.put_comm a u undef h2']; exact h⟩
      case defer d =>
        refine ⟨keep _ (keepD _ hy d) _, ?_⟩
        rw [← Act.put_comm _ u undef h2', ← Act.put_defers]
        exact h
      case enter f args =>
        refine Calls.mono h fun e w'' he => ?_
        cases e with
        | returned v => exact ⟨keep a hy v, by rw [← Act.put_comm a u v h2']; exact he⟩
        | panicked c => exact absurd he (hQ.1 _ _ _)
        | outgrown => exact he
      case row row args => exact Rows.mono h fun v w'' he => ⟨keep a hy v, by rw [← Act.put_comm a u v h2']; exact he⟩
    | halt x' w' =>
      cases x' <;> simp only [Oper.upon] at h ⊢
      case panic v => exact absurd h (hQ.1 _ _ _)
  · rename_i hw
    simp only [hw] at h
    simp only [Bool.false_eq_true, if_false] at h
    exact ⟨keep a hy _, by rw [← Act.put_comm a u undef h2']; exact h⟩

/-! ### The walk that tells what the calls leave -/
def Jst (B : Nat → Prop) (cs : List Nat) (i : Nat) (w w' : World) : Prop := i ∈ cs → Keep B w w'
def wpJ (P : Program) (ops : Array Oper) (Q : Exit → Act → World → Prop) (B : Nat → Prop) (cs : List Nat) : List Nat → Act → World → Prop
  | [], a, w => Q .normal a w
  | i :: l, a, w => wpOp P ops Q i (fun a' w' => Jst B cs i w w' ∧ wpJ P ops Q B cs l a' w') a w
def ChkM (B : Nat → Prop) (ms : List Nat) (ops : Array Oper) (Q : Exit → Act → World → Prop) : Exit → Act → World → Prop :=
  fun e a w => (e = .normal → chk ops a = true ∧ ∀ m ∈ ms, ∀ o x, ops[m]? = some o → loadAddr o = some x → goodAddr B (a.eval x)) ∧ Q e a w
variable {B : Nat → Prop} {ms cs : List Nat}
theorem ChkM.calm (h : Calm Q) : Calm (ChkM B ms ops Q) := ⟨fun c a w hq => h.1 c a w hq.2, fun a w hq => h.2 a w hq.2⟩
theorem loadAddr_mem {o : Oper} {x : Operand} (h : loadAddr o = some x) : x ∈ o.op.operands := by
  obtain ⟨dst, op, type, pos, after, guard⟩ := o
  cases op <;> simp only [loadAddr] at h <;> first | cases h | skip
  simp [Op.operands]
theorem now_J (hQ : Calm Q) {o : Oper} {io : Nat} (ho : ops[io]? = some o) : ∀ (l : List Nat) (a : Act) (w : World), (∀ i ∈ l, farFrom ops o i = true) →
    wpJ P ops (ChkM B ms ops Q) B cs l a w → plainOp o a.eval = true ∧ (io ∈ ms → ∀ x, loadAddr o = some x → goodAddr B (a.eval x))
  | [], a, w, _, h => by
    obtain ⟨h1, h2⟩ := h.1 rfl
    exact ⟨List.all_eq_true.1 h1 o (by simpa using Array.mem_of_getElem? ho), fun hm x hx => h2 io hm o x ho hx⟩
  | i :: l, a, w, hf, h => by
    unfold wpJ at h
    cases hi : ops[i]? with
    | none =>
      unfold wpOp at h
      simp only [hi] at h
      exact now_J hQ ho l a w (fun j hj => hf j (List.mem_cons_of_mem _ hj)) h.2
    | some oi =>
      obtain ⟨ds, v, w', h'⟩ := wpOp_exists hi (ChkM.calm hQ) h
      have h2 := now_J hQ ho l _ w' (fun j hj => hf j (List.mem_cons_of_mem _ hj)) h'.2
      have he := eval_far hi (hf i (List.mem_cons_self ..)) a (ds ++ a.defers) v
      refine ⟨?_, fun hm x hx => ?_⟩
      · have h3 := h2.1
        rw [plain_congr he] at h3
        exact h3
      · have h3 := h2.2 hm x hx
        rw [he x (loadAddr_mem hx)] at h3
        exact h3
/-- May i and j (i before j in the text) change places? -/
def swapM (P : Program) (ms cs : List Nat) (ops : Array Oper) (i j : Nat) : Bool :=
  match ops[i]?, ops[j]? with
  | some x, some y => x.apart ops y && (freeOp P x || freeOp P y || (readOp P x && readOp P y) || (cs.contains i && ms.contains j && (loadAddr y).isSome) || (ms.contains i && cs.contains j && (loadAddr x).isSome))
  | _, _ => false
def csOk (P : Program) (cs : List Nat) (ops : Array Oper) : Bool := cs.all fun c => match ops[c]? with
  | some o => !freeOp P o && !readOp P o
  | none => true
theorem csOk_not {i : Nat} {o : Oper} (h : csOk P cs ops = true) (hi : ops[i]? = some o) (hf : freeOp P o = true ∨ readOp P o = true) : i ∉ cs := fun hm => by
  have := List.all_eq_true.1 h i hm
  rw [hi] at this
  rcases hf with hf | hf <;> simp [hf] at this
theorem readOp_load {o : Oper} (h : (loadAddr o).isSome = true) : readOp P o = true := by
  obtain ⟨dst, op, type, pos, after, guard⟩ := o
  cases op <;> simp_all [loadAddr, readOp]
theorem swap_twoM (hQ : Calm Q) (hs : Region.noSelect ops = true) (hcs : csOk P cs ops = true) {i j : Nat} {l : List Nat} (hsw : swapM P ms cs ops i j = true)
    (hfi : ∀ x, ops[i]? = some x → (needs x = true ∨ i ∈ ms) → farFrom ops x i = true ∧ ∀ k ∈ l, farFrom ops x k = true) (hfj : ∀ y, ops[j]? = some y → (needs y = true ∨ j ∈ ms) → farFrom ops y j = true ∧ ∀ k ∈ l, farFrom ops y k = true)
    {a : Act} {w : World} (h : wpJ P ops (ChkM B ms ops Q) B cs (i :: j :: l) a w) : wpJ P ops (ChkM B ms ops Q) B cs (j :: i :: l) a w := by
  have hC := ChkM.calm (B := B) (ms := ms) (ops := ops) hQ
  unfold swapM at hsw
  split at hsw
  · rename_i x y hi hj
    simp only [Bool.and_eq_true, Bool.or_eq_true] at hsw
    obtain ⟨hap, hk⟩ := hsw
    have hsx := Region.noSelect_spec hs i x
    have hsy := Region.noSelect_spec hs j y
    obtain ⟨h1, h2, h3⟩ := Oper.apart_spec hap
    have fj : farFrom ops x j = true := by
      unfold farFrom
      rw [hj]
      simp only [Option.bind_some]
      split
      · rename_i d hd; simpa using h3 d hd
      · rfl
    have fi : farFrom ops y i = true := by
      unfold farFrom
      rw [hi]
      simp only [Option.bind_some]
      split
      · rename_i d hd; simpa using h1 d hd
      · rfl
    have nx : (needs x = true ∨ i ∈ ms) → plainOp x a.eval = true ∧ (i ∈ ms → ∀ z, loadAddr x = some z → goodAddr B (a.eval z)) := fun hn =>
      now_J hQ hi _ a w (fun k hk => by
        rcases List.mem_cons.1 hk with rfl | hk
        · exact (hfi x hi hn).1
        · rcases List.mem_cons.1 hk with rfl | hk
          · exact fj
          · exact (hfi x hi hn).2 k hk) h
    have ny : (needs y = true ∨ j ∈ ms) → plainOp y a.eval = true ∧ (j ∈ ms → ∀ z, loadAddr y = some z → goodAddr B (a.eval z)) := fun hn =>
      now_J hQ hj _ a w (fun k hk => by
        rcases List.mem_cons.1 hk with rfl | hk
        · exact fi
        · rcases List.mem_cons.1 hk with rfl | hk
          · exact (hfj y hj hn).1
          · exact (hfj y hj hn).2 k hk) h
    have px : plainOp x a.eval = true := by
      cases hn : needs x with
      | false => exact plain_of_not hn
      | true => exact (nx (.inl hn)).1
    have py : plainOp y a.eval = true := by
      cases hn : needs y with
      | false => exact plain_of_not hn
      | true => exact (ny (.inl hn)).1
    simp only [wpJ] at h ⊢
    have ey : ∀ (a : Act) (v : Value), execOp (a.put x.dst v).eval y = execOp a.eval y := fun a v => execOp_put y (fun cs b => hsy cs b hj) a x.dst v h1
    have wy : ∀ (a : Act) (v : Value), Region.wanted y (yielded ops (a.put x.dst v).tmps) = Region.wanted y (yielded ops a.tmps) := fun a v => wanted_put y a x.dst v h1
    have ex : ∀ (a : Act) (v : Value), execOp (a.put y.dst v).eval x = execOp a.eval x := fun a v => execOp_put x (fun cs b => hsx cs b hi) a y.dst v h3
    have wx : ∀ (a : Act) (v : Value), Region.wanted x (yielded ops (a.put y.dst v).tmps) = Region.wanted x (yielded ops a.tmps) := fun a v => wanted_put x a y.dst v h3
    have h2' : ∀ d, y.dst = some d → x.dst ≠ some d := fun d hd hx => h2 d hx hd
    have eD : ∀ (a : Act) (ds : List Deferred) (o : Oper), (∀ cs b, o.op ≠ .select cs b) → execOp ({ a with defers := ds } : Act).eval o = execOp a.eval o := fun a ds o ho => execOp_congr o ho fun z _ => by cases z <;> rfl
    rcases hk with (((hk | hk) | hk) | hk) | hk
    · have hic := csOk_not hcs hi (.inl hk)
      obtain ⟨u, hy, _, h'⟩ := yields_of_free hi hC (free_ok hk px) h
      have h4 := wpOp_put hj hap (fun cs b => hsx cs b hi) (fun cs b => hsy cs b hj) (fun c a w hq => absurd hq (hC.1 _ _ _)) hy h'
      exact wpOp_mono (fun a' w' h5 => ⟨h5.2.1, h5.1.wpOp hi ⟨fun e => absurd e hic, h5.2.2⟩⟩) h4
    · have hjc := csOk_not hcs hj (.inl hk)
      have hy : ∃ u, Yields P ops y u a := by
        obtain ⟨ds, v, w', _, h'⟩ := wpOp_exists hi hC h
        have he : execOp (({ a with defers := ds ++ a.defers } : Act).put x.dst v).eval y = execOp a.eval y := (ey _ v).trans (eD a _ y fun cs b => hsy cs b hj)
        have hw : Region.wanted y (yielded ops (({ a with defers := ds ++ a.defers } : Act).put x.dst v).tmps) = Region.wanted y (yielded ops a.tmps) := wy _ v
        have hf := free_ok hk py
        obtain ⟨u, hu, _⟩ := yields_of_free hj hC (by unfold FreeAt at *; rw [he]; exact hf) h'
        exact ⟨u, hu.of_same he.symm hw.symm⟩
      obtain ⟨u, hy⟩ := hy
      refine hy.wpOp hj ⟨fun e => absurd e hjc, wpOp_under2 hi h2' (fun a => ex a u) (fun a => wx a u) (Yields P ops y u) (fun a hy v => hy.of_same (ey a v) (wy a v)) (fun a hy d => hy.of_same rfl rfl) (fun a' w' hy' h' => ?_) hC hy h⟩
      obtain ⟨h5, h'⟩ := h'
      refine ⟨h5, ?_⟩
      unfold wpOp at h'
      simp only [hj] at h'
      rcases hy' with ⟨hw, hr⟩ | ⟨hw, rfl⟩
      · simp only [hw, if_true] at h'
        rcases h' with h' | ⟨_, h'⟩
        · unfold Oper.wp at h'; rw [hr w'] at h'; exact h'.2
        · exact absurd h' hC.lets
      · simp only [hw, Bool.false_eq_true, if_false] at h'
        exact h'.2
    · have hic := csOk_not hcs hi (.inr hk.1)
      have hjc := csOk_not hcs hj (.inr hk.2)
      obtain ⟨u, hu, _, h'⟩ := yields_of_read hi hC (read_ok hk.1) h
      obtain ⟨v, hv, _, h''⟩ := yields_of_read hj hC (read_ok hk.2) h'
      rw [ey a u, wy a u] at hv
      refine wpOp_of_read hj hv ⟨fun e => absurd e hjc, wpOp_of_read (u := u) hi ?_ ⟨fun e => absurd e hic, ?_⟩⟩
      · rw [ex a v, wx a v]
        exact hu
      · rw [← Act.put_comm a u v h2]
        exact h''
    · -- a call, then a load
      obtain ⟨⟨hic, hjm⟩, hld⟩ := hk
      have hic : i ∈ cs := by simpa using hic
      have hjm : j ∈ ms := by simpa using hjm
      have hjc := csOk_not hcs hj (.inr (readOp_load hld))
      obtain ⟨z, hz⟩ := Option.isSome_iff_exists.1 hld
      have hgood := (ny (.inr hjm)).2 hjm z hz
      have hy : ∃ u, ((Region.wanted y (yielded ops a.tmps) = true ∧ (execOp a.eval y).run P w = .ok (.value u) w) ∨ (Region.wanted y (yielded ops a.tmps) = false ∧ u = undef)) := by
        obtain ⟨ds, v, w', hJ, h'⟩ := wpOp_exists hi hC h
        have he : execOp (({ a with defers := ds ++ a.defers } : Act).put x.dst v).eval y = execOp a.eval y := (ey _ v).trans (eD a _ y fun cs b => hsy cs b hj)
        have hw : Region.wanted y (yielded ops (({ a with defers := ds ++ a.defers } : Act).put x.dst v).tmps) = Region.wanted y (yielded ops a.tmps) := wy _ v
        obtain ⟨u, hu, _⟩ := yields_of_read hj hC (read_ok (readOp_load hld)) h'
        rw [he, hw] at hu
        refine ⟨u, ?_⟩
        rcases hu with ⟨q1, q2⟩ | q
        · exact .inl ⟨q1, (keep_run hz hgood (hJ hic) u).2 q2⟩
        · exact .inr q
      obtain ⟨u, hy⟩ := hy
      refine wpOp_of_read hj hy ⟨fun e => absurd e hjc, wpOp_under2 hi h2' (fun a => ex a u) (fun a => wx a u) (fun a' => execOp a'.eval y = execOp a.eval y ∧ Region.wanted y (yielded ops a'.tmps) = Region.wanted y (yielded ops a.tmps))
        (fun a' hy v => ⟨(ey a' v).trans hy.1, (wy a' v).trans hy.2⟩) (fun a' hy d => ⟨(eD a' _ y fun cs b => hsy cs b hj).trans hy.1, hy.2⟩) (fun a' w' hy' h' => ?_) hC ⟨rfl, rfl⟩ h⟩
      obtain ⟨h5, h'⟩ := h'
      refine ⟨h5, ?_⟩
      unfold wpOp at h'
      simp only [hj] at h'
      rw [hy'.2] at h'
      rcases hy with ⟨hw, hr⟩ | ⟨hw, rfl⟩
      · simp only [hw, if_true] at h'
        rcases h' with h' | ⟨_, h'⟩
        · have hr' := (keep_run hz hgood (h5 hic) u).1 hr
          unfold Oper.wp at h'; rw [hy'.1, hr'] at h'; exact h'.2
        · exact absurd h' hC.lets
      · simp only [hw, Bool.false_eq_true, if_false] at h'
        exact h'.2
    · -- a load, then a call
      obtain ⟨⟨him, hjc⟩, hld⟩ := hk
      have him : i ∈ ms := by simpa using him
      have hjc : j ∈ cs := by simpa using hjc
      have hic := csOk_not hcs hi (.inr (readOp_load hld))
      obtain ⟨z, hz⟩ := Option.isSome_iff_exists.1 hld
      have hgood := (nx (.inr him)).2 him z hz
      obtain ⟨u, hu, _, h'⟩ := yields_of_read hi hC (read_ok (readOp_load hld)) h
      have h4 := wpOp_put2 hj h2' (fun a => ey a u) (fun a => wy a u) (fun a' => execOp a'.eval x = execOp a.eval x ∧ Region.wanted x (yielded ops a'.tmps) = Region.wanted x (yielded ops a.tmps))
        (fun a' hy v => ⟨(ex a' v).trans hy.1, (wx a' v).trans hy.2⟩) (fun a' hy d => ⟨(eD a' _ x fun cs b => hsx cs b hi).trans hy.1, hy.2⟩) hC ⟨rfl, rfl⟩ h'
      refine wpOp_mono (fun a' w' h5 => ?_) h4
      obtain ⟨⟨y1, y2⟩, h6, h7⟩ := h5
      refine ⟨h6, wpOp_of_read hi ?_ ⟨fun e => absurd e hic, h7⟩⟩
      rw [y1, y2]
      rcases hu with ⟨q1, q2⟩ | q
      · exact .inl ⟨q1, (keep_run hz hgood (h6 hjc) u).1 q2⟩
      · exact .inr q
  · cases hsw
end
end Go.Tum

/- The theorem on regions with calls that loads may cross. -/
namespace Go.Tum
section
variable {P : Program} {ops : Array Oper} {Q : Exit → Act → World → Prop} {B : Nat → Prop} {ms cs : List Nat}
theorem wpJ_mono {l l' : List Nat} (h : ∀ a w, wpJ P ops Q B cs l a w → wpJ P ops Q B cs l' a w) (i : Nat) (a : Act) (w : World) (hh : wpJ P ops Q B cs (i :: l) a w) : wpJ P ops Q B cs (i :: l') a w :=
  wpOp_mono (fun a' w' h' => ⟨h'.1, h a' w' h'.2⟩) hh
theorem far_of_swapM {i j : Nat} (h : swapM P ms cs ops i j = true) : ∀ y, ops[j]? = some y → farFrom ops y i = true := by
  intro y hj
  unfold swapM at h
  rw [hj] at h
  cases hi : ops[i]? with
  | none => rw [hi] at h; cases h
  | some x =>
    rw [hi] at h
    simp only [Bool.and_eq_true] at h
    obtain ⟨h1, _, _⟩ := Oper.apart_spec h.1
    unfold farFrom
    rw [hi]
    simp only [Option.bind_some]
    split
    · rename_i d hd; simpa using h1 d hd
    · rfl
theorem move_frontM (hQ : Calm Q) (hs : Region.noSelect ops = true) (hcs : csOk P cs ops = true) {j : Nat} {C : List Nat}
    (hG : ∀ i k, i ≤ k → k < ops.size → ∀ x, ops[i]? = some x → (needs x = true ∨ i ∈ ms) → farFrom ops x k = true) (hjn : j < ops.size) (hB : ∀ k ∈ C, j < k ∧ k < ops.size) :
    ∀ (A : List Nat), (∀ i ∈ A, i < j ∧ swapM P ms cs ops i j = true) → A.Pairwise (· < ·) → ∀ (a : Act) (w : World), wpJ P ops (ChkM B ms ops Q) B cs (A ++ j :: C) a w → wpJ P ops (ChkM B ms ops Q) B cs (j :: (A ++ C)) a w
  | [], _, _, a, w, h => h
  | i :: A, hA, hp, a, w, h => by
    have hp' := List.pairwise_cons.1 hp
    have h1 : wpJ P ops (ChkM B ms ops Q) B cs (i :: j :: (A ++ C)) a w :=
      wpJ_mono (move_frontM hQ hs hcs hG hjn hB A (fun k hk => hA k (List.mem_cons_of_mem _ hk)) hp'.2) i a w h
    have hi := hA i (List.mem_cons_self ..)
    refine swap_twoM hQ hs hcs hi.2 (fun x hx hn => ⟨hG i i (Nat.le_refl _) (by omega) x hx hn, fun k hk => ?_⟩) (fun y hy hn => ⟨hG j j (Nat.le_refl _) hjn y hy hn, fun k hk => ?_⟩) h1
    · rcases List.mem_append.1 hk with hk | hk
      · have := hp'.1 k hk
        have := (hA k (List.mem_cons_of_mem _ hk)).1
        exact hG i k (by omega) (by omega) x hx hn
      · have := hB k hk
        exact hG i k (by omega) this.2 x hx hn
    · rcases List.mem_append.1 hk with hk | hk
      · exact far_of_swapM (hA k (List.mem_cons_of_mem _ hk)).2 y hy
      · have := hB k hk
        exact hG j k (by omega) this.2 y hy hn
theorem wpOp_unchk (hQ : Calm Q) {j : Nat} {K : Act → World → Prop} {a : Act} {w : World} (h1 : wpOp P ops (ChkM B ms ops Q) j K a w) : wpOp P ops Q j K a w := by
  unfold wpOp at h1 ⊢
  cases hoj : ops[j]? with
  | none => rw [hoj] at h1; exact h1
  | some oj =>
    rw [hoj] at h1
    simp only at h1 ⊢
    split
    · rename_i hw
      rw [if_pos hw] at h1
      rcases h1 with h1 | ⟨_, h1⟩
      · refine .inl ?_
        unfold Oper.wp at h1 ⊢
        generalize (execOp a.eval oj).run P w = r at h1 ⊢
        cases r with
        | ok n w' =>
          cases n <;> simp only [Oper.upon] at h1 ⊢ <;> first
            | exact h1
            | exact Calls.mono h1 fun e w'' he => by
                cases e with
                | returned v => exact he
                | panicked c => exact he.2
                | outgrown => obtain ⟨a0, w0, hq⟩ := he; exact ⟨a0, w0, hq.2⟩
        | halt x w' =>
          cases x <;> simp only [Oper.upon] at h1 ⊢
          exact h1.2
      · exact absurd h1 (ChkM.calm hQ).lets
    · rename_i hw
      rw [if_neg hw] at h1
      exact h1
/-- THE CHECK of a region's look: cs: the calls that loads may cross; ms: those loads. -/
def porOkM (P : Program) (ms cs : List Nat) (ops : Array Oper) : Bool :=
  Region.noSelect ops && csOk P cs ops && (List.range ops.size).all fun j => (match ops[j]? with
    | some o => o.after.all (fun e => !Region.binds .any e || decide (e.on < j)) && (!(needs o || ms.contains j) || (List.range (ops.size - j)).all fun d => farFrom ops o (j + d))
    | none => true) && (List.range j).all fun i => swapM P ms cs ops i j || depB ops 12 j i
theorem por_anyM (hQ : Calm Q) (hs : Region.noSelect ops = true) (hcs : csOk P cs ops = true)
    (hE : ∀ j o, ops[j]? = some o → ∀ e ∈ o.after, Region.binds .any e = true → e.on < j)
    (hG : ∀ i k, i ≤ k → k < ops.size → ∀ x, ops[i]? = some x → (needs x = true ∨ i ∈ ms) → farFrom ops x k = true)
    (hS : ∀ i j, i < j → j < ops.size → swapM P ms cs ops i j = true ∨ depB ops 12 j i = true) :
    ∀ (fuel : Nat) (listed : Array Bool) (a : Act) (w : World), listed.size = ops.size → Closed ops listed → (unl ops listed).length ≤ fuel → wpJ P ops (ChkM B ms ops Q) B cs (unl ops listed) a w → wpAny P .any ops Q fuel listed a w := by
  have hmin : ∀ (listed : Array Bool), listed.size = ops.size → Region.ready .any ops listed = [] → unl ops listed = [] := by
    intro listed hsz hr
    cases hu : unl ops listed with
    | nil => rfl
    | cons m l =>
      exfalso
      have hm : m ∈ unl ops listed := by rw [hu]; exact List.mem_cons_self ..
      obtain ⟨hmn, hml⟩ := mem_unl.1 hm
      have hsort := unl_sorted (ops := ops) listed
      rw [hu] at hsort
      have hall := (List.pairwise_cons.1 hsort).1
      have : m ∈ Region.ready .any ops listed := by
        rw [mem_ready]
        refine ⟨hml, ops[m], Array.getElem?_eq_getElem hmn, fun e he hb => ?_⟩
        have hlt := hE m _ (Array.getElem?_eq_getElem hmn) e he hb
        cases hx : listed.getD e.on false with
        | true => rfl
        | false =>
          exfalso
          have hin : e.on < listed.size := by omega
          have hx' : listed.getD e.on true = false := by simp [hin] at hx ⊢; exact hx
          have hmem : e.on ∈ unl ops listed := mem_unl.2 ⟨by omega, hx'⟩
          rw [hu] at hmem
          rcases List.mem_cons.1 hmem with h1 | h1
          · omega
          · have := hall _ h1
            omega
      rw [hr] at this
      cases this
  intro fuel
  induction fuel with
  | zero =>
    intro listed a w hsz hc hl h
    have hu : unl ops listed = [] := List.eq_nil_of_length_eq_zero (by omega)
    rw [hu] at h
    refine ⟨?_, h.2⟩
    cases hr : Region.ready .any ops listed with
    | nil => rfl
    | cons m l =>
      exfalso
      have hm : m ∈ Region.ready .any ops listed := by rw [hr]; exact List.mem_cons_self ..
      obtain ⟨h1, o, ho, _⟩ := mem_ready.1 hm
      have : m ∈ unl ops listed := mem_unl.2 ⟨(Array.getElem?_eq_some_iff.1 ho).1, h1⟩
      rw [hu] at this
      cases this
  | succ fuel ih =>
    intro listed a w hsz hc hl h
    refine ⟨fun hr => ?_, fun j hj => ?_⟩
    · rw [hmin listed hsz hr] at h
      exact h.2
    · obtain ⟨hju, oj, hoj, hall⟩ := mem_ready.1 hj
      have hjn : j < ops.size := (Array.getElem?_eq_some_iff.1 hoj).1
      have hjm : j ∈ unl ops listed := mem_unl.2 ⟨hjn, hju⟩
      obtain ⟨A, C, hAB⟩ := List.append_of_mem hjm
      have hsort := unl_sorted (ops := ops) listed
      rw [hAB] at hsort
      obtain ⟨hpA, hpB, hAjB⟩ := List.pairwise_append.1 hsort
      have hpB' := List.pairwise_cons.1 hpB
      have hAlt : ∀ i ∈ A, i < j := fun i hi => hAjB i hi j (List.mem_cons_self ..)
      have hmemA : ∀ i ∈ A, i ∈ unl ops listed := fun i hi => by rw [hAB]; exact List.mem_append_left _ hi
      have hmemB : ∀ k ∈ C, k ∈ unl ops listed := fun k hk => by rw [hAB]; exact List.mem_append_right _ (List.mem_cons_of_mem _ hk)
      have hset : unl ops (listed.setIfInBounds j true) = A ++ C := by
        rw [unl_set, hAB, List.filter_append, List.filter_cons]
        have e1 : A.filter (fun i => i != j) = A := List.filter_eq_self.2 fun i hi => by have := hAlt i hi; simp; omega
        have e2 : C.filter (fun i => i != j) = C := List.filter_eq_self.2 fun k hk => by have := hpB'.1 k hk; simp; omega
        rw [e1, e2]
        simp
      rw [hAB] at h
      have h1 := move_frontM hQ hs hcs hG hjn (fun k hk => ⟨hpB'.1 k hk, (mem_unl.1 (hmemB k hk)).1⟩) A (fun i hi => ⟨hAlt i hi, by
        rcases hS i j (hAlt i hi) hjn with h2 | h2
        · exact h2
        · exfalso
          have h3 := dep_listed hc 12 j (fun o ho e he hb => by
            have : o = oj := Option.some.inj (ho.symm.trans hoj)
            subst this
            exact hall e he hb) h2
          have h4 := (mem_unl.1 (hmemA i hi)).2
          have h5 := (mem_unl.1 (hmemA i hi)).1
          rw [← hsz] at h5
          simp [h5] at h3 h4
          rw [h3] at h4
          cases h4⟩) hpA a w h
      have hclosed : Closed ops (listed.setIfInBounds j true) := by
        intro k ok hk hl e he hb
        by_cases hjk : j = k
        · subst hjk
          have : ok = oj := Option.some.inj (hk.symm.trans hoj)
          subst this
          exact getD_set_true (hall e he hb)
        · rw [getD_set_ne false hjk] at hl
          exact getD_set_true (hc k ok hk hl e he hb)
      have hlen : (unl ops (listed.setIfInBounds j true)).length ≤ fuel := by
        rw [hset]
        rw [hAB] at hl
        simp only [List.length_append, List.length_cons] at hl ⊢
        omega
      exact wpOp_mono (fun a' w' h3 => ih (listed.setIfInBounds j true) a' w' (by simpa using hsz) hclosed hlen (by rw [hset]; exact h3.2)) (wpOp_unchk hQ h1)

/-! ### The walk in pieces -/
/-- Behind the piece so; else as ever. -/
def SegQ (X : Act → World → Prop) (Q : Exit → Act → World → Prop) : Exit → Act → World → Prop := fun e a w => (e = .normal → X a w) ∧ (e ≠ .normal → Q e a w)
theorem segEnd {X : Act → World → Prop} {a : Act} {w : World} (h : X a w) : SegQ X Q .normal a w := ⟨fun _ => h, fun e => absurd rfl e⟩
theorem SegQ.calm {X : Act → World → Prop} (h : Calm Q) : Calm (SegQ X Q) := ⟨fun c a w hq => h.1 c a w (hq.2 (by simp)), fun a w hq => h.2 a w (hq.2 (by simp))⟩
theorem wpOp_seg (hQ : Calm Q) {X : Act → World → Prop} {j : Nat} {K : Act → World → Prop} {a : Act} {w : World} (h1 : wpOp P ops (SegQ X Q) j K a w) : wpOp P ops Q j K a w := by
  unfold wpOp at h1 ⊢
  cases hoj : ops[j]? with
  | none => rw [hoj] at h1; exact h1
  | some oj =>
    rw [hoj] at h1
    simp only at h1 ⊢
    split
    · rename_i hw
      rw [if_pos hw] at h1
      rcases h1 with h1 | ⟨_, h1⟩
      · refine .inl ?_
        unfold Oper.wp at h1 ⊢
        generalize (execOp a.eval oj).run P w = r at h1 ⊢
        cases r with
        | ok n w' =>
          cases n <;> simp only [Oper.upon] at h1 ⊢ <;> first
            | exact h1
            | exact Calls.mono h1 fun e w'' he => by
                cases e with
                | returned v => exact he
                | panicked c => exact he.2 (by simp)
                | outgrown => obtain ⟨a0, w0, hq⟩ := he; exact ⟨a0, w0, hq.2 (by simp)⟩
        | halt x w' =>
          cases x <;> simp only [Oper.upon] at h1 ⊢
          exact h1.2 (by simp)
      · exact absurd h1 (SegQ.calm hQ).lets
    · rename_i hw
      rw [if_neg hw] at h1
      exact h1
/-- A piece without such a call. -/
theorem wpJ_seg (hQ : Calm Q) {r : List Nat} : ∀ (l : List Nat) (a : Act) (w : World), (∀ i ∈ l, i ∉ cs) → wpOps P ops (SegQ (wpJ P ops Q B cs r) Q) l a w → wpJ P ops Q B cs (l ++ r) a w
  | [], a, w, _, h => h.1 rfl
  | i :: l, a, w, hl, h => by
    rw [wpOps_cons] at h
    exact wpOp_mono (fun a' w' h' => ⟨fun e => absurd e (hl i (List.mem_cons_self ..)), wpJ_seg hQ l a' w' (fun k hk => hl k (List.mem_cons_of_mem _ hk)) h'⟩) (wpOp_seg hQ h)
/-- Such a call. -/
theorem wpJ_call (hQ : Calm Q) {r : List Nat} (i : Nat) (a : Act) (w : World) (h : wpOps P ops (SegQ (fun a' w' => Keep B w w' ∧ wpJ P ops Q B cs r a' w') Q) [i] a w) : wpJ P ops Q B cs (i :: r) a w := by
  rw [wpOps_cons] at h
  exact wpOp_mono (fun a' w' h' => by
    have h2 := h'.1 rfl
    exact ⟨fun _ => h2.1, h2.2⟩) (wpOp_seg hQ h)
theorem wpJ_last (hQ : Calm Q) : ∀ (l : List Nat) (a : Act) (w : World), (∀ i ∈ l, i ∉ cs) → wpOps P ops Q l a w → wpJ P ops Q B cs l a w
  | [], a, w, _, h => h
  | i :: l, a, w, hl, h => by
    rw [wpOps_cons] at h
    exact wpOp_mono (fun a' w' h' => ⟨fun e => absurd e (hl i (List.mem_cons_self ..)), wpJ_last hQ l a' w' (fun k hk => hl k (List.mem_cons_of_mem _ hk)) h'⟩) h
end
section
variable {P : Program} {Q : Exit → Act → World → Prop}
/-- **The region out of the walk that tells what the calls leave.** -/
theorem any_J (B : Nat → Prop) (ms cs : List Nat) {l : List Oper} {a : Act} {w : World} (hok : porOkM P ms cs l.toArray = true) (hQ : Calm Q)
    (h : wpJ P l.toArray (ChkM B ms l.toArray Q) B cs (List.range' 0 l.length) a w.drew) : wpAny P .any l.toArray Q l.toArray.size (Array.replicate l.toArray.size false) a w.drew := by
  unfold porOkM at hok
  simp only [Bool.and_eq_true, List.all_eq_true, List.mem_range] at hok
  obtain ⟨⟨hs, hcs⟩, hall⟩ := hok
  refine por_anyM (B := B) (ms := ms) hQ hs hcs (fun j o ho e he hb => ?_) (fun i k hik hk x hx hn => ?_) (fun i j hij hj => ?_) _ _ a _ (by simp) ?_ ?_ ?_
  · have hjn : j < l.toArray.size := (Array.getElem?_eq_some_iff.1 ho).1
    have h1 := (hall j hjn).1
    rw [ho] at h1
    simp only [Bool.and_eq_true] at h1
    have h2 := (Array.all_eq_true_iff_forall_mem.1 h1.1) e he
    simpa [hb] using h2
  · have hin : i < l.toArray.size := (Array.getElem?_eq_some_iff.1 hx).1
    have h1 := (hall i hin).1
    rw [hx] at h1
    have hn' : (needs x || ms.contains i) = true := by
      rcases hn with hn | hn
      · rw [hn]; rfl
      · simp [hn]
    simp only [Bool.and_eq_true, hn', Bool.not_true, Bool.false_or, List.all_eq_true, List.mem_range] at h1
    have h2 := h1.2 (k - i) (by omega)
    rwa [show i + (k - i) = k by omega] at h2
  · have h1 := (hall j hj).2 i hij
    simpa using h1
  · intro j oj hj hl
    rw [getD_replicate_false'] at hl
    cases hl
  · refine Nat.le_trans (List.length_filter_le _ _) (by simp)
  · have hu : unl l.toArray (Array.replicate l.toArray.size false) = List.range l.toArray.size := List.filter_eq_self.2 fun i hi => by
      have := List.mem_range.1 hi
      simp at this
      simp [this]
    rw [hu, List.range_eq_range', List.size_toArray]
    exact h
theorem pieces {ops : Array Oper} (l : List Oper) : ∀ k, (∀ j, j < l.length → l[j]? = ops[k + j]?) → wpOps P ops Q (List.range' k l.length) = wpList P ops Q l := by
  induction l with
  | nil => intro k _; funext a w; simp [wpOps, wpList]
  | cons o l ih =>
    intro k h
    have h0 : ops[k]? = some o := by simpa using (h 0 (by simp)).symm
    have ih' := ih (k + 1) (fun j hj => by have := h (j + 1) (by simp; omega); simpa [Nat.add_assoc, Nat.add_comm 1 j] using this)
    funext a w
    rw [List.length_cons, List.range'_succ, wpOps, wpList, h0]
    simp only [ih']
theorem range_cut (n k : Nat) (h : k ≤ n) : List.range' 0 n = List.range' 0 k ++ List.range' k (n - k) := by
  have := List.range'_append (s := 0) (m := k) (n := n - k) (step := 1)
  simp at this
  rw [this, Nat.add_sub_cancel' h]
theorem piece_take {l : List Oper} {k : Nat} (h : k ≤ l.length) : wpOps P l.toArray Q (List.range' 0 k) = wpList P l.toArray Q (l.take k) := by
  have := pieces (P := P) (Q := Q) (ops := l.toArray) (l.take k) 0 fun j hj => by
    rw [List.length_take] at hj
    rw [List.getElem?_take_of_lt (by omega)]
    simp
  rwa [List.length_take, Nat.min_eq_left h] at this
theorem piece_mid {l : List Oper} (k n : Nat) (h : k + n ≤ l.length) : wpOps P l.toArray Q (List.range' k n) = wpList P l.toArray Q ((l.drop k).take n) := by
  have := pieces (P := P) (Q := Q) (ops := l.toArray) ((l.drop k).take n) k fun j hj => by
    rw [List.length_take, List.length_drop] at hj
    rw [List.getElem?_take_of_lt (by omega), List.getElem?_drop]
    simp
  rwa [List.length_take, List.length_drop, Nat.min_eq_left (by omega)] at this
theorem piece_drop {l : List Oper} (k : Nat) : wpOps P l.toArray Q (List.range' k (l.length - k)) = wpList P l.toArray Q (l.drop k) := by
  have := pieces (P := P) (Q := Q) (ops := l.toArray) (l.drop k) k fun j hj => by
    rw [List.getElem?_drop]
    simp
  rwa [List.length_drop] at this
theorem wpOp_post {ops : Array Oper} {Q' : Exit → Act → World → Prop} (hq : ∀ e a w, Q e a w → Q' e a w) {j : Nat} {K : Act → World → Prop} {a : Act} {w : World} (h1 : wpOp P ops Q j K a w) : wpOp P ops Q' j K a w := by
  have hl : LetsOut Q → LetsOut Q' := fun ⟨a0, w0, h⟩ => ⟨a0, w0, hq _ _ _ h⟩
  unfold wpOp at h1 ⊢
  cases hoj : ops[j]? with
  | none => rw [hoj] at h1; exact h1
  | some oj =>
    rw [hoj] at h1
    simp only at h1 ⊢
    split
    · rename_i hw
      rw [if_pos hw] at h1
      rcases h1 with h1 | ⟨h0, h1⟩
      · refine .inl ?_
        unfold Oper.wp at h1 ⊢
        generalize (execOp a.eval oj).run P w = r at h1 ⊢
        cases r with
        | ok n w' =>
          cases n <;> simp only [Oper.upon] at h1 ⊢ <;> first
            | exact h1
            | exact Calls.mono h1 fun e w'' he => by
                cases e with
                | returned v => exact he
                | panicked c => exact hq _ _ _ he
                | outgrown => exact hl he
        | halt x w' =>
          cases x <;> simp only [Oper.upon] at h1 ⊢
          exact hq _ _ _ h1
      · exact .inr ⟨h0, hl h1⟩
    · rename_i hw
      rw [if_neg hw] at h1
      exact h1
theorem wpOps_post {ops : Array Oper} {Q' : Exit → Act → World → Prop} (hq : ∀ e a w, Q e a w → Q' e a w) : ∀ (l : List Nat) (a : Act) (w : World), wpOps P ops Q l a w → wpOps P ops Q' l a w
  | [], a, w, h => hq _ _ _ h
  | i :: l, a, w, h => by
    rw [wpOps_cons] at h ⊢
    exact wpOp_post hq (wpOp_mono (fun a' w' h' => wpOps_post hq l a' w' h') h)
section
variable {l : List Oper} {B : Nat → Prop} {cs : List Nat} {r : List Nat} {Y : Act → World → Prop} {a : Act} {w : World}
theorem J_call (hQ : Calm Q) (c : Nat) (hc : c < l.length) (hy : ∀ a w, Y a w → wpJ P l.toArray Q B cs r a w) (h : wpList P l.toArray (SegQ (fun a2 w2 => Keep B w w2 ∧ Y a2 w2) Q) ((l.drop c).take 1) a w) : wpJ P l.toArray Q B cs (c :: r) a w := by
  refine wpJ_call hQ c a w ?_
  rw [← piece_mid c 1 (by omega)] at h
  exact wpOps_post (fun e a2 w2 hq => ⟨fun he => ⟨(hq.1 he).1, hy _ _ (hq.1 he).2⟩, hq.2⟩) [c] a w h
theorem J_piece (hQ : Calm Q) (k n : Nat) (hc : k + n ≤ l.length) (hcs : ∀ c ∈ cs, c < k ∨ k + n ≤ c) (hy : ∀ a w, Y a w → wpJ P l.toArray Q B cs r a w) (h : wpList P l.toArray (SegQ Y Q) ((l.drop k).take n) a w) : wpJ P l.toArray Q B cs (List.range' k n ++ r) a w := by
  refine wpJ_seg hQ _ a w (fun i hi hm => by have := List.mem_range'.1 hi; have := hcs i hm; omega) ?_
  rw [← piece_mid k n hc] at h
  exact wpOps_post (fun e a2 w2 hq => ⟨fun he => hy _ _ (hq.1 he), hq.2⟩) _ a w h
theorem J_last (hQ : Calm Q) (k : Nat) (hcs : ∀ c ∈ cs, c < k) (h : wpList P l.toArray Q (l.drop k) a w) : wpJ P l.toArray Q B cs (List.range' k (l.length - k)) a w := by
  rw [← piece_drop k] at h
  exact wpJ_last hQ _ a w (fun i hi hm => by have := List.mem_range'.1 hi; have := hcs i hm; omega) h
end
/-- One such call, operation c. -/
theorem any_one (B : Nat → Prop) (ms : List Nat) (c : Nat) {l : List Oper} {a : Act} {w : World} (hok : porOkM P ms [c] l.toArray = true) (hc : decide (c < l.length) = true) (hQ : Calm Q)
    (h : wpList P l.toArray (SegQ (fun a1 w1 => wpList P l.toArray (SegQ (fun a2 w2 => Keep B w1 w2 ∧ wpList P l.toArray (ChkM B ms l.toArray Q) (l.drop (c + 1)) a2 w2) (ChkM B ms l.toArray Q)) ((l.drop c).take 1) a1 w1) (ChkM B ms l.toArray Q)) ((l.drop 0).take c) a w.drew) :
    wpAny P .any l.toArray Q l.toArray.size (Array.replicate l.toArray.size false) a w.drew := by
  have hc := of_decide_eq_true hc
  refine any_J B ms [c] hok hQ ?_
  have hC := ChkM.calm (B := B) (ms := ms) (ops := l.toArray) hQ
  have e : List.range' 0 l.length = List.range' 0 c ++ c :: List.range' (c + 1) (l.length - (c + 1)) := by
    rw [range_cut l.length c (by omega), show l.length - c = (l.length - (c + 1)) + 1 by omega, List.range'_succ]
  rw [e]
  exact J_piece hC 0 c (by omega) (fun i hi => by simp at hi; omega) (fun a1 w1 h1 => J_call hC c hc (fun a2 w2 h2 => J_last hC (c + 1) (fun i hi => by simp at hi; omega) h2) h1) h
theorem wp_region_one (id : Nat) (B : Nat → Prop) (ms : List Nat) (c : Nat) {l : List Oper} {a : Act} {w : World} (hm : P.follows .mixedOrders = true) (hok : porOkM P ms [c] l.toArray = true) (hc : decide (c < l.length) = true) (hQ : Calm Q)
    (h : wpList P l.toArray (SegQ (fun a1 w1 => wpList P l.toArray (SegQ (fun a2 w2 => Keep B w1 w2 ∧ wpList P l.toArray (ChkM B ms l.toArray Q) (l.drop (c + 1)) a2 w2) (ChkM B ms l.toArray Q)) ((l.drop c).take 1) a1 w1) (ChkM B ms l.toArray Q)) ((l.drop 0).take c) a w.drew) :
    (Code.region id l.toArray true).wp P Q a w := wp_region_any hm (any_one B ms c hok hc hQ h)
/-- Two such calls. -/
theorem any_two (B : Nat → Prop) (ms : List Nat) (c d : Nat) {l : List Oper} {a : Act} {w : World} (hok : porOkM P ms [c, d] l.toArray = true) (hc : decide (c < d ∧ d < l.length) = true) (hQ : Calm Q)
    (h : wpList P l.toArray (SegQ (fun a1 w1 => wpList P l.toArray (SegQ (fun a2 w2 => Keep B w1 w2 ∧
      wpList P l.toArray (SegQ (fun a3 w3 => wpList P l.toArray (SegQ (fun a4 w4 => Keep B w3 w4 ∧ wpList P l.toArray (ChkM B ms l.toArray Q) (l.drop (d + 1)) a4 w4) (ChkM B ms l.toArray Q)) ((l.drop d).take 1) a3 w3) (ChkM B ms l.toArray Q)) ((l.drop (c + 1)).take (d - (c + 1))) a2 w2) (ChkM B ms l.toArray Q))
      ((l.drop c).take 1) a1 w1) (ChkM B ms l.toArray Q)) ((l.drop 0).take c) a w.drew) :
    wpAny P .any l.toArray Q l.toArray.size (Array.replicate l.toArray.size false) a w.drew := by
  obtain ⟨hcd, hd⟩ := of_decide_eq_true hc
  refine any_J B ms [c, d] hok hQ ?_
  have hC := ChkM.calm (B := B) (ms := ms) (ops := l.toArray) hQ
  have e : List.range' 0 l.length = List.range' 0 c ++ c :: (List.range' (c + 1) (d - (c + 1)) ++ d :: List.range' (d + 1) (l.length - (d + 1))) := by
    have e1 : List.range' (c + 1) (d - (c + 1)) ++ List.range' d (l.length - d) = List.range' (c + 1) (l.length - (c + 1)) := by
      have := List.range'_append (s := c + 1) (m := d - (c + 1)) (n := l.length - d) (step := 1)
      rw [Nat.one_mul, show c + 1 + (d - (c + 1)) = d by omega, show d - (c + 1) + (l.length - d) = l.length - (c + 1) by omega] at this
      exact this
    rw [range_cut l.length c (by omega), show l.length - c = (l.length - (c + 1)) + 1 by omega, List.range'_succ, ← e1, show l.length - d = (l.length - (d + 1)) + 1 by omega, List.range'_succ]
  rw [e]
  exact J_piece hC 0 c (by omega) (fun i hi => by simp at hi; omega) (fun a1 w1 h1 => J_call hC c (by omega) (fun a2 w2 h2 =>
    J_piece hC (c + 1) (d - (c + 1)) (by omega) (fun i hi => by simp at hi; omega) (fun a3 w3 h3 => J_call hC d hd (fun a4 w4 h4 => J_last hC (d + 1) (fun i hi => by simp at hi; omega) h4) h3) h2) h1) h
theorem wp_region_two (id : Nat) (B : Nat → Prop) (ms : List Nat) (c d : Nat) {l : List Oper} {a : Act} {w : World} (hm : P.follows .mixedOrders = true) (hok : porOkM P ms [c, d] l.toArray = true) (hc : decide (c < d ∧ d < l.length) = true) (hQ : Calm Q)
    (h : wpList P l.toArray (SegQ (fun a1 w1 => wpList P l.toArray (SegQ (fun a2 w2 => Keep B w1 w2 ∧
      wpList P l.toArray (SegQ (fun a3 w3 => wpList P l.toArray (SegQ (fun a4 w4 => Keep B w3 w4 ∧ wpList P l.toArray (ChkM B ms l.toArray Q) (l.drop (d + 1)) a4 w4) (ChkM B ms l.toArray Q)) ((l.drop d).take 1) a3 w3) (ChkM B ms l.toArray Q)) ((l.drop (c + 1)).take (d - (c + 1))) a2 w2) (ChkM B ms l.toArray Q))
      ((l.drop c).take 1) a1 w1) (ChkM B ms l.toArray Q)) ((l.drop 0).take c) a w.drew) :
    (Code.region id l.toArray true).wp P Q a w := wp_region_any hm (any_two B ms c d hok hc hQ h)
/-- The addresses of those loads, at the end. -/
def markVals (ops : Array Oper) (a : Act) (ms : List Nat) : List Value := ms.filterMap fun m => (ops[m]?.bind loadAddr).map a.eval
theorem chkM_end (B : Nat → Prop) {ms : List Nat} {os : Array Oper} {a : Act} {w : World} (h : chk os a = true) (vs : List Value) (hv : markVals os a ms = vs) (hg : ∀ v ∈ vs, goodAddr B v) (k : Q .normal a w) : ChkM B ms os Q .normal a w :=
  ⟨fun _ => ⟨h, fun m hm o x ho hx => hg _ (by rw [← hv]; exact List.mem_filterMap.2 ⟨m, hm, by simp [ho, hx]⟩)⟩, k⟩
theorem calm_chkM {B : Nat → Prop} {ms : List Nat} {os : Array Oper} (h : Calm Q) : Calm (ChkM B ms os Q) := ChkM.calm h
theorem calm_seg {X : Act → World → Prop} (h : Calm Q) : Calm (SegQ X Q) := SegQ.calm h
theorem Keep.one {S : Nat → Prop} {w w' : World} {a : Nat} {t : TypeId} {cs : Array Value} (hm : Mods S w w') (h : Cells w a t cs) (n : ¬ S a) : Keep (fun g => g = a) w w' :=
  Keep.of hm fun b hb => by subst hb; exact ⟨n, _, _, h⟩
theorem Keep.two {S : Nat → Prop} {w w' : World} {a b : Nat} {t t' : TypeId} {cs cs' : Array Value} (hm : Mods S w w') (h : Cells w a t cs) (n : ¬ S a) (h' : Cells w b t' cs') (n' : ¬ S b) : Keep (fun g => g = a ∨ g = b) w w' :=
  Keep.of hm fun g hg => by
    rcases hg with rfl | rfl
    · exact ⟨n, _, _, h⟩
    · exact ⟨n', _, _, h'⟩
end
end Go.Tum

/- A region that draws its order and holds three calls (or allocs) that its loads may cross. No program here. -/
namespace Go.Tum
section
variable {P : Program} {Q : Exit → Act → World → Prop}
theorem any_three (B : Nat → Prop) (ms : List Nat) (c d f : Nat) {l : List Oper} {a : Act} {w : World} (hok : porOkM P ms [c, d, f] l.toArray = true) (hc : decide (c < d ∧ d < f ∧ f < l.length) = true) (hQ : Calm Q)
    (h : wpList P l.toArray (SegQ (fun a1 w1 => wpList P l.toArray (SegQ (fun a2 w2 => Keep B w1 w2 ∧
      wpList P l.toArray (SegQ (fun a3 w3 => wpList P l.toArray (SegQ (fun a4 w4 => Keep B w3 w4 ∧
        wpList P l.toArray (SegQ (fun a5 w5 => wpList P l.toArray (SegQ (fun a6 w6 => Keep B w5 w6 ∧ wpList P l.toArray (ChkM B ms l.toArray Q) (l.drop (f + 1)) a6 w6) (ChkM B ms l.toArray Q)) ((l.drop f).take 1) a5 w5) (ChkM B ms l.toArray Q)) ((l.drop (d + 1)).take (f - (d + 1))) a4 w4)
        (ChkM B ms l.toArray Q)) ((l.drop d).take 1) a3 w3) (ChkM B ms l.toArray Q)) ((l.drop (c + 1)).take (d - (c + 1))) a2 w2) (ChkM B ms l.toArray Q))
      ((l.drop c).take 1) a1 w1) (ChkM B ms l.toArray Q)) ((l.drop 0).take c) a w.drew) :
    wpAny P .any l.toArray Q l.toArray.size (Array.replicate l.toArray.size false) a w.drew := by
  obtain ⟨hcd, hdf, hf⟩ := of_decide_eq_true hc
  refine any_J B ms [c, d, f] hok hQ ?_
  have hC := ChkM.calm (B := B) (ms := ms) (ops := l.toArray) hQ
  have cut : ∀ x y, x < y → y < l.length → List.range' (x + 1) (l.length - (x + 1)) = List.range' (x + 1) (y - (x + 1)) ++ y :: List.range' (y + 1) (l.length - (y + 1)) := fun x y h1 h2 => by
    have := List.range'_append (s := x + 1) (m := y - (x + 1)) (n := l.length - y) (step := 1)
    rw [Nat.one_mul, show x + 1 + (y - (x + 1)) = y by omega, show y - (x + 1) + (l.length - y) = l.length - (x + 1) by omega] at this
    rw [← this, show l.length - y = (l.length - (y + 1)) + 1 by omega, List.range'_succ]
  have e : List.range' 0 l.length = List.range' 0 c ++ c :: (List.range' (c + 1) (d - (c + 1)) ++ d :: (List.range' (d + 1) (f - (d + 1)) ++ f :: List.range' (f + 1) (l.length - (f + 1)))) := by
    rw [range_cut l.length c (by omega), show l.length - c = (l.length - (c + 1)) + 1 by omega, List.range'_succ, cut c d hcd (by omega), cut d f hdf hf]
  rw [e]
  exact J_piece hC 0 c (by omega) (fun i hi => by simp at hi; omega) (fun a1 w1 h1 => J_call hC c (by omega) (fun a2 w2 h2 =>
    J_piece hC (c + 1) (d - (c + 1)) (by omega) (fun i hi => by simp at hi; omega) (fun a3 w3 h3 => J_call hC d (by omega) (fun a4 w4 h4 =>
      J_piece hC (d + 1) (f - (d + 1)) (by omega) (fun i hi => by simp at hi; omega) (fun a5 w5 h5 => J_call hC f hf (fun a6 w6 h6 => J_last hC (f + 1) (fun i hi => by simp at hi; omega) h6) h5) h4) h3) h2) h1) h
theorem wp_region_three (id : Nat) (B : Nat → Prop) (ms : List Nat) (c d f : Nat) {l : List Oper} {a : Act} {w : World} (hm : P.follows .mixedOrders = true) (hok : porOkM P ms [c, d, f] l.toArray = true) (hc : decide (c < d ∧ d < f ∧ f < l.length) = true) (hQ : Calm Q)
    (h : wpList P l.toArray (SegQ (fun a1 w1 => wpList P l.toArray (SegQ (fun a2 w2 => Keep B w1 w2 ∧
      wpList P l.toArray (SegQ (fun a3 w3 => wpList P l.toArray (SegQ (fun a4 w4 => Keep B w3 w4 ∧
        wpList P l.toArray (SegQ (fun a5 w5 => wpList P l.toArray (SegQ (fun a6 w6 => Keep B w5 w6 ∧ wpList P l.toArray (ChkM B ms l.toArray Q) (l.drop (f + 1)) a6 w6) (ChkM B ms l.toArray Q)) ((l.drop f).take 1) a5 w5) (ChkM B ms l.toArray Q)) ((l.drop (d + 1)).take (f - (d + 1))) a4 w4)
        (ChkM B ms l.toArray Q)) ((l.drop d).take 1) a3 w3) (ChkM B ms l.toArray Q)) ((l.drop (c + 1)).take (d - (c + 1))) a2 w2) (ChkM B ms l.toArray Q))
      ((l.drop c).take 1) a1 w1) (ChkM B ms l.toArray Q)) ((l.drop 0).take c) a w.drew) :
    (Code.region id l.toArray true).wp P Q a w := wp_region_any hm (any_three B ms c d f hok hc hQ h)
end
end Go.Tum
