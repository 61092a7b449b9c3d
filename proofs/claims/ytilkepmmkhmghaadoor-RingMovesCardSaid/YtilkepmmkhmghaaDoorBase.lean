/- What every text of these claims uses: words for memory (which blocks a call may turn), slices that read as lists, structs behind pointers. Plain definitions and theorems over any program. -/
import Derived.WalkKit
import Derived.Maps.AppendAt
import Derived.Deep.Draws
import Derived.Laws.IdiomStrings
import Derived.Lib.Bytes
namespace Go.Tum
open Go.RowKit

/-- The call returns, and so and so. -/
def Ret (Φ : Value → World → Prop) : Ending → World → Prop
  | .returned v, w => Φ v w
  | _, _ => False
theorem ret_use {P : Program} {f : FuncId} {args : Array Value} {w : World} {Φ : Value → World → Prop} {R : Ending → World → Prop}
    (h : Calls P f args w (Ret Φ)) (k : ∀ v w', Φ v w' → R (.returned v) w') : Calls P f args w R :=
  h.mono fun e w' he => by
    cases e with
    | returned v => exact k v w' he
    | panicked c => exact he.elim
    | outgrown => exact he.elim

/-! ### Which blocks may have turned -/
/-- Of the blocks that were there, those outside S are as they were. -/
structure Mods (S : Nat → Prop) (w w' : World) : Prop where
  os : w'.os = w.os
  tape : w'.tape = w.tape
  output : w'.output = w.output
  size : w.heap.size ≤ w'.heap.size
  block : ∀ k, k < w.heap.size → ¬ S k → w'.heap[k]? = w.heap[k]?
def No : Nat → Prop := fun _ => False
def Lt (n : Nat) : Nat → Prop := fun k => k < n
/-- All blocks of F are as they were. -/
def Same (F : Nat → Prop) (w w' : World) : Prop := ∀ k, F k → w'.heap[k]? = w.heap[k]?

theorem Mods.refl (S : Nat → Prop) (w : World) : Mods S w w := ⟨rfl, rfl, rfl, Nat.le_refl _, fun _ _ _ => rfl⟩
theorem Mods.mono {S T : Nat → Prop} {w w' : World} (h : Mods S w w') (hs : ∀ k, k < w.heap.size → S k → T k) : Mods T w w' :=
  ⟨h.os, h.tape, h.output, h.size, fun k hk hn => h.block k hk fun s => hn (hs k hk s)⟩
theorem Mods.trans {S T : Nat → Prop} {a b c : World} (h : Mods S a b) (k : Mods T b c) (hs : ∀ k, k < a.heap.size → T k → S k) : Mods S a c :=
  ⟨k.os.trans h.os, k.tape.trans h.tape, k.output.trans h.output, Nat.le_trans h.size k.size, fun i hi hn =>
    (k.block i (Nat.lt_of_lt_of_le hi h.size) fun t => hn (hs i hi t)).trans (h.block i hi hn)⟩
theorem Mods.drew {S : Nat → Prop} {a w : World} (h : Mods S a w) : Mods S a w.drew := ⟨h.os, h.tape, h.output, h.size, h.block⟩
theorem Mods.drewN {S : Nat → Prop} {a w : World} (h : Mods S a w) (n : Nat) : Mods S a (w.drewN n) := ⟨h.os, h.tape, h.output, h.size, h.block⟩
theorem Mods.alloc {S : Nat → Prop} {a w : World} (h : Mods S a w) (o : Obj) : Mods S a (w.alloc o) :=
  h.trans (T := No) ⟨rfl, rfl, rfl, by simp, fun k hk _ => Below.heap_alloc _ _ _ hk⟩ (fun _ _ h => h.elim)
theorem Mods.setCell {S : Nat → Prop} {a w : World} (h : Mods S a w) (p : Addr) (u : Value) (hp : p.block < a.heap.size → S p.block) : Mods S a (w.setCell p u) :=
  h.trans (T := fun k => k = p.block) ⟨rfl, rfl, rfl, by simp [World.setCell], fun k _ hn => Below.heap_setCell _ _ _ _ hn⟩ (fun k hk e => by subst e; exact hp hk)
theorem Mods.grown {S : Nat → Prop} {a w w' : World} {row : Option Nat} (h : Mods S a w) (hg : w.grownBy w' row) (hr : ∀ k, row = some k → k < a.heap.size → S k) : Mods S a w' :=
  h.trans (T := fun k => row = some k) ⟨hg.os, hg.tape, hg.output, hg.size, fun k hk hn => hg.block k hk fun e => hn e.symm⟩ (fun k hk e => hr k e hk)
theorem Mods.same {S F : Nat → Prop} {w w' : World} (h : Mods S w w') (hF : ∀ k, F k → k < w.heap.size ∧ ¬ S k) : Same F w w' := fun k hk => h.block k (hF k hk).1 (hF k hk).2
theorem Mods.below {w w' : World} (h : Mods No w w') : Below w.heap.size w w' := ⟨h.os, h.tape, h.output, h.size, fun k hk => h.block k hk fun s => s⟩
theorem Mods.of_below {w w' : World} (h : Below w.heap.size w w') : Mods No w w' := ⟨h.os, h.tape, h.output, h.size, fun k hk _ => h.block k hk⟩

theorem Same.refl (F : Nat → Prop) (w : World) : Same F w w := fun _ _ => rfl
theorem Same.trans {F : Nat → Prop} {a b c : World} (h : Same F a b) (k : Same F b c) : Same F a c := fun i hi => (k i hi).trans (h i hi)
theorem Same.sub {F G : Nat → Prop} {a b : World} (h : Same F a b) (hs : ∀ k, G k → F k) : Same G a b := fun i hi => h i (hs i hi)
theorem Same.cell {F : Nat → Prop} {a b : World} (h : Same F a b) {p : Addr} (hp : F p.block) : b.cell? p = a.cell? p := World.cell?_of_block (h _ hp)
theorem Same.frozen {F : Nat → Prop} {a b : World} (h : Same F a b) {p : Addr} (hp : F p.block) : b.frozen? p = a.frozen? p := World.frozen?_of_block (h _ hp)
theorem Same.drew (F : Nat → Prop) (w : World) : Same F w w.drew := fun _ _ => rfl
theorem Same.drewN (F : Nat → Prop) (w : World) (n : Nat) : Same F w (w.drewN n) := fun _ _ => rfl
theorem Same.alloc {F : Nat → Prop} (w : World) (o : Obj) (hF : ∀ k, F k → k < w.heap.size) : Same F w (w.alloc o) := fun k hk => Below.heap_alloc w o k (hF k hk)
theorem Same.setCell {F : Nat → Prop} (w : World) (p : Addr) (u : Value) (hF : ¬ F p.block) : Same F w (w.setCell p u) := fun k hk => Below.heap_setCell w p u k fun e => hF (e ▸ hk)

/-! ### A block that is known whole -/
def Cells (w : World) (g : Nat) (t : TypeId) (cs : Array Value) : Prop := w.heap[g]? = some (.cells cs t (0, 0))
section
variable {w w' : World} {g : Nat} {t : TypeId} {cs : Array Value}
theorem Cells.lt (h : Cells w g t cs) : g < w.heap.size := by
  rcases Nat.lt_or_ge g w.heap.size with hlt | hge
  · exact hlt
  · unfold Cells at h; rw [Array.getElem?_eq_none hge] at h; cases h
theorem Cells.cell (h : Cells w g t cs) (i : Nat) : w.cell? ⟨g, i, none⟩ = cs[i]? := by unfold Cells at h; simp [World.cell?, h]
theorem Cells.at_ (h : Cells w g t cs) (i : Nat) {v : Value} (hv : cs[i]? = some v) : w.cell? ⟨g, i, none⟩ = some v := (h.cell i).trans hv
theorem Cells.frozen (h : Cells w g t cs) (i : Nat) : w.frozen? ⟨g, i, none⟩ = false := by unfold Cells at h; simp [World.frozen?, h]
theorem Cells.new (w : World) (t : TypeId) (cs : Array Value) : Cells (w.alloc (.cells cs t)) w.heap.size t cs := heap_alloc_new w _
theorem Cells.drew (h : Cells w g t cs) : Cells w.drew g t cs := h
theorem Cells.drewN (h : Cells w g t cs) (n : Nat) : Cells (w.drewN n) g t cs := h
theorem Cells.alloc (h : Cells w g t cs) (o : Obj) : Cells (w.alloc o) g t cs := (Below.heap_alloc w o g h.lt).trans h
theorem Cells.set_ (h : Cells w g t cs) (i : Nat) (u : Value) : Cells (w.setCell ⟨g, i, none⟩ u) g t (cs.setIfInBounds i u) := by
  unfold Cells at h ⊢
  simp [World.setCell, Array.getElem?_modify, h]
theorem Cells.far (h : Cells w g t cs) {p : Addr} (hp : g ≠ p.block) (u : Value) : Cells (w.setCell p u) g t cs := (Below.heap_setCell w p u g hp).trans h
theorem Cells.same {F : Nat → Prop} (h : Cells w g t cs) (hs : Same F w w') (hg : F g) : Cells w' g t cs := (hs g hg).trans h
theorem Cells.mods {S : Nat → Prop} (h : Cells w g t cs) (hs : Mods S w w') (hg : ¬ S g) : Cells w' g t cs := (hs.block g h.lt hg).trans h
theorem Cells.ne_ {g' : Nat} {t' : TypeId} {cs' : Array Value} (h : Cells w g t cs) (h' : Cells w g' t' cs') (hne : t ≠ t') : g ≠ g' := by
  rintro rfl
  unfold Cells at h h'
  rw [h] at h'
  injection h' with h'
  injection h' with _ ht
  exact hne ht
end

/-! ### A slice that reads as a list -/
/-- The slice value v has n elements of 'size' cells each; they hold xs; the cells lie in a block of F. -/
def Rd (w : World) (F : Nat → Prop) (size : Nat) (v : Value) (n : Nat) (xs : List Value) : Prop :=
  xs.length = n * size ∧ ∃ A c, v = .slice A n c ∧ n ≤ c ∧ c ≤ maxLen ∧ (0 < n → ∃ b off, A = some ⟨b, off, none⟩ ∧ F b ∧ ∀ j u, xs[j]? = some u → w.cell? ⟨b, off + j, none⟩ = some u)
section
variable {w w' : World} {F G : Nat → Prop} {size n : Nat} {v : Value} {xs : List Value}
theorem Rd.nil (w : World) (F : Nat → Prop) (size : Nat) : Rd w F size (.slice none 0 0) 0 [] := ⟨by simp, none, 0, rfl, Nat.le_refl _, Nat.zero_le _, fun h => absurd h (Nat.lt_irrefl _)⟩
theorem Rd.same (h : Rd w F size v n xs) (hs : Same F w w') : Rd w' F size v n xs := by
  obtain ⟨hl, A, c, e, h1, h2, h3⟩ := h
  refine ⟨hl, A, c, e, h1, h2, fun hn => ?_⟩
  obtain ⟨b, off, ea, hb, hc⟩ := h3 hn
  exact ⟨b, off, ea, hb, fun j u hu => (hs.cell (p := ⟨b, off + j, none⟩) hb).trans (hc j u hu)⟩
theorem Rd.more (h : Rd w F size v n xs) (hs : ∀ k, F k → G k) : Rd w G size v n xs := by
  obtain ⟨hl, A, c, e, h1, h2, h3⟩ := h
  refine ⟨hl, A, c, e, h1, h2, fun hn => ?_⟩
  obtain ⟨b, off, ea, hb, hc⟩ := h3 hn
  exact ⟨b, off, ea, hs _ hb, hc⟩
/-- The value written out. -/
theorem Rd.form (h : Rd w F size v n xs) : ∃ A c, v = .slice A n c ∧ n ≤ c ∧ c ≤ maxLen := by
  obtain ⟨_, A, c, e, h1, h2, _⟩ := h
  exact ⟨A, c, e, h1, h2⟩
/-- Element i of a slice whose elements are one cell each. -/
theorem Rd.at1 (h : Rd w F 1 v n xs) {i : Nat} (hi : i < n) : ∃ b off c, v = .slice (some ⟨b, off, none⟩) n c ∧ F b ∧ w.cell? ⟨b, off + i, none⟩ = xs[i]? := by
  obtain ⟨hl, A, c, e, _, _, h3⟩ := h
  obtain ⟨b, off, rfl, hb, hc⟩ := h3 (by omega)
  have hlt : i < xs.length := by omega
  exact ⟨b, off, c, e, hb, by rw [hc i _ (List.getElem?_eq_getElem hlt), List.getElem?_eq_getElem hlt]⟩
theorem Rd.cells (h : Rd w F size v n xs) (hn : 0 < n) : ∃ b off c, v = .slice (some ⟨b, off, none⟩) n c ∧ F b ∧ ∀ j, j < n * size → w.cell? ⟨b, off + j, none⟩ = xs[j]? := by
  obtain ⟨hl, A, c, e, _, _, h3⟩ := h
  obtain ⟨b, off, rfl, hb, hc⟩ := h3 hn
  refine ⟨b, off, c, e, hb, fun j hj => ?_⟩
  have hlt : j < xs.length := by omega
  rw [hc j _ (List.getElem?_eq_getElem hlt), List.getElem?_eq_getElem hlt]
/-- 's[k:l]'. -/
theorem Rd.cut {A : Option Addr} {c : Nat} (h : Rd w F size (.slice A n c) n xs) {k l : Nat} (hk : k ≤ l) (hl : l ≤ n) :
    Rd w F size (.slice (if c = k then A else A.map (·.add (k * size))) (l - k) (c - k)) (l - k) ((xs.take (l * size)).drop (k * size)) := by
  obtain ⟨hlen, A', c', e, h1, h2, h3⟩ := h
  injection e with e1 _ e2
  subst e1
  subst e2
  have hm : l * size ≤ n * size := Nat.mul_le_mul_right _ hl
  refine ⟨by rw [List.length_drop, List.length_take, hlen, Nat.min_eq_left hm, Nat.sub_mul], _, _, rfl, by omega, by omega, fun hn => ?_⟩
  obtain ⟨b, off, rfl, hb, hc⟩ := h3 (by omega)
  rw [if_neg (by omega)]
  refine ⟨b, off + k * size, by simp [Addr.add_lit], hb, fun j u hu => ?_⟩
  rw [Nat.add_assoc]
  refine hc _ u ?_
  rw [List.getElem?_drop, List.getElem?_take] at hu
  split at hu
  · exact hu
  · cases hu
/-- 's[:l]'. -/
theorem Rd.take {A : Option Addr} {c : Nat} (h : Rd w F size (.slice A n c) n xs) {l : Nat} (hl : l ≤ n) : Rd w F size (.slice A l c) l (xs.take (l * size)) := by
  obtain ⟨hlen, A', c', e, h1, h2, h3⟩ := h
  injection e with e1 _ e2
  subst e1
  subst e2
  have hm : l * size ≤ n * size := Nat.mul_le_mul_right _ hl
  refine ⟨by rw [List.length_take, hlen, Nat.min_eq_left hm], _, _, rfl, by omega, by omega, fun hn => ?_⟩
  obtain ⟨b, off, rfl, hb, hc⟩ := h3 (by omega)
  refine ⟨b, off, rfl, hb, fun j u hu => hc j u ?_⟩
  rw [List.getElem?_take] at hu
  split at hu
  · exact hu
  · cases hu
theorem Rd.cap {A : Option Addr} {c : Nat} (h : Rd w F size (.slice A n c) n xs) : n ≤ c := by
  obtain ⟨_, A', c', e, h1, _⟩ := h
  injection e with _ _ e2
  omega
/-- What is owned reads. -/
theorem Rd.of_own {base : Nat} {e : TypeId} (h : w.ownsRow base e size v n xs) (hF : ∀ g, v.ownBlock = some g → F g) : Rd w F size v n xs := by
  have hcell := fun g (hg : v.ownBlock = some g) => h.cells hg
  rcases h.2 with ⟨rfl, rfl⟩ | ⟨g, cap, cur, rfl, hb, hh, h1, h2, _⟩
  · exact ⟨h.1, none, 0, rfl, Nat.le_refl _, Nat.zero_le _, fun h => absurd h (Nat.lt_irrefl _)⟩
  · refine ⟨h.1, _, cap, rfl, h1, h2, fun _ => ⟨g, 0, rfl, hF g rfl, fun j u hu => ?_⟩⟩
    have := hcell g rfl j u hu
    rwa [Addr.add_lit] at this
end

/-- What a literal has just laid reads. -/
theorem Rd.box (w : World) (cs : Array Value) (e : TypeId) {s n size : Nat} (hs : s = w.heap.size) (hl : cs.size = n * size) (hm : n ≤ maxLen) : Rd (w.alloc (.cells cs e)) (fun g => g = s) size (.slice (some ⟨s, 0, none⟩) n n) n cs.toList := by
  subst hs
  refine ⟨by simpa using hl, _, n, rfl, Nat.le_refl _, hm, fun _ => ⟨w.heap.size, 0, rfl, rfl, fun j u hu => ?_⟩⟩
  rw [Nat.zero_add, World.cell?_alloc_new]
  simpa using hu

/-! ### Rows of the call's own -/
/-- v owns xs, in a block of F (or it is nil). -/
def Own (w : World) (F : Nat → Prop) (e : TypeId) (size : Nat) (v : Value) (n : Nat) (xs : List Value) : Prop :=
  w.ownsRow 0 e size v n xs ∧ ∀ g, v.ownBlock = some g → F g
section
variable {w w' : World} {F G : Nat → Prop} {e : TypeId} {size n : Nat} {v : Value} {xs : List Value}
theorem Own.nil (w : World) (F : Nat → Prop) (e : TypeId) (size : Nat) : Own w F e size (.slice none 0 0) 0 [] := ⟨World.ownsRow_nil w 0 e size, fun _ h => by cases h⟩
theorem Own.rd (h : Own w F e size v n xs) : Rd w F size v n xs := Rd.of_own h.1 h.2
theorem Own.same (h : Own w F e size v n xs) (hs : Same F w w') : Own w' F e size v n xs := by
  refine ⟨⟨h.1.1, ?_⟩, h.2⟩
  rcases h.1.2 with hn | ⟨g, cap, cur, rfl, hb, hh, rest⟩
  · exact .inl hn
  · exact .inr ⟨g, cap, cur, rfl, hb, (hs g (h.2 g rfl)).trans hh, rest⟩
theorem Own.more (h : Own w F e size v n xs) (hs : ∀ k, F k → G k) : Own w G e size v n xs := ⟨h.1, fun g hg => hs g (h.2 g hg)⟩
theorem Own.form (h : Own w F e size v n xs) : ∃ A c, v = .slice A n c ∧ n ≤ c ∧ c ≤ maxLen := h.rd.form
theorem Own.lt (h : Own w F e size v n xs) : ∀ g, v.ownBlock = some g → g < w.heap.size := fun g hg => (h.1.lt g hg).2
/-- Its cells, the block named. -/
theorem Own.cells (h : Own w F e size v n xs) (hn : 0 < n) : ∃ g c, v = .slice (some ⟨g, 0, none⟩) n c ∧ F g ∧ n ≤ c ∧ ∀ j, j < n * size → w.cell? ⟨g, j, none⟩ = xs[j]? ∧ w.frozen? ⟨g, j, none⟩ = false := by
  have hcell := fun g (hg : v.ownBlock = some g) => h.1.cells hg
  have hl := h.1.1
  rcases h.1.2 with ⟨rfl, rfl⟩ | ⟨g, cap, cur, rfl, hb, hh, h1, h2, _⟩
  · omega
  · refine ⟨g, cap, rfl, h.2 g rfl, h1, fun j hj => ⟨?_, by simp [World.frozen?, hh]⟩⟩
    have hlt : j < xs.length := by omega
    have := hcell g rfl j _ (List.getElem?_eq_getElem hlt)
    rw [Addr.add_lit, Nat.zero_add] at this
    rw [this, List.getElem?_eq_getElem hlt]
theorem Own.at1 (h : Own w F e 1 v n xs) {i : Nat} (hi : i < n) : ∃ g c, v = .slice (some ⟨g, 0, none⟩) n c ∧ F g ∧ n ≤ c ∧ w.cell? ⟨g, i, none⟩ = xs[i]? := by
  obtain ⟨g, c, e, hF, hc, hx⟩ := h.cells (by omega)
  exact ⟨g, c, e, hF, hc, (hx i (by omega)).1⟩
/-- Its block is of its element type. -/
theorem Own.typed (h : Own w F e size v n xs) : ∀ g, v.ownBlock = some g → ∃ cur, Cells w g e cur := by
  intro g hg
  rcases h.1.2 with ⟨rfl, _⟩ | ⟨g', cap, cur, rfl, _, hh, _⟩
  · cases hg
  · injection hg with hg
    subst hg
    exact ⟨cur, hh⟩
theorem Own.ne_cells (h : Own w F e size v n xs) {g : Nat} {t : TypeId} {cs : Array Value} (hc : Cells w g t cs) (hne : e ≠ t) : v.ownBlock ≠ some g := by
  intro hg
  obtain ⟨cur, hcur⟩ := h.typed g hg
  exact hcur.ne_ hc hne rfl
/-- Its block alone. -/
theorem Own.tight (h : Own w F e size v n xs) : Own w (fun k => v.ownBlock = some k) e size v n xs := ⟨h.1, fun _ hg => hg⟩
end

section
variable {P : Program} (w : World)
theorem run_append_nilsrc (t ty e : TypeId) (i : TypeInfo) (size : Nat) (ht : P.underlying t = some (.slice e)) (hi : P.info? e = some i)
    (v : Value) (n : Nat) (xs : List Value) (hown : w.ownsRow 0 e size v n xs) (c : Nat) : (Builtin.append_ #[t, t] ty #[v, .slice none 0 c]).run P w = .ok v w := by
  rcases hown.2 with ⟨rfl, rfl⟩ | ⟨g, cap, cur, rfl, _, _, hnc, _⟩
  · simp [Builtin.append_, run_underlying ht, sizeOf, typeInfo, hi, Builtin.lenOf, Builtin.firstCells]
  · simp [Builtin.append_, run_underlying ht, sizeOf, typeInfo, hi, Builtin.lenOf, Builtin.firstCells, hnc, storeCells]
/-- append(v, x...), v owned, x whatever reads. -/
theorem run_append_rd (t ty e : TypeId) (z : Value) (size bytes : Nat) (ht : P.underlying t = some (.slice e)) (hinfo : (P.info? e).map (fun i => (i.zero, i.size, i.bytes)) = some (some z, size, bytes)) (hzs : z.cells.size = size) (hsz : 0 < size)
    {F G : Nat → Prop} {v : Value} {n : Nat} {xs : List Value} (hown : Own w F e size v n xs) {x : Value} {m : Nat} {news : List Value} (hr : Rd w G size x m news) (h1 : ∀ u ∈ news, u.oneCell' = true)
    (hbytes : (n + m) * bytes ≤ 140737488355328) (hb0 : 0 < bytes) :
    ∃ v' w', (Builtin.append_ #[t, t] ty #[v, x]).run P w = .ok v' w' ∧ Own w' (fun k => v.ownBlock = some k ∨ k = w.heap.size) e size v' (n + m) (xs ++ news) ∧ Mods (fun k => v.ownBlock = some k) w w' ∧
      (∀ g, v'.ownBlock = some g → g < w'.heap.size) := by
  obtain ⟨i, hi, hz0, hz1, hz2⟩ := info_parts hinfo
  have h63 : n + m ≤ maxLen := by
    have : n + m ≤ (n + m) * bytes := Nat.le_mul_of_pos_right _ hb0
    simp only [maxLen]
    omega
  obtain ⟨hl, A, c, rfl, hmc, hcm, hcells⟩ := hr
  rcases Nat.eq_zero_or_pos m with h0 | h0
  · subst h0
    have hn : news = [] := List.eq_nil_of_length_eq_zero (by simpa using hl)
    subst hn
    cases A with
    | none =>
      refine ⟨v, w, run_append_nilsrc w t ty e i size ht hi v n xs hown.1 c, ?_, Mods.refl _ _, hown.lt⟩
      simpa using hown.tight.more fun k hk => Or.inl hk
    | some ad =>
      obtain ⟨v', w', hrun, h2, h3, _, h5⟩ := run_append_own_at (P := P) w 0 t ty e i z size bytes ht hi hz0 hz1 hz2 hzs hsz v n xs hown.1 ad 0 c [] (by simp) (by simp) (by simp) h63 hbytes (Nat.zero_le _)
      refine ⟨v', w', hrun, ⟨h2, fun g hg => ?_⟩, ⟨h3.os, h3.tape, h3.output, h3.size, fun k hk hn => h3.block k hk fun e => hn e.symm⟩, fun g hg => (h2.lt g hg).2⟩
      rcases h5 with h5 | h5
      · exact .inl (h5 ▸ hg)
      · rw [h5] at hg; injection hg with hg; exact .inr hg.symm
  · obtain ⟨b, off, rfl, _, hc⟩ := hcells h0
    obtain ⟨v', w', hrun, h2, h3, _, h5⟩ := run_append_own_at (P := P) w 0 t ty e i z size bytes ht hi hz0 hz1 hz2 hzs hsz v n xs hown.1 ⟨b, off, none⟩ m c news hl (fun j u hu => by rw [Addr.add_lit]; exact hc j u hu) h1 h63 hbytes (Nat.zero_le _)
    refine ⟨v', w', hrun, ⟨h2, fun g hg => ?_⟩, ⟨h3.os, h3.tape, h3.output, h3.size, fun k hk hn => h3.block k hk fun e => hn e.symm⟩, fun g hg => (h2.lt g hg).2⟩
    rcases h5 with h5 | h5
    · exact .inl (h5 ▸ hg)
    · rw [h5] at hg; injection hg with hg; exact .inr hg.symm
/-- The same at the walk's list. -/
theorem wpList_append {ops : Array Oper} {rest : List Oper} {o : Oper} {a : Act} {Q : Exit → Act → World → Prop} (hgd : o.guard = none) (s x : Operand) (t : TypeId)
    (ho : o.op = .call { callee := .builtin .append, args := #[s, x], argTypes := #[t, t] })
    (e : TypeId) (z : Value) (size bytes : Nat) (ht : P.underlying t = some (.slice e)) (hinfo : (P.info? e).map (fun i => (i.zero, i.size, i.bytes)) = some (some z, size, bytes)) (hzs : z.cells.size = size) (hsz : 0 < size)
    {F G : Nat → Prop} {v : Value} {n : Nat} {xs : List Value} (hs : a.eval s = v) (hown : Own w F e size v n xs) {y : Value} {m : Nat} {news : List Value} (hx : a.eval x = y) (hr : Rd w G size y m news) (h1 : ∀ u ∈ news, u.oneCell' = true)
    (hbytes : (n + m) * bytes ≤ 140737488355328) (hb0 : 0 < bytes)
    (h : ∀ v' w', Own w' (fun k => v.ownBlock = some k ∨ k = w.heap.size) e size v' (n + m) (xs ++ news) → Mods (fun k => v.ownBlock = some k) w w' → (∀ g, v'.ownBlock = some g → g < w'.heap.size) → wpList P ops Q rest (a.put o.dst v') w') : wpList P ops Q (o :: rest) a w :=
  wpList_plain hgd fun K hK => by
    obtain ⟨v', w', hrun, h2, h3, h4⟩ := run_append_rd (P := P) w t o.type e z size bytes ht hinfo hzs hsz hown hr h1 hbytes hb0
    unfold Oper.wp execOp
    simp only [ho, resolve, invoke, builtin, Sem.run_bind, Sem.run_pure, Result.andThen_ok, List.map_toArray, List.map_cons, List.map_nil, hs, hx, hrun]
    exact hK _ _ (h v' w' h2 h3 h4)
end

/-! ### Parts of one thing in memory, told apart by a label a block -/
/-- What is new gets the label L. -/
def recol (n : Nat) (col : Nat → Nat) (L : Nat) : Nat → Nat := fun g => if g < n then col g else L
theorem recol_old {n : Nat} {col : Nat → Nat} {L g : Nat} (h : g < n) : recol n col L g = col g := if_pos h
theorem recol_new {n : Nat} {col : Nat → Nat} {L g : Nat} (h : n ≤ g) : recol n col L g = L := if_neg (by omega)
/-- F, and what is new since the heap had n blocks. -/
def Ext (F : Nat → Prop) (n : Nat) : Nat → Prop := fun g => F g ∨ n ≤ g
section
variable {w w' : World} {S : Nat → Prop} {col : Nat → Nat} {L j : Nat}
theorem Own.keep {e : TypeId} {size n : Nat} {v : Value} {xs : List Value} (h : Own w (fun g => col g = j) e size v n xs) (hm : Mods S w w') (hS : ∀ g, g < w.heap.size → S g → col g ≠ j) : Own w' (fun g => recol w.heap.size col L g = j) e size v n xs := by
  have h1 := h.tight.same (w' := w') fun g hg => hm.block g (h.lt g hg) fun hs => hS g (h.lt g hg) hs (h.2 g hg)
  exact ⟨h1.1, fun g hg => (recol_old (h.lt g hg)).trans (h.2 g hg)⟩
theorem Cells.keep {g : Nat} {t : TypeId} {cs : Array Value} (h : Cells w g t cs) (hm : Mods S w w') (hS : ¬ S g) : Cells w' g t cs := h.mods hm hS
theorem Mods.then_ {F : Nat → Prop} {a b c : World} (h : Mods F a b) (k : Mods (Ext F a.heap.size) b c) : Mods F a c :=
  h.trans k fun g hg e => by
    rcases e with e | e
    · exact e
    · omega
end
theorem natInt_beq (m n : Nat) : ((m : Int) == (n : Int)) = decide (m = n) := by
  by_cases h : m = n
  · subst h; simp
  · rw [decide_eq_false h]; simp; omega
theorem natInt_beq0 (m : Nat) : ((m : Int) == 0) = decide (m = 0) := natInt_beq m 0

/-! ### Bytes and numbers as cells -/
def vb (b : UInt8) : Value := .int .u8 b.toNat
def vbs (l : List UInt8) : List Value := l.map vb
theorem vbs_one (l : List UInt8) : ∀ u ∈ vbs l, u.oneCell' = true := by
  intro u hu
  obtain ⟨_, _, rfl⟩ := List.mem_map.1 hu
  rfl
theorem vbs_length (l : List UInt8) : (vbs l).length = l.length := by simp [vbs]
def vis (l : List Int) : List Value := l.map (.int .i64)
theorem vis_one (l : List Int) : ∀ u ∈ vis l, u.oneCell' = true := by
  intro u hu
  obtain ⟨_, _, rfl⟩ := List.mem_map.1 hu
  rfl
theorem vis_length (l : List Int) : (vis l).length = l.length := by simp [vis]
theorem run_convert_rd {P : Program} (w : World) (src dst e : TypeId) (hs : P.underlying src = some (.slice e)) (he : P.underlying e = some (.int .u8)) (hd : P.underlying dst = some .string)
    {F : Nat → Prop} {v : Value} {l : List UInt8} (h : Rd w F 1 v l.length (vbs l)) : (convert src dst v).run P w = .ok (.string ⟨l.toArray⟩) w := by
  obtain ⟨A, c, rfl, _, _⟩ := h.form
  cases A with
  | none =>
    have h0 : l = [] := by
      cases l with
      | nil => rfl
      | cons x l =>
        obtain ⟨b, off, c', e, _⟩ := h.cells (by simp)
        injection e with e
        cases e
    subst h0
    rw [run_convert_bytes_string w src dst e none _ c hs he hd]
    rfl
  | some a =>
    refine run_convert_bytes_back w src dst e a c l hs he hd fun j hj => ?_
    obtain ⟨b, off, c', e, _, hc⟩ := h.cells (by omega)
    injection e with e
    injection e with e
    subst e
    rw [Addr.add_lit, hc j (by omega)]
    simp [vbs, vb, hj]
theorem string_ne (a b : List UInt8) : ((ByteArray.mk a.toArray).toList == (ByteArray.mk b.toArray).toList) = decide (a = b) := by
  rw [ByteArray.toList_eq, ByteArray.toList_eq]
  simp only []
  by_cases e : a = b
  · subst e; simp
  · simp [e]
end Go.Tum
