/- A queue in memory; the pile's Swap. -/
import Derived.Test.YtmfpgghpnkmkpaaDueB
import Derived.Test.YtmfpgghpnkmkpaaLaw2
namespace Go.Proofs.Ytmfpgghpnkmkpaa
open Go.RowKit Go.Tum
set_option maxRecDepth 100000
def ents (d : Nat → Ent) (n : Nat) : List Value := (List.range n).flatMap fun i => [ks (d i).1, .int .i64 (d i).2]
theorem ents_length (d : Nat → Ent) (n : Nat) : (ents d n).length = n * 2 := by unfold ents; rw [Law.flat_two_length]; simp
theorem ents_at (d : Nat → Ent) {n i : Nat} (h : i < n) : (ents d n)[i * 2]? = some (ks (d i).1) ∧ (ents d n)[i * 2 + 1]? = some (.int .i64 (d i).2) := by
  have := Law.flat_two (fun i => ks (d i).1) (fun i => Value.int .i64 (d i).2) (List.range n) i
  unfold ents
  rw [this.1, this.2, List.getElem?_range h]
  exact ⟨rfl, rfl⟩
theorem ents_ext {l : List Value} {d : Nat → Ent} {n : Nat} (hl : l.length = n * 2) (h : ∀ i, i < n → l[i * 2]? = some (ks (d i).1) ∧ l[i * 2 + 1]? = some (.int .i64 (d i).2)) : l = ents d n := by
  apply List.ext_getElem?
  intro j
  rcases Nat.lt_or_ge j (n * 2) with hj | hj
  · have hq : j / 2 < n := by omega
    have h1 := h _ hq
    have h2 := ents_at d hq
    rcases Nat.mod_two_eq_zero_or_one j with e | e
    · have e2 : j / 2 * 2 = j := by omega
      rw [e2] at h1 h2
      rw [h1.1, h2.1]
    · have e2 : j / 2 * 2 + 1 = j := by omega
      rw [e2] at h1 h2
      rw [h1.2, h2.2]
  · rw [List.getElem?_eq_none (by omega), List.getElem?_eq_none (by rw [ents_length]; exact hj)]
theorem ents_one (d : Nat → Ent) (n : Nat) : ∀ u ∈ ents d n, u.oneCell' = true := by
  intro u hu
  unfold ents at hu
  obtain ⟨i, _, hi⟩ := List.mem_flatMap.1 hu
  rcases List.mem_cons.1 hi with rfl | hi
  · rfl
  · rcases List.mem_cons.1 hi with rfl | hi
    · rfl
    · cases hi
theorem ents_congr {d e : Nat → Ent} {n : Nat} (h : ∀ i, i < n → e i = d i) : ents e n = ents d n :=
  (ents_ext (ents_length d n) fun i hi => by rw [h i hi]; exact ents_at d hi).symm
/-- Where a key stands. -/
def spot (d : Nat → Ent) (n : Nat) (key : List UInt8) : Option Nat := (List.range n).find? fun i => decide ((d i).1 = key)
def look (d : Nat → Ent) (n : Nat) : MF := fun key => (spot d n key).map Int.ofNat
theorem spot_some {d : Nat → Ent} {n i : Nat} {key : List UInt8} (h : spot d n key = some i) : i < n ∧ (d i).1 = key := by
  have h1 := List.mem_of_find?_eq_some h
  have h2 := List.find?_some h
  exact ⟨by simpa using h1, by simpa using h2⟩
theorem spot_none {d : Nat → Ent} {n : Nat} {key : List UInt8} (h : spot d n key = none) : ∀ i, i < n → (d i).1 ≠ key := by
  intro i hi e
  have := List.find?_eq_none.1 h i (by simpa using hi)
  simp [e] at this
theorem spot_of {d : Nat → Ent} {n i : Nat} (hk : ∀ i j, i < n → j < n → (d i).1 = (d j).1 → i = j) (hi : i < n) {key : List UInt8} (e : (d i).1 = key) : spot d n key = some i := by
  cases h : spot d n key with
  | none => exact absurd e (spot_none h i hi)
  | some j =>
    obtain ⟨h1, h2⟩ := spot_some h
    rw [hk j i h1 hi (by rw [h2, e])]
theorem spot_no {d : Nat → Ent} {n : Nat} {key : List UInt8} (h : ∀ i, i < n → (d i).1 ≠ key) : spot d n key = none := by
  cases hs : spot d n key with
  | none => rfl
  | some j => obtain ⟨h1, h2⟩ := spot_some hs; exact absurd h2 (h j h1)
/-- The queue at q, its slice v, its map in gm: entries d below n. -/
structure QK (w : World) (q : Nat) (lim : Int) (v : Value) (gm : Nat) (d : Nat → Ent) (n : Nat) (F : Nat → Prop) : Prop where
  cells : Cells w q 61 #[.int .i64 lim, v, .map (some gm)]
  own : Own w F 29 2 v n (ents d n)
  map : SMap Try.prog 9 3 w gm n (look d n)
  keys : ∀ i j, i < n → j < n → (d i).1 = (d j).1 → i = j
  wf : ∀ i, i < n → (d i).1.length ≤ maxLen
  small : n ≤ 65536
  fq : F q
  fm : F gm
def QueueK (w : World) (q : Nat) (lim : Int) (d : Nat → Ent) (n : Nat) (F : Nat → Prop) : Prop := ∃ v gm, QK w q lim v gm d n F
section
variable {w w' : World} {q gm n : Nat} {lim : Int} {v : Value} {d : Nat → Ent} {F G : Nat → Prop}
theorem QK.same (h : QK w q lim v gm d n F) (hs : Same F w w') : QK w' q lim v gm d n F := ⟨h.cells.same hs h.fq, h.own.same hs, h.map.same hs h.fm, h.keys, h.wf, h.small, h.fq, h.fm⟩
theorem QK.more (h : QK w q lim v gm d n F) (hs : ∀ k, F k → G k) : QK w q lim v gm d n G := ⟨h.cells, h.own.more hs, h.map, h.keys, h.wf, h.small, hs _ h.fq, hs _ h.fm⟩
theorem QueueK.same (h : QueueK w q lim d n F) (hs : Same F w w') : QueueK w' q lim d n F := by obtain ⟨v, gm, h⟩ := h; exact ⟨v, gm, h.same hs⟩
theorem QueueK.more (h : QueueK w q lim d n F) (hs : ∀ k, F k → G k) : QueueK w q lim d n G := by obtain ⟨v, gm, h⟩ := h; exact ⟨v, gm, h.more hs⟩
/-- of the blocks of F only those that are there -/
theorem QK.tight (h : QK w q lim v gm d n F) : QK w q lim v gm d n (fun g => F g ∧ g < w.heap.size) :=
  ⟨h.cells, ⟨h.own.1, fun g hg => ⟨h.own.2 g hg, h.own.lt g hg⟩⟩, h.map, h.keys, h.wf, h.small, ⟨h.fq, h.cells.lt⟩, ⟨h.fm, h.map.lt⟩⟩
theorem QK.nq (h : QK w q lim v gm d n F) : v.ownBlock ≠ some q ∧ gm ≠ q := ⟨h.own.ne_cells h.cells (by decide), h.map.ne_cells h.cells⟩
theorem QK.nm (h : QK w q lim v gm d n F) : v.ownBlock ≠ some gm := by
  intro hg
  obtain ⟨cur, hc⟩ := h.own.typed gm hg
  exact h.map.ne_cells hc rfl
end
theorem sw_key {d : Nat → Ent} {n i j : Nat} (hk : ∀ i j, i < n → j < n → (d i).1 = (d j).1 → i = j) (hi : i < n) (hj : j < n) : ∀ a b, a < n → b < n → (sw d i j a).1 = (sw d i j b).1 → a = b := (Shuf.sw n d hi hj).inj Prod.fst hk
theorem look_sw {d : Nat → Ent} {n i j : Nat} (hk : ∀ i j, i < n → j < n → (d i).1 = (d j).1 → i = j) (hi : i < n) (hj : j < n) (key : List UInt8) :
    look (sw d i j) n key = if key = (d i).1 then some (j : Int) else if key = (d j).1 then some (i : Int) else look d n key := by
  have hk2 := sw_key hk hi hj
  have hsw : ∀ k, sw d i j k = if k = i then d j else if k = j then d i else d k := fun k => rfl
  unfold look
  by_cases h1 : key = (d i).1
  · rw [if_pos h1, spot_of hk2 hj (by rw [hsw]; by_cases e : j = i; (· rw [if_pos e, h1, e]); (· rw [if_neg e, if_pos rfl, h1]))]
    rfl
  · rw [if_neg h1]
    by_cases h2 : key = (d j).1
    · rw [if_pos h2, spot_of hk2 hi (by rw [hsw, if_pos rfl, h2])]
      rfl
    · rw [if_neg h2]
      cases hs : spot d n key with
      | none =>
        rw [spot_no fun k hkn e => ?_]
        rw [hsw] at e
        split at e
        · exact h2 e.symm
        · split at e
          · exact h1 e.symm
          · exact spot_none hs k hkn e
      | some k =>
        obtain ⟨k1, k2⟩ := spot_some hs
        rw [spot_of hk2 k1 ?_]
        rw [hsw, if_neg (by rintro rfl; exact h1 k2.symm), if_neg (by rintro rfl; exact h2 k2.symm), k2]
end Go.Proofs.Ytmfpgghpnkmkpaa
