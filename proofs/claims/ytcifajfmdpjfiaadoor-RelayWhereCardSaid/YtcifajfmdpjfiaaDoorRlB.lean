/- Package relay: a relay in memory; deal, station. -/
import Derived.Test.YtcifajfmdpjfiaaDoorRlA
namespace Go.Proofs.YtcifajfmdpjfiaaDoor
open Go.RowKit Go.Tum Go.Lib Go.Sort
set_option maxRecDepth 100000
def ptr (k : Nat) : Value := (.pointer (some ⟨k, 0, none⟩))
theorem ptr_one (l : List Nat) : ∀ u ∈ l.map ptr, u.oneCell' = true := fun u hu => by
  obtain ⟨s, _, rfl⟩ := List.mem_map.1 hu
  rfl
/-- Station s at block p, its records in a block of F. -/
def StK (w : World) (F : Nat → Prop) (p : Nat) (s : Stn) : Prop :=
  ∃ hv, Cells w p 83 #[hv, .int .i64 (s.sent : Int), .int .i64 (s.dropped : Int)] ∧ Own w F 45 4 hv s.L.length (rcs s.L)
theorem StK.mods {w w' : World} {F S : Nat → Prop} {p : Nat} {s : Stn} (h : StK w F p s) (hm : Mods S w w') (h1 : ¬ S p) (h2 : ∀ g, g < w.heap.size → F g → ¬ S g) : StK w' F p s := by
  obtain ⟨hv, hc, ho⟩ := h
  exact ⟨hv, hc.mods hm h1, Tum.Own.mods ho hm fun g hg => h2 g (ho.lt g hg) (ho.2 g hg)⟩
theorem StK.more {w : World} {F G : Nat → Prop} {p : Nat} {s : Stn} (h : StK w F p s) (hs : ∀ g, g < w.heap.size → F g → G g) : StK w G p s := by
  obtain ⟨hv, hc, ho⟩ := h
  exact ⟨hv, hc, ho.1, fun g hg => hs g (ho.lt g hg) (ho.2 g hg)⟩
theorem StK.lt {w : World} {F : Nat → Prop} {p : Nat} {s : Stn} (h : StK w F p s) : p < w.heap.size := by
  obtain ⟨_, hc, _⟩ := h
  exact hc.lt
/-- What is always so of a relay's parts. -/
structure RlI (N : List Tx) (S : List Stn) (dn : List Tx) (R H : Nat) : Prop where
  r1 : 1 ≤ R
  r2 : R ≤ 8
  h1 : 1 ≤ H
  h2 : H ≤ 65536
  len : S.length = N.length
  held : ∀ s ∈ S, s.L.length ≤ H
  nd : dn.Nodup
  sub : ∀ s ∈ dn, s ∈ N
structure RlP (w : World) (rb g mb C R H : Nat) (nw : Bool) (N : List Tx) (S : List Stn) (dn : List Tx) (col : Nat → Nat) (ps : List Nat) (nv sv : Value) : Prop where
  cells : Cells w rb 74 #[.slice none 0 0, .int .i64 (C : Int), .int .i64 (R : Int), .int .i64 (H : Int), .bool nw, (.pointer (some ⟨g, 0, none⟩)), nv, sv, .map (some mb)]
  crb : col rb = 1
  ring : RingK w g C N (fun b => col b = 1)
  names : Own w (fun b => col b = 1) 9 1 nv N.length (N.map ks)
  sta : Own w (fun b => col b = 1) 79 1 sv N.length (ps.map ptr)
  len : ps.length = N.length
  each : ∀ (i p : Nat) (s : Stn), ps[i]? = some p → S[i]? = some s → col p = 3 + i ∧ StK w (fun b => col b = 3 + i) p s
  cmb : col mb = 2
  away : SMap Tryd.prog 9 3 w mb dn.length (awayF dn)
theorem RingK.bnd {w : World} {q c : Nat} {N : List Tx} {F G : Nat → Prop} (h : RingK w q c N F) (hs : ∀ g, g < w.heap.size → F g → G g) (h1 : ¬ G 1) : RingK w q c N G := by
  obtain ⟨hi, nv, pv, h⟩ := h
  exact ⟨hi, nv, pv, h.cells, ⟨h.nown.1, fun g hg => hs g (h.nown.lt g hg) (h.nown.2 g hg)⟩, ⟨h.pown.1, fun g hg => hs g (h.pown.lt g hg) (h.pown.2 g hg)⟩, hs q h.cells.lt h.fq, h1⟩
theorem RingK.f1 {w : World} {q c : Nat} {N : List Tx} {F : Nat → Prop} (h : RingK w q c N F) : ¬ F 1 := by
  obtain ⟨_, _, _, h⟩ := h
  exact h.f1
/-- What is new gets the label 0 below mid, else L. -/
def recol2 (n mid : Nat) (col : Nat → Nat) (L : Nat) : Nat → Nat := fun g => if g < n then col g else if g < mid then 0 else L
theorem recol2_old {n mid : Nat} {col : Nat → Nat} {L g : Nat} (h : g < n) : recol2 n mid col L g = col g := if_pos h
theorem recol2_new {n mid : Nat} {col : Nat → Nat} {L g : Nat} (h : n ≤ g) (h2 : mid ≤ g) : recol2 n mid col L g = L := by unfold recol2; rw [if_neg (by omega), if_neg (by omega)]
theorem recol2_ne {n mid : Nat} {col : Nat → Nat} {L g : Nat} (h : recol2 n mid col L g ≠ 0) : g < n ∧ col g ≠ 0 ∨ n ≤ g ∧ mid ≤ g := by
  unfold recol2 at h
  by_cases h1 : g < n
  · rw [if_pos h1] at h; exact .inl ⟨h1, h⟩
  · rw [if_neg h1] at h
    by_cases h2 : g < mid
    · rw [if_pos h2] at h; exact absurd rfl h
    · exact .inr ⟨by omega, by omega⟩
section
variable {w w' : World} {rb g mb C R H : Nat} {nw : Bool} {N : List Tx} {S : List Stn} {dn : List Tx} {col : Nat → Nat} {ps : List Nat} {nv sv : Value}
theorem own_recol {e : TypeId} {size n mid j L : Nat} {v : Value} {xs : List Value} {T : Nat → Prop} (h : Own w (fun b => col b = j) e size v n xs) (hm : Mods T w w') (hT : ∀ b, b < w.heap.size → T b → col b ≠ j) : Own w' (fun b => recol2 w.heap.size mid col L b = j) e size v n xs := by
  have h1 := Tum.Own.mods h hm fun b hb ht => hT b (h.lt b hb) ht (h.2 b hb)
  exact ⟨h1.1, fun b hb => (recol2_old (h.lt b hb)).trans (h.2 b hb)⟩
/-- Station i turned into s'. -/
theorem RlP.step {i p mid : Nat} {s' : Stn} (h : RlP w rb g mb C R H nw N S dn col ps nv sv) (hp : ps[i]? = some p) (hi : i < S.length) (ht : 1 < w.heap.size) (hs : StK w' (fun b => (b < w.heap.size ∧ col b = 3 + i) ∨ (w.heap.size ≤ b ∧ mid ≤ b)) p s') (hm : Mods (fun b => col b = 3 + i) w w') :
    RlP w' rb g mb C R H nw N (S.set i s') dn (recol2 w.heap.size mid col (3 + i)) ps nv sv := by
  have hlt := h.cells.lt
  have hsz := hm.size
  refine ⟨h.cells.mods hm (by rw [h.crb]; omega), by rw [recol2_old hlt]; exact h.crb, ?_, own_recol h.names hm fun b _ e => by omega, own_recol h.sta hm fun b _ e => by omega, h.len, fun k q s hq hk => ?_, by rw [recol2_old h.away.lt]; exact h.cmb, h.away.mods hm (by rw [h.cmb]; omega)⟩
  · have r1 := h.ring.bnd (G := fun b => b < w.heap.size ∧ col b = 1) (fun b hb e => ⟨hb, e⟩) fun e => h.ring.f1 e.2
    exact (r1.mods hm fun b _ e1 e2 => by omega).bnd (fun b _ e => by rw [recol2_old e.1]; exact e.2) fun e => by
      rw [recol2_old ht] at e
      exact h.ring.f1 e
  · by_cases hki : k = i
    · subst hki
      rw [hp] at hq
      injection hq with hq
      subst hq
      rw [List.getElem?_set_self hi] at hk
      injection hk with hk
      subst hk
      obtain ⟨s0, h0⟩ := lt_get hi
      obtain ⟨c1, c2⟩ := h.each k p s0 hp h0
      refine ⟨by rw [recol2_old c2.lt]; exact c1, hs.more fun b _ e => ?_⟩
      rcases e with ⟨e1, e2⟩ | ⟨e1, e2⟩
      · rw [recol2_old e1]; exact e2
      · exact recol2_new e1 e2
    · rw [List.getElem?_set_ne (fun e => hki e.symm)] at hk
      obtain ⟨c1, c2⟩ := h.each k q s hq hk
      refine ⟨by rw [recol2_old c2.lt]; exact c1, ?_⟩
      obtain ⟨hv, hc, ho⟩ := c2
      exact ⟨hv, hc.mods hm (by omega), own_recol ho hm fun b _ e => by omega⟩
theorem RlP.mods {T : Nat → Prop} (h : RlP w rb g mb C R H nw N S dn col ps nv sv) (hm : Mods T w w') (hT : ∀ b, b < w.heap.size → T b → col b = 0) (ht : 1 < w.heap.size) : RlP w' rb g mb C R H nw N S dn (recol2 w.heap.size w'.heap.size col 0) ps nv sv := by
  have hlt := h.cells.lt
  have hk : ∀ j, j ≠ 0 → ∀ b, b < w.heap.size → T b → col b ≠ j := fun j hj b hb e => by rw [hT b hb e]; exact fun e => hj e.symm
  refine ⟨h.cells.mods hm fun e => by have := hT _ hlt e; rw [h.crb] at this; omega, by rw [recol2_old hlt]; exact h.crb, ?_, own_recol h.names hm (hk 1 (by decide)), own_recol h.sta hm (hk 1 (by decide)), h.len, fun k q s hq hk2 => ?_, by rw [recol2_old h.away.lt]; exact h.cmb, h.away.mods hm fun e => by have := hT _ h.away.lt e; rw [h.cmb] at this; omega⟩
  · have r1 := h.ring.bnd (G := fun b => b < w.heap.size ∧ col b = 1) (fun b hb e => ⟨hb, e⟩) fun e => h.ring.f1 e.2
    exact (r1.mods hm fun b hb e1 e2 => by have := hT b hb e2; omega).bnd (fun b _ e => by rw [recol2_old e.1]; exact e.2) fun e => by
      rw [recol2_old ht] at e
      exact h.ring.f1 e
  · obtain ⟨c1, c2⟩ := h.each k q s hq hk2
    refine ⟨by rw [recol2_old c2.lt]; exact c1, ?_⟩
    obtain ⟨hv, hc, ho⟩ := c2
    exact ⟨hv, hc.mods hm fun e => by have := hT q hc.lt e; omega, own_recol ho hm (hk _ (by omega))⟩
end
/-- A relay at rb, all its blocks in F. -/
def RelK (w : World) (rb C R H : Nat) (nw : Bool) (N : List Tx) (S : List Stn) (dn : List Tx) (F : Nat → Prop) : Prop :=
  RlI N S dn R H ∧ 1 < w.heap.size ∧ ∃ g mb col ps nv sv, RlP w rb g mb C R H nw N S dn col ps nv sv ∧ ∀ b, b < w.heap.size → col b ≠ 0 → F b
theorem RelK.mods {w w' : World} {rb C R H : Nat} {nw : Bool} {N : List Tx} {S : List Stn} {dn : List Tx} {F T : Nat → Prop} (h : RelK w rb C R H nw N S dn F) (hm : Mods T w w') (hT : ∀ b, b < w.heap.size → F b → ¬ T b) : RelK w' rb C R H nw N S dn F := by
  obtain ⟨hi, ht, g, mb, col, ps, nv, sv, hp, hF⟩ := h
  refine ⟨hi, Nat.lt_of_lt_of_le ht hm.size, g, mb, _, ps, nv, sv, hp.mods hm (fun b hb e => ?_) ht, fun b hb e => ?_⟩
  · rcases Nat.eq_zero_or_pos (col b) with h0 | h0
    · exact h0
    · exact absurd e (hT b hb (hF b hb (by omega)))
  · rcases recol2_ne e with ⟨h1, h2⟩ | ⟨h1, h2⟩
    · exact hF b h1 h2
    · omega
theorem RelK.no {w w' : World} {rb C R H : Nat} {nw : Bool} {N : List Tx} {S : List Stn} {dn : List Tx} {F : Nat → Prop} (h : RelK w rb C R H nw N S dn F) (hm : Mods No w w') : RelK w' rb C R H nw N S dn F := h.mods hm fun _ _ _ e => e
end Go.Proofs.YtcifajfmdpjfiaaDoor
