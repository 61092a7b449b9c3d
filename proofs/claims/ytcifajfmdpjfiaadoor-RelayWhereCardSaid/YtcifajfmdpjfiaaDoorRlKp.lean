/- The law RelayKeeps: where a text stands; a relay between two calls. -/
import Derived.Test.YtcifajfmdpjfiaaDoorRlOr
import Derived.Test.YtcifajfmdpjfiaaDoorRlDU
import Derived.Test.YtcifajfmdpjfiaaDoorRelay3
namespace Go.Proofs.YtcifajfmdpjfiaaDoor
open Go.RowKit Go.Tum Go.Lib Go.Sort
set_option maxRecDepth 100000
/-- Where a text stands in a list. -/
def idxV (l : List Tx) (s : Tx) : Int := if s ∈ l then ((l.takeWhile fun y => !decide (y = s)).length : Int) else -1
theorem idxV_in {l : List Tx} {s : Tx} (h : s ∈ l) : 0 ≤ idxV l s := by unfold idxV; rw [if_pos h]; exact Int.natCast_nonneg _
theorem idxV_out {l : List Tx} {s : Tx} (h : s ∉ l) : idxV l s = -1 := if_neg h
theorem idxV_at {l : List Tx} {s : Tx} {i : Nat} (hx : l[i]? = some s) (hn : s ∉ l.take i) : idxV l s = i := by
  unfold idxV
  rw [if_pos (List.mem_of_getElem? hx), tw_len (i := i) (by have := (List.getElem?_eq_some_iff.1 hx).1; omega) (fun y hy => by have : y ≠ s := fun e => hn (e ▸ hy); simp [this]) (.inr ⟨s, hx, by simp⟩)]
/-- A call that turns nothing, in a region that draws. -/
theorem ret_quiet {P : Program} {f : FuncId} {args : Array Value} {w : World} {v : Value} (h : Calls P f args w (Ret fun u w' => u = v ∧ w = w')) {D : World → Prop} (hD : D w) : Calls P f args w (fun e w'' => e = .returned v ∧ D w'') :=
  ret_use h fun u w' ⟨e1, e2⟩ => by
    subst e1 e2
    exact ⟨rfl, hD⟩
theorem index_K (w : World) (F : Nat → Prop) (v : Value) (l : List Tx) (s : Tx) (hr : Rd w F 1 v l.length (l.map ks)) : Calls Tryd.prog 24 #[v, ks s] w (Ret fun u w' => u = .int .i64 (idxV l s) ∧ w = w') := by
  obtain ⟨A, c, rfl, hac, hmx⟩ := hr.form
  unfold maxLen at hmx
  have Hhr := Lib.hid hr
  clear hr
  unfold ks
  go_enter Tryd.func24, Tryd.ntmps24
  go_wp2_with (first | ((with_reducible refine wp_region_por ?_ ?_ ?_ ?_); kernel_rfl; kernel_rfl; (with_reducible repeat (first | exact calm_ret | refine calm_then ?_ | refine calm_in ?_ | refine calm_chk ?_ | refine calm_noGoto ?_))) | ((with_reducible refine chk_end ?_ ?_); kernel_rfl))
  go_loopg [5] l.length (fun k v5 wr => ∃ i : Nat, v5 = .int .i64 i ∧ i ≤ l.length ∧ k + i = l.length ∧ s ∉ l.take i ∧ wr = w)
  case atStart => exact ⟨0, rfl, Nat.zero_le _, rfl, by simp, rfl⟩
  case round =>
    obtain ⟨i, rfl, hi, hki, hno, rfl⟩ := hrel
    have Hki := Lib.hid hki
    have Hno := Lib.hid hno
    clear hki hno
    rcases Nat.lt_or_ge i l.length with h1 | h1
    · obtain ⟨x, hx⟩ := lt_get h1
      obtain ⟨b, o, rfl, _, x0⟩ := Hhr.out.tx rfl hx
      unfold ks at x0
      by_cases e : x = s
      · have hs : (x == s) = true := by simp [e]
        have He := Lib.hid (show idxV l s = i from idxV_at (e ▸ hx) Hno.out)
        clear hx e
        go_wp2_with (first | ((with_reducible refine wp_region_por ?_ ?_ ?_ ?_); kernel_rfl; kernel_rfl; (with_reducible repeat (first | exact calm_ret | refine calm_then ?_ | refine calm_in ?_ | refine calm_chk ?_ | refine calm_noGoto ?_))) | ((with_reducible refine chk_end ?_ ?_); kernel_rfl))
        go_ret
        exact ⟨by rw [He.out]; rfl, rfl⟩
      · have hs : (x == s) = false := by simp [e]
        have Hx := Lib.hid (And.intro hx e)
        clear hx e
        go_wp2_with (first | ((with_reducible refine wp_region_por ?_ ?_ ?_ ?_); kernel_rfl; kernel_rfl; (with_reducible repeat (first | exact calm_ret | refine calm_then ?_ | refine calm_in ?_ | refine calm_chk ?_ | refine calm_noGoto ?_))) | ((with_reducible refine chk_end ?_ ?_); kernel_rfl))
        go_roundg (gk - 1)
        case rel => exact ⟨i + 1, by go_num, h1, by have := Hki.out; omega, fun h => by
          rw [take_nx Hx.out.1] at h
          rcases List.mem_append.1 h with h | h
          · exact Hno.out h
          · exact Hx.out.2 (List.mem_singleton.1 h).symm, rfl⟩
        case measure => have := Hki.out; omega
    · obtain rfl : i = l.length := by omega
      go_wp2_with (first | ((with_reducible refine wp_region_por ?_ ?_ ?_ ?_); kernel_rfl; kernel_rfl; (with_reducible repeat (first | exact calm_ret | refine calm_then ?_ | refine calm_in ?_ | refine calm_chk ?_ | refine calm_noGoto ?_))) | ((with_reducible refine chk_end ?_ ?_); kernel_rfl))
      go_ret
      have h := Hno.out
      rw [List.take_length] at h
      exact ⟨by rw [idxV_out h]; rfl, rfl⟩
/-- A relay between two calls of a script: i calls are done. -/
structure KpI (W wr : World) (rb C R H : Nat) (nw : Bool) (nodes : List Tx) (i : Nat) (S : List Stn) (dn : List Tx) : Prop where
  rel : RelK wr rb C R H nw (nodesOf nodes) S dn (fun b => W.heap.size ≤ b)
  hm : Mods No W wr
  small : tot S ≤ 8 * i
theorem KpI.no {W w w' : World} {rb C R H i : Nat} {nw : Bool} {nodes : List Tx} {S : List Stn} {dn : List Tx} (h : KpI W w rb C R H nw nodes i S dn) (hm : Mods No w w') : KpI W w' rb C R H nw nodes i S dn := ⟨h.rel.no hm, h.hm.trans hm fun _ _ e => e, h.small⟩
theorem KpI.up {W w : World} {rb C R H i : Nat} {nw : Bool} {nodes : List Tx} {S : List Stn} {dn : List Tx} (h : KpI W w rb C R H nw nodes i S dn) : KpI W w rb C R H nw nodes (i + 1) S dn := ⟨h.rel, h.hm, by have := h.small; omega⟩
theorem kp_new {W w : World} {rb C R H : Nat} {nw : Bool} {nodes : List Tx} (h : RelK w rb (C : Int).toNat (R : Int).toNat (H : Int).toNat nw (nodesOf nodes) (List.replicate nodes.length stn0) [] (fun b => W.heap.size ≤ b)) (hm : Mods No W w) : KpI W w rb C R H nw nodes 0 (List.replicate nodes.length stn0) [] :=
  ⟨h, hm, by rw [tot_new]; exact Nat.le_refl _⟩
theorem kp_put {W w : World} {rb C R H i : Nat} {nw : Bool} {nodes : List Tx} {S : List Stn} {dn : List Tx} (h : KpI W w rb C R H nw nodes i S dn) (x : Rcd) (hx : x.1.length ≤ maxLen) (hi : i ≤ 144115188075855872) :
    Calls Tryd.prog 13 #[(.pointer (some ⟨rb, 0, none⟩)), rv x] w (Ret fun v w' => ∃ (q : Nat) (S' : List Stn), v = .int .i64 (q : Int) ∧ q ≤ R ∧ q ≤ nodes.length ∧ tot S' = tot S + q ∧ snt S' = snt S ∧ KpI W w' rb C R H nw nodes (i + 1) S' dn) := by
  have hI := h.rel.1
  have hst := h.rel.strict
  have hs := h.hm.size
  have hc1 : 1 ≤ C := by obtain ⟨_, _, _, _, _, _, _, _, hp, _⟩ := h.rel; exact hp.ring.1.c1
  refine ret_use (relput_K w rb C R H nw (nodesOf nodes) S dn _ x h.rel hx fun t ht => ⟨?_, hI.held t ht⟩) fun v w' ⟨e1, e2, e3⟩ => ?_
  · have h1 := tot_mem ht
    have h2 := h.small
    unfold sz at h1
    omega
  · have hw := wants_le dn R (allV (placesOf C (nodesOf nodes)) (fnv64 x.1))
    have hpm : (allV (placesOf C (nodesOf nodes)) (fnv64 x.1)).Perm (nodesOf nodes) := allV_perm hc1 (hst.nodup sto_T) _
    have hwN : (wants dn R (allV (placesOf C (nodesOf nodes)) (fnv64 x.1))).length ≤ nodes.length := by
      unfold wants
      rw [List.length_take, ← nodesOf_len nodes, ← hpm.length_eq]
      exact Nat.le_trans (Nat.min_le_right _ _) (List.length_filter_le _ _)
    have ht := tot_deal (H := H) hI.h1 nw hst x (wants dn R (allV (placesOf C (nodesOf nodes)) (fnv64 x.1))) S hI.len fun s hs => hpm.mem_iff.1 (wants_mem hs).1
    refine ⟨_, _, e1, hw, hwN, ht, snt_deal _ _ _ _ _ _, e2.more fun b _ hb => ?_, h.hm.trans e3 fun k hk e => absurd hk (Nat.not_lt.2 e), ?_⟩
    · rcases hb with hb | hb
      · exact hb
      · omega
    · have h2 := h.small
      have h3 := hI.r2
      omega
theorem kp_take {W w w' : World} {rb C R H i : Nat} {nw : Bool} {nodes : List Tx} {S : List Stn} {dn : List Tx} {s : Tx} {n : Int} {v : Value} {F : Nat → Prop} (h : KpI W w rb C R H nw nodes i S dn) (hF : ∀ b, F b → W.heap.size ≤ b) (ht : TakeIs w w' rb C R H nw (nodesOf nodes) S dn F s n v) :
    ∃ (A : Option Addr) (m c : Nat) (e : Int) (S' : List Stn), v = .tuple #[.slice A m c, .int .i64 e] ∧ (m = 0 ∨ 0 < m ∧ e = 0 ∧ (m : Int) ≤ n) ∧ m ≤ 65536 ∧ tot S' = tot S ∧ snt S' = snt S + m ∧ KpI W w' rb C R H nw nodes (i + 1) S' dn ∧ Mods F w w' := by
  rcases ht with ⟨_, rfl, hr, hm⟩ | ⟨_, k, m, mid, st, A, c, _, hst, hm, rfl, hmid, _, hr, hmm⟩
  · exact ⟨none, 0, 0, _, S, rfl, .inl rfl, Nat.zero_le _, rfl, rfl, ⟨hr.more fun b _ e => hF b e, h.hm.trans hm fun _ _ e => e, by have := h.small; omega⟩, hm.mono fun _ _ e => e.elim⟩
  · have hml : m ≤ st.L.length := by omega
    have hH := h.rel.1.held st (List.mem_of_getElem? hst)
    have hh := h.rel.1.h2
    have ht := tot_set (s' := (takeS m st).2) (st := st) (by rw [takeS_ok hml]; unfold sz; dsimp only; rw [List.length_drop]; omega) S k hst
    refine ⟨A, m, c, 0, _, rfl, ?_, by omega, ht, snt_set (m := m) (by rw [takeS_ok hml]) S k hst, ⟨hr.more fun b _ hb => ?_, h.hm.trans hmm fun k hk e => absurd hk (Nat.not_lt.2 (hF k e)), by rw [ht]; have := h.small; omega⟩, hmm⟩
    · rcases Nat.eq_zero_or_pos m with h0 | h0
      · exact .inl h0
      · exact .inr ⟨h0, rfl, by omega⟩
    · rcases hb with hb | hb
      · exact hF b hb
      · have := h.hm.size; omega
theorem kp_turn {W w w' : World} {rb C R H i : Nat} {nw : Bool} {nodes : List Tx} {S : List Stn} {dn dn' : List Tx} (h : KpI W w rb C R H nw nodes i S dn) (hr : RelK w' rb C R H nw (nodesOf nodes) S dn' (Ext (fun b => W.heap.size ≤ b) w.heap.size)) (hm : Mods (fun b => W.heap.size ≤ b) w w') : KpI W w' rb C R H nw nodes (i + 1) S dn' :=
  ⟨hr.more fun b _ hb => by
    rcases hb with hb | hb
    · exact hb
    · have := h.hm.size; omega, h.hm.trans hm fun k hk e => absurd hk (Nat.not_lt.2 e), by have := h.small; omega⟩
end Go.Proofs.YtcifajfmdpjfiaaDoor
