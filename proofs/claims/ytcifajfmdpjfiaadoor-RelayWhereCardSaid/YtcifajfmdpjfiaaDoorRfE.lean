/- The reference's ring: New. -/
import Derived.Test.YtcifajfmdpjfiaaDoorRfD
namespace Go.Proofs.YtcifajfmdpjfiaaDoor
open Go.RowKit Go.Tum Go.Lib Go.Sort
set_option maxRecDepth 100000
/-- What the reference's New tells. -/
def RNewIs (w w' : World) (l : List Tx) (n : Int) (v : Value) : Prop :=
  ∃ (cc : Int) (A B : Option Addr) (na ca nb cb : Nat), v = .tuple #[.agg #[.int .i64 cc, .slice A na ca, .slice B nb cb], .int .i64 (newE l n)] ∧ Mods No w w' ∧
    (newE l n = 0 → cc = n ∧ Own w' (fun g => w.heap.size ≤ g) 9 1 (.slice A na ca) (nodesOf l).length ((nodesOf l).map ks) ∧ Own w' (fun g => w.heap.size ≤ g) 103 2 (.slice B nb cb) (placesOf n.toNat (nodesOf l)).length (plcs (placesOf n.toNat (nodesOf l))))
theorem RNewIs.bad {w w' : World} {l : List Tx} {n e : Int} (he : newE l n = e) (h0 : e ≠ 0) (hm : Mods No w w') : RNewIs w w' l n (.tuple #[.agg #[.int .i64 0, .slice none 0 0, .slice none 0 0], .int .i64 e]) := by
  subst he
  exact ⟨0, none, none, 0, 0, 0, 0, rfl, hm, fun e => absurd e h0⟩
/-- Between two rounds of New's second loop. -/
structure RnI (w wr : World) (r c : Nat) (l : List Tx) (i : Nat) (nv pv : Value) : Prop where
  rf : RfK wr r c nv pv (nodesOf (l.take i)) (placesOf c (nodesOf (l.take i)))
  hn : ∀ g, nv.ownBlock = some g → w.heap.size ≤ g
  hp : ∀ g, pv.ownBlock = some g → w.heap.size ≤ g
  hm : Mods No w wr
  nd : (l.take i).Nodup
  bx : Cells wr w.heap.size 33 #[.int .i64 0, .slice none 0 0, .slice none 0 0]
theorem RnI.next {w wr w3 : World} {r c i : Nat} {l : List Tx} {x : Tx} {nv pv nv' pv' : Value} (h : RnI w wr r c l i nv pv) (hr : w.heap.size < r) (hx : l[i]? = some x) (hn : x ∉ l.take i)
    (h3 : RfK w3 r c nv' pv' (insT (nodesOf (l.take i)) x) (mergeL ltP (placesOf c (nodesOf (l.take i))) (ownL c x))) (h1 : ∀ g, nv'.ownBlock = some g → wr.heap.size ≤ g) (h2 : ∀ g, pv'.ownBlock = some g → wr.heap.size ≤ g) (hm3 : Mods (fun k => k = r) wr w3) : RnI w w3 r c l (i + 1) nv' pv' := by
  have hs := h.hm.size
  refine ⟨?_, fun g hg => Nat.le_trans hs (h1 g hg), fun g hg => Nat.le_trans hs (h2 g hg), h.hm.trans hm3 fun k hk e => absurd hk (by omega), (nodup_next hx).2 ⟨h.nd, hn⟩, h.bx.mods hm3 (by omega)⟩
  have hme := merged (c := c) (N := nodesOf (l.take i)) (s := x)
  rw [nodesOf_next hx, ← hme]
  exact h3
theorem rn_small {c : Nat} (i : Nat) {l : List Tx} (hl : l.length ≤ 64) (hc : c ≤ 128) : (nodesOf (l.take i)).length ≤ 64 ∧ (placesOf c (nodesOf (l.take i))).length ≤ 8192 := by
  have h1 : (nodesOf (l.take i)).length ≤ 64 := by rw [nodesOf_len, List.length_take]; omega
  refine ⟨h1, ?_⟩
  rw [placesOf_len]
  have := Nat.mul_le_mul h1 hc
  omega
theorem rn_start (w : World) (c : Nat) (l : List Tx) : RfK ((w.alloc (.cells #[.int .i64 0, .slice none 0 0, .slice none 0 0] 33)).alloc (.cells #[.int .i64 (c : Int), .slice none 0 0, .slice none 0 0] 33)) (w.heap.size + 1) c (.slice none 0 0) (.slice none 0 0) (nodesOf (l.take 0)) (placesOf c (nodesOf (l.take 0))) := by
  rw [show nodesOf (l.take 0) = [] from rfl, placesOf_nil]
  have h := Cells.new (w.alloc (.cells #[.int .i64 0, .slice none 0 0, .slice none 0 0] 33)) 33 #[.int .i64 (c : Int), .slice none 0 0, .slice none 0 0]
  rw [World.size_alloc] at h
  exact ⟨h, Own.nil _ _ _ _, Own.nil _ _ _ _⟩
set_option maxHeartbeats 6400000 in
theorem rnew_K (w : World) (v : Value) (l : List Tx) (n : Int) (hr : Rd w (fun g => g < w.heap.size) 1 v l.length (l.map ks)) :
    Calls Tryd.prog 29 #[v, .int .i64 n] w (Ret fun v w' => RNewIs w w' l n v) := by
  obtain ⟨A, cp, rfl, hac, hmx⟩ := hr.form
  by_cases h1 : n < 1
  · have h1' : decide (n < 1) = true := decide_eq_true h1
    have He := Lib.hid (newE_copies (l := l) (n := n) (.inl h1))
    have Hhr := Lib.hid hr
    clear hr
    go_enter Tryd.func29, Tryd.ntmps29
    go_wp2_with (first | ((with_reducible refine wp_region_por ?_ ?_ ?_ ?_); kernel_rfl; kernel_rfl; (with_reducible repeat (first | exact calm_ret | refine calm_then ?_ | refine calm_in ?_ | refine calm_chk ?_ | refine calm_noGoto ?_))) | ((with_reducible refine chk_end ?_ ?_); kernel_rfl))
    refine bodyPost_ret (results_pair rfl _ _ w.heap.size 33 _ (0, 0) _ rfl (Cells.new w _ _) Tryd.underlying33 rfl rfl) rfl ?_
    exact RNewIs.bad He.out (by decide) (by repeat (first | exact Mods.refl _ _ | apply Mods.alloc | apply Mods.drew))
  · by_cases h2 : 128 < n
    · have h1' : decide (n < 1) = false := decide_eq_false h1
      have h2' : decide (128 < n) = true := decide_eq_true h2
      have He := Lib.hid (newE_copies (l := l) (n := n) (.inr h2))
      have Hhr := Lib.hid hr
      clear hr
      go_enter Tryd.func29, Tryd.ntmps29
      go_wp2_with (first | ((with_reducible refine wp_region_por ?_ ?_ ?_ ?_); kernel_rfl; kernel_rfl; (with_reducible repeat (first | exact calm_ret | refine calm_then ?_ | refine calm_in ?_ | refine calm_chk ?_ | refine calm_noGoto ?_))) | ((with_reducible refine chk_end ?_ ?_); kernel_rfl))
      refine bodyPost_ret (results_pair rfl _ _ w.heap.size 33 _ (0, 0) _ rfl (Cells.new w _ _) Tryd.underlying33 rfl rfl) rfl ?_
      exact RNewIs.bad He.out (by decide) (by repeat (first | exact Mods.refl _ _ | apply Mods.alloc | apply Mods.drew))
    · have hc : ¬ (n < 1 ∨ 128 < n) := by omega
      obtain ⟨c, rfl⟩ : ∃ c : Nat, n = (c : Int) := ⟨n.toNat, by omega⟩
      have h1' : decide ((c : Int) < 1) = false := decide_eq_false h1
      have h2' : decide (128 < (c : Int)) = false := decide_eq_false h2
      by_cases h3 : 64 < l.length
      · have h3' : decide (64 < (l.length : Int)) = true := decide_eq_true (by omega)
        have He := Lib.hid (newE_nodes hc (.inl h3))
        clear hc
        have Hhr := Lib.hid hr
        clear hr
        go_enter Tryd.func29, Tryd.ntmps29
        go_wp2_with (first | ((with_reducible refine wp_region_por ?_ ?_ ?_ ?_); kernel_rfl; kernel_rfl; (with_reducible repeat (first | exact calm_ret | refine calm_then ?_ | refine calm_in ?_ | refine calm_chk ?_ | refine calm_noGoto ?_))) | ((with_reducible refine chk_end ?_ ?_); kernel_rfl))
        refine bodyPost_ret (results_pair rfl _ _ w.heap.size 33 _ (0, 0) _ rfl (Cells.new w _ _) Tryd.underlying33 rfl rfl) rfl ?_
        exact RNewIs.bad He.out (by decide) (by repeat (first | exact Mods.refl _ _ | apply Mods.alloc | apply Mods.drew))
      · have h3' : decide (64 < (l.length : Int)) = false := decide_eq_false (by omega)
        have HC := Lib.hid hc
        have HL := Lib.hid (show ¬ 64 < l.length from h3)
        clear hc
        have Hhr := Lib.hid hr
        clear hr
        have HB0 := Lib.hid (Cells.new w 33 #[.int .i64 0, .slice none 0 0, .slice none 0 0])
        have hb0 := HB0.out.lt
        go_enter Tryd.func29, Tryd.ntmps29
        go_wp2_with (first | ((with_reducible refine wp_region_por ?_ ?_ ?_ ?_); kernel_rfl; kernel_rfl; (with_reducible repeat (first | exact calm_ret | refine calm_then ?_ | refine calm_in ?_ | refine calm_chk ?_ | refine calm_noGoto ?_))) | ((with_reducible refine chk_end ?_ ?_); kernel_rfl))
        go_loopg [6] l.length (fun k v6 wr => ∃ (i : Nat), v6 = .int .i64 i ∧ i ≤ l.length ∧ k + i = l.length ∧ (∀ x ∈ l.take i, fitB x = true) ∧ wr = w.alloc (.cells #[.int .i64 0, .slice none 0 0, .slice none 0 0] 33))
        case atStart => exact ⟨0, rfl, Nat.zero_le _, rfl, fun x hx => (by simp at hx), rfl⟩
        case round =>
          obtain ⟨i, rfl, hi, hki, hft, rfl⟩ := hrel
          have Hki := Lib.hid hki
          have Hft := Lib.hid hft
          clear hki hft
          rcases Nat.lt_or_ge i l.length with h5 | h5
          · obtain ⟨x, hx⟩ := lt_get h5
            obtain ⟨b1, o1, rfl, _, x0⟩ := (Hhr.out.keep ((Mods.refl No w).alloc (.cells #[.int .i64 0, .slice none 0 0, .slice none 0 0] 33))).tx rfl hx
            have hfk := fit_K (w.alloc (.cells #[.int .i64 0, .slice none 0 0, .slice none 0 0] 33)) x
            cases hf : fitB x with
            | true =>
              rw [hf] at hfk
              have HX := Lib.hid (And.intro hx hf)
              clear hx hf
              have Hhfk := Lib.hid hfk
              clear hfk
              unfold ks at x0 Hhfk
              go_wp2_with (first | (go_at_call 42; (refine ret_use (Hhfk.out) ?_; rintro v w2 ⟨rfl, rfl⟩)) | ((with_reducible refine wp_region_por ?_ ?_ ?_ ?_); kernel_rfl; kernel_rfl; (with_reducible repeat (first | exact calm_ret | refine calm_then ?_ | refine calm_in ?_ | refine calm_chk ?_ | refine calm_noGoto ?_))) | ((with_reducible refine chk_end ?_ ?_); kernel_rfl))
              go_roundg (gk - 1)
              case rel => exact ⟨i + 1, by go_num, h5, by have := Hki.out; omega, fun y hy => by
                rw [take_nx HX.out.1] at hy
                rcases List.mem_append.1 hy with hy | hy
                · exact Hft.out y hy
                · rw [List.mem_singleton.1 hy]; exact HX.out.2, rfl⟩
              case measure => have := Hki.out; omega
            | false =>
              rw [hf] at hfk
              have He := Lib.hid (newE_nodes HC.out (.inr (List.any_eq_true.2 ⟨x, List.mem_of_getElem? hx, by show (!fitB x) = true; rw [hf]; rfl⟩)))
              clear hx hf
              have Hhfk := Lib.hid hfk
              clear hfk
              unfold ks at x0 Hhfk
              go_wp2_with (first | (go_at_call 42; (refine ret_use (Hhfk.out) ?_; rintro v w2 ⟨rfl, rfl⟩)) | ((with_reducible refine wp_region_por ?_ ?_ ?_ ?_); kernel_rfl; kernel_rfl; (with_reducible repeat (first | exact calm_ret | refine calm_then ?_ | refine calm_in ?_ | refine calm_chk ?_ | refine calm_noGoto ?_))) | ((with_reducible refine chk_end ?_ ?_); kernel_rfl))
              refine bodyPost_ret (results_pair rfl _ _ w.heap.size 33 _ (0, 0) _ rfl (Cells.new w _ _) Tryd.underlying33 rfl rfl) rfl ?_
              exact RNewIs.bad He.out (by decide) (by repeat (first | exact Mods.refl _ _ | apply Mods.alloc | apply Mods.drew))
          · obtain rfl : i = l.length := by omega
            have hall : ∀ x ∈ l, fitB x = true := fun x hx => Hft.out x (by rw [List.take_length]; exact hx)
            have hnb : ¬ (64 < l.length ∨ (l.any fun s => !decide (1 ≤ s.length ∧ s.length ≤ 200)) = true) := by
              rw [not_or]
              refine ⟨h3, fun e => ?_⟩
              obtain ⟨x, hx, e⟩ := List.any_eq_true.1 e
              have e2 : (!fitB x) = true := e
              rw [hall x hx] at e2
              cases e2
            have HAll := Lib.hid hall
            have HNB := Lib.hid hnb
            clear hall hnb Hft
            go_wp2_with (first | ((with_reducible refine wp_region_por ?_ ?_ ?_ ?_); kernel_rfl; kernel_rfl; (with_reducible repeat (first | exact calm_ret | refine calm_then ?_ | refine calm_in ?_ | refine calm_chk ?_ | refine calm_noGoto ?_))) | ((with_reducible refine chk_end ?_ ?_); kernel_rfl))
            go_loopg [8] l.length (fun k v8 wr => ∃ (i : Nat) (nv pv : Value), v8 = .int .i64 i ∧ i ≤ l.length ∧ k + i = l.length ∧ RnI w wr (w.heap.size + 1) c l i nv pv)
            case atStart => exact ⟨0, .slice none 0 0, .slice none 0 0, rfl, Nat.zero_le _, rfl, rn_start w c l, fun g hg => (by cases hg), fun g hg => (by cases hg), ((Mods.refl No w).alloc _).alloc _, List.nodup_nil, HB0.out.alloc _⟩
            case round =>
              obtain ⟨i, nv, pv, rfl, hi, hki, hin⟩ := hrel
              have Hin := Lib.hid hin
              have Hki := Lib.hid hki
              clear hin hki
              have rl := Hin.out.rf.cells.lt
              rcases Nat.lt_or_ge i l.length with h5 | h5
              · obtain ⟨x, hx⟩ := lt_get h5
                have hrk := Hhr.out.keep Hin.out.hm
                have hil : (l.take i).length = i := by rw [List.length_take]; omega
                have hxf := HAll.out x (List.mem_of_getElem? hx)
                have hxl : x.length ≤ 200 := (of_decide_eq_true (show decide (1 ≤ x.length ∧ x.length ≤ 200) = true from hxf)).2
                have hha := fun w' (hm' : Mods No wr w') => has_K w' (fun g => g < w'.heap.size) (.slice A i cp) (l.take i) x (by
                  have h7 := (hrk.keep hm').take (l := i) (by omega)
                  rw [Nat.mul_one, ← List.map_take] at h7
                  rw [hil]; exact h7)
                have hsm := rn_small (c := c) i (l := l) (by omega) (by omega)
                obtain ⟨b1, o1, rfl, _, x0⟩ := hrk.tx rfl hx
                by_cases hm : x ∈ l.take i
                · have He := Lib.hid (newE_there HC.out HNB.out hx hm)
                  rw [decide_eq_true hm] at hha
                  have g0 := Hin.out.bx.at_ 0 rfl
                  have g1 := Hin.out.bx.at_ 1 rfl
                  have g2 := Hin.out.bx.at_ 2 rfl
                  have f0 := Hin.out.bx.frozen 0
                  have f1 := Hin.out.bx.frozen 1
                  have f2 := Hin.out.bx.frozen 2
                  have fl := Hin.out.bx.lt
                  clear hm hx hrk hil hxf hsm
                  have Hhha := Lib.hid hha
                  clear hha
                  unfold ks at x0 Hhha
                  go_wp2_with (first | (go_at_call 43; (refine ret_use (Hhha.out _ (Mods.refl No wr).drew) ?_; rintro v w2 ⟨rfl, rfl⟩)) | ((with_reducible refine wp_region_por ?_ ?_ ?_ ?_); kernel_rfl; kernel_rfl; (with_reducible repeat (first | exact calm_ret | refine calm_then ?_ | refine calm_in ?_ | refine calm_chk ?_ | refine calm_noGoto ?_))) | ((with_reducible refine chk_end ?_ ?_); kernel_rfl))
                  refine bodyPost_ret (results_pair rfl _ _ w.heap.size 33 _ (0, 0) _ rfl (((Hin.out.bx.set_ 0 _).set_ 1 _).set_ 2 _) Tryd.underlying33 rfl rfl) rfl ?_
                  exact RNewIs.bad He.out (by decide) (((Hin.out.hm.setCell _ _ fun h => absurd h (Nat.lt_irrefl _)).setCell _ _ fun h => absurd h (Nat.lt_irrefl _)).setCell _ _ fun h => absurd h (Nat.lt_irrefl _)).drew
                · rw [decide_eq_false hm] at hha
                  have hpu := fun w' h => put_K w' (w.heap.size + 1) c nv pv (nodesOf (l.take i)) (placesOf c (nodesOf (l.take i))) x h hsm.1 (by omega) hsm.2 hxl
                  have HX := Lib.hid (And.intro hx hm)
                  clear hm hx hrk hil hxf hsm
                  have Hhha := Lib.hid hha
                  clear hha
                  have Hhpu := Lib.hid hpu
                  clear hpu
                  unfold ks at x0 Hhha Hhpu
                  go_wp2_with (first | (go_at_call 43; (refine ret_use (Hhha.out _ (Mods.refl No wr).drew) ?_; rintro v w2 ⟨rfl, rfl⟩)) | (go_at_call 44; (refine ret_use (Hhpu.out wr.drew (Hin.out.rf.no (Mods.refl No wr).drew)) ?_; rintro v w3 ⟨⟨nv3, pv3, h3, hn3, hp3⟩, hm3⟩; have HN3 := Lib.hid (Hin.out.next (Nat.lt_succ_self _) HX.out.1 HX.out.2 h3 hn3 hp3 ((Mods.refl (fun k => k = w.heap.size + 1) wr).drew.trans hm3 fun _ _ e => e)); clear h3 hn3 hp3 hm3)) | ((with_reducible refine wp_region_por ?_ ?_ ?_ ?_); kernel_rfl; kernel_rfl; (with_reducible repeat (first | exact calm_ret | refine calm_then ?_ | refine calm_in ?_ | refine calm_chk ?_ | refine calm_noGoto ?_))) | ((with_reducible refine chk_end ?_ ?_); kernel_rfl))
                  go_roundg (gk - 1)
                  case rel => exact ⟨i + 1, nv3, pv3, by go_num, h5, by have := Hki.out; omega, HN3.out⟩
                  case measure => have := Hki.out; omega
              · obtain rfl : i = l.length := by omega
                have hrf := Hin.out.rf
                rw [show l.take l.length = l from List.take_length] at hrf
                obtain ⟨A1, c1, rfl, _, _⟩ := hrf.nown.form
                obtain ⟨A2, c2, rfl, _, _⟩ := hrf.pown.form
                have k0 := hrf.cells.at_ 0 rfl
                have k1 := hrf.cells.at_ 1 rfl
                have k2 := hrf.cells.at_ 2 rfl
                have g0 := Hin.out.bx.at_ 0 rfl
                have g1 := Hin.out.bx.at_ 1 rfl
                have g2 := Hin.out.bx.at_ 2 rfl
                have f0 := Hin.out.bx.frozen 0
                have f1 := Hin.out.bx.frozen 1
                have f2 := Hin.out.bx.frozen 2
                have fl := Hin.out.bx.lt
                clear hrf
                go_wp2_with (first | ((with_reducible refine wp_region_por ?_ ?_ ?_ ?_); kernel_rfl; kernel_rfl; (with_reducible repeat (first | exact calm_ret | refine calm_then ?_ | refine calm_in ?_ | refine calm_chk ?_ | refine calm_noGoto ?_))) | ((with_reducible refine chk_end ?_ ?_); kernel_rfl))
                refine bodyPost_ret (results_pair rfl _ _ w.heap.size 33 _ (0, 0) _ rfl (((Hin.out.bx.set_ 0 _).set_ 1 _).set_ 2 _) Tryd.underlying33 rfl rfl) rfl ?_
                have hto : l.take l.length = l := List.take_length
                have hin := Hin.out
                obtain ⟨hrf, hn1, hp1, hmm, hnd, _⟩ := hin
                rw [hto] at hnd hrf
                have he := newE_ok HC.out HNB.out hnd
                have hmm' := ((hmm.setCell ⟨w.heap.size, 0, none⟩ (.int .i64 (c : Int)) fun h => absurd h (Nat.lt_irrefl _)).setCell ⟨w.heap.size, 1, none⟩ (.slice A1 (nodesOf l).length c1) fun h => absurd h (Nat.lt_irrefl _)).setCell ⟨w.heap.size, 2, none⟩ (.slice A2 (placesOf c (nodesOf l)).length c2) fun h => absurd h (Nat.lt_irrefl _)
                refine ⟨_, _, _, _, _, _, _, by rw [he]; rfl, hmm', fun _ => ⟨rfl, ?_, ?_⟩⟩
                · have hne : (Value.slice A1 (nodesOf l).length c1).ownBlock ≠ some w.heap.size := hrf.nown.ne_cells Hin.out.bx (by decide)
                  have ho := ((hrf.nown.far (p := ⟨w.heap.size, 0, none⟩) hne (.int .i64 (c : Int))).far (p := ⟨w.heap.size, 1, none⟩) hne (.slice A1 (nodesOf l).length c1)).far (p := ⟨w.heap.size, 2, none⟩) hne (.slice A2 (placesOf c (nodesOf l)).length c2)
                  exact ⟨ho.1, hn1⟩
                · have hne : (Value.slice A2 (placesOf c (nodesOf l)).length c2).ownBlock ≠ some w.heap.size := hrf.pown.ne_cells Hin.out.bx (by decide)
                  have ho := ((hrf.pown.far (p := ⟨w.heap.size, 0, none⟩) hne (.int .i64 (c : Int))).far (p := ⟨w.heap.size, 1, none⟩) hne (.slice A1 (nodesOf l).length c1)).far (p := ⟨w.heap.size, 2, none⟩) hne (.slice A2 (placesOf c (nodesOf l)).length c2)
                  exact ⟨ho.1, hp1⟩
end Go.Proofs.YtcifajfmdpjfiaaDoor
