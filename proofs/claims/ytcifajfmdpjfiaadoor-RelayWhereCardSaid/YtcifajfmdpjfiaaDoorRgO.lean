/- Ring.Get, New. -/
import Derived.Test.YtcifajfmdpjfiaaDoorRgN
import Derived.Test.YtcifajfmdpjfiaaDoorMPl
namespace Go.Proofs.YtcifajfmdpjfiaaDoor
open Go.RowKit Go.Tum Go.Lib Go.Sort
set_option maxRecDepth 100000
/-- What New tells. -/
def NewIs (w w' : World) (l : List Tx) (n : Int) (v : Value) : Prop :=
  ∃ p, v = .tuple #[.pointer p, .int .i64 (newE l n)] ∧ Mods No w w' ∧ (newE l n ≠ 0 → p = none) ∧ (newE l n = 0 → ∃ q, p = some ⟨q, 0, none⟩ ∧ RingK w' q n.toNat (nodesOf l) (fun g => w.heap.size ≤ g))
theorem NewIs.bad {w w' : World} {l : List Tx} {n e : Int} (he : newE l n = e) (h0 : e ≠ 0) (hm : Mods No w w') : NewIs w w' l n (.tuple #[.pointer none, .int .i64 e]) := by
  subst he
  exact ⟨none, rfl, hm, fun _ => rfl, fun e => absurd e h0⟩
structure NwI (w wr : World) (q c : Nat) (l : List Tx) (i : Nat) : Prop where
  rg : RingK wr q c (nodesOf (l.take i)) (fun g => w.heap.size ≤ g)
  hm : Mods No w wr
  nd : (l.take i).Nodup
theorem NwI.start {w w2 : World} (hm : Mods No w w2) (ht : Tab w) {c : Nat} (h1 : 1 ≤ c) (h2 : c ≤ 128) (l : List Tx) : NwI w (w2.alloc (.cells #[.int .i64 (c : Int), .slice none 0 0, .slice none 0 0] 97)) w2.heap.size c l 0 :=
  ⟨⟨⟨List.Pairwise.nil, fun s hs => (List.not_mem_nil hs).elim, Nat.zero_le _, h1, h2⟩, .slice none 0 0, .slice none 0 0, Cells.new _ _ _, Own.nil _ _ _ _, by
    rw [show nodesOf (l.take 0) = [] from rfl, placesOf_nil]; exact Own.nil _ _ _ _, hm.size, Nat.not_le_of_lt ht.lt⟩, hm.alloc _, List.nodup_nil⟩
theorem NwI.next {w wr w3 : World} {q c i : Nat} {l : List Tx} {x : Tx} (h : NwI w wr q c l i) (ht : Tab w) (hx : l[i]? = some x) (hn : x ∉ l.take i)
    (h3 : RingK w3 q c (insT (nodesOf (l.take i)) x) (Ext (fun g => w.heap.size ≤ g) wr.heap.size)) (hm3 : Mods (fun g => w.heap.size ≤ g) wr w3) : NwI w w3 q c l (i + 1) := by
  refine ⟨?_, h.hm.trans hm3 fun k hk e => absurd hk (Nat.not_lt.2 e), (nodup_next hx).2 ⟨h.nd, hn⟩⟩
  rw [nodesOf_next hx]
  exact h3.more (fun g hg => by
    rcases hg with e | e
    · exact e
    · exact Nat.le_trans h.hm.size e) (Nat.not_le_of_lt ht.lt)
set_option maxHeartbeats 3200000 in
theorem new_K (w : World) (v : Value) (l : List Tx) (n : Int) (hr : Rd w (fun g => g < w.heap.size) 1 v l.length (l.map ks)) (ht : Tab w) :
    Calls Tryd.prog 27 #[v, .int .i64 n] w (Ret fun v w' => NewIs w w' l n v) := by
  obtain ⟨A, cp, rfl, hac, hmx⟩ := hr.form
  by_cases h1 : n < 1
  · have h1' : decide (n < 1) = true := decide_eq_true h1
    have He := Lib.hid (newE_copies (l := l) (n := n) (.inl h1))
    have Hhr := Lib.hid hr
    clear hr
    have Hht := Lib.hid ht
    clear ht
    go_enter Tryd.func27, Tryd.ntmps27
    go_wp2_with (first | ((with_reducible refine wp_region_por ?_ ?_ ?_ ?_); kernel_rfl; kernel_rfl; (with_reducible repeat (first | exact calm_ret | refine calm_then ?_ | refine calm_in ?_ | refine calm_chk ?_ | refine calm_noGoto ?_))) | ((with_reducible refine chk_end ?_ ?_); kernel_rfl))
    go_ret2
    exact NewIs.bad He.out (by decide) (by repeat (first | exact Mods.refl _ _ | apply Mods.alloc | apply Mods.drew))
  · by_cases h2 : 128 < n
    · have h1' : decide (n < 1) = false := decide_eq_false h1
      have h2' : decide (128 < n) = true := decide_eq_true h2
      have He := Lib.hid (newE_copies (l := l) (n := n) (.inr h2))
      have Hhr := Lib.hid hr
      clear hr
      have Hht := Lib.hid ht
      clear ht
      go_enter Tryd.func27, Tryd.ntmps27
      go_wp2_with (first | ((with_reducible refine wp_region_por ?_ ?_ ?_ ?_); kernel_rfl; kernel_rfl; (with_reducible repeat (first | exact calm_ret | refine calm_then ?_ | refine calm_in ?_ | refine calm_chk ?_ | refine calm_noGoto ?_))) | ((with_reducible refine chk_end ?_ ?_); kernel_rfl))
      go_ret2
      exact NewIs.bad He.out (by decide) (by repeat (first | exact Mods.refl _ _ | apply Mods.alloc | apply Mods.drew))
    · have hc : ¬ (n < 1 ∨ 128 < n) := by omega
      obtain ⟨c, rfl⟩ : ∃ c : Nat, n = (c : Int) := ⟨n.toNat, by omega⟩
      have h1' : decide ((c : Int) < 1) = false := decide_eq_false h1
      have h2' : decide (128 < (c : Int)) = false := decide_eq_false h2
      by_cases h3 : 64 < l.length
      · have h3' : decide (64 < (l.length : Int)) = true := decide_eq_true (by omega)
        have He := Lib.hid (newE_nodes hc (.inl h3))
        clear hc
        have Hhr := Lib.hid hr
        clear hr
        have Hht := Lib.hid ht
        clear ht
        go_enter Tryd.func27, Tryd.ntmps27
        go_wp2_with (first | ((with_reducible refine wp_region_por ?_ ?_ ?_ ?_); kernel_rfl; kernel_rfl; (with_reducible repeat (first | exact calm_ret | refine calm_then ?_ | refine calm_in ?_ | refine calm_chk ?_ | refine calm_noGoto ?_))) | ((with_reducible refine chk_end ?_ ?_); kernel_rfl))
        go_ret2
        exact NewIs.bad He.out (by decide) (by repeat (first | exact Mods.refl _ _ | apply Mods.alloc | apply Mods.drew))
      · have h3' : decide (64 < (l.length : Int)) = false := decide_eq_false (by omega)
        have hcf := containsF_K w _ _ l hr (fun g hg => hg) (by omega)
        cases h4 : (l.any fun s => !fitB s) with
        | true =>
          have He := Lib.hid (newE_nodes hc (.inr h4))
          rw [h4] at hcf
          clear hc h4
          have Hhr := Lib.hid hr
          clear hr
          have Hht := Lib.hid ht
          clear ht
          have Hhcf := Lib.hid hcf
          clear hcf
          go_enter Tryd.func27, Tryd.ntmps27
          go_wp2_with (first | (go_at_call 37; (refine ret_use (Hhcf.out) ?_; rintro v w2 ⟨rfl, hm2⟩; have HM2 := Lib.hid hm2; clear hm2)) | ((with_reducible refine wp_region_por ?_ ?_ ?_ ?_); kernel_rfl; kernel_rfl; (with_reducible repeat (first | exact calm_ret | refine calm_then ?_ | refine calm_in ?_ | refine calm_chk ?_ | refine calm_noGoto ?_))) | ((with_reducible refine chk_end ?_ ?_); kernel_rfl))
          go_ret2
          exact NewIs.bad He.out (by decide) HM2.out
        | false =>
          have hnb : ¬ (64 < l.length ∨ (l.any fun s => !decide (1 ≤ s.length ∧ s.length ≤ 200)) = true) := by
            rw [not_or]; exact ⟨h3, by rw [Bool.not_eq_true]; exact h4⟩
          rw [h4] at hcf
          have HB := Lib.hid (And.intro hc hnb)
          clear hc h4 hnb
          have Hhr := Lib.hid hr
          clear hr
          have Hht := Lib.hid ht
          clear ht
          have Hhcf := Lib.hid hcf
          clear hcf
          go_enter Tryd.func27, Tryd.ntmps27
          go_wp2_with (first | (go_at_call 37; (refine ret_use (Hhcf.out) ?_; rintro v w2 ⟨rfl, hm2⟩; have HM2 := Lib.hid hm2; clear hm2)) | ((with_reducible refine wp_region_por ?_ ?_ ?_ ?_); kernel_rfl; kernel_rfl; (with_reducible repeat (first | exact calm_ret | refine calm_then ?_ | refine calm_in ?_ | refine calm_chk ?_ | refine calm_noGoto ?_))) | ((with_reducible refine chk_end ?_ ?_); kernel_rfl))
          have HN0 := Lib.hid (NwI.start HM2.out Hht.out (c := c) (by omega) (by omega) l)
          go_loopg [28] l.length (fun k v28 wr => ∃ (i : Nat), v28 = .int .i64 i ∧ i ≤ l.length ∧ k + i = l.length ∧ NwI w wr w2.heap.size c l i)
          case atStart => exact ⟨0, rfl, Nat.zero_le _, rfl, HN0.out⟩
          case round =>
            obtain ⟨i, rfl, hi, hki, hin⟩ := hrel
            have Hin := Lib.hid hin
            have Hki := Lib.hid hki
            clear hin hki
            rcases Nat.lt_or_ge i l.length with h5 | h5
            · obtain ⟨x, hx⟩ := lt_get h5
              obtain ⟨b1, o1, rfl, _, x0⟩ := (Hhr.out.same (Hin.out.hm.same fun k hk => ⟨hk, fun e => e⟩)).tx rfl hx
              have hft : fitB x = true := by
                cases hf : fitB x with
                | true => rfl
                | false => exact absurd (.inr (List.any_eq_true.2 ⟨x, List.mem_of_getElem? hx, by show (!fitB x) = true; rw [hf]; rfl⟩)) HB.out.2
              have hxl : x.length ≤ 200 := (of_decide_eq_true (show decide (1 ≤ x.length ∧ x.length ≤ 200) = true from hft)).2
              have hnl : (nodesOf (l.take i)).length < 64 := by rw [nodesOf_len, List.length_take]; omega
              have had := add_K wr w2.heap.size c (nodesOf (l.take i)) x _ Hin.out.rg (Hht.out.no Hin.out.hm) (by omega)
              by_cases hm : x ∈ l.take i
              · have He := Lib.hid (newE_there HB.out.1 HB.out.2 hx hm)
                rw [addV_there hft ((nodesOf_mem _ _).2 hm) hnl] at had
                clear hm hft hx hnl
                have Hhad := Lib.hid had
                clear had
                unfold ks at x0 Hhad
                go_wp2_with (first | (go_at_call 40; (refine ret_use (Hhad.out) ?_; rintro v w3 ⟨rfl, _, hm3⟩; have HM3 := Lib.hid hm3; clear hm3)) | ((with_reducible refine wp_region_por ?_ ?_ ?_ ?_); kernel_rfl; kernel_rfl; (with_reducible repeat (first | exact calm_ret | refine calm_then ?_ | refine calm_in ?_ | refine calm_chk ?_ | refine calm_noGoto ?_))) | ((with_reducible refine chk_end ?_ ?_); kernel_rfl))
                go_ret2
                exact NewIs.bad He.out (by decide) (Hin.out.hm.trans HM3.out fun k hk e => absurd hk (Nat.not_lt.2 e))
              · rw [addV_new hft (fun e => hm ((nodesOf_mem _ _).1 e)) hnl] at had
                have HX := Lib.hid (And.intro hx hm)
                clear hm hft hx hnl
                have Hhad := Lib.hid had
                clear had
                unfold ks at x0 Hhad
                go_wp2_with (first | (go_at_call 40; (refine ret_use (Hhad.out) ?_; rintro v w3 ⟨rfl, hr3, hm3⟩; have HN3 := Lib.hid (Hin.out.next Hht.out HX.out.1 HX.out.2 hr3 hm3); clear hm3 hr3)) | ((with_reducible refine wp_region_por ?_ ?_ ?_ ?_); kernel_rfl; kernel_rfl; (with_reducible repeat (first | exact calm_ret | refine calm_then ?_ | refine calm_in ?_ | refine calm_chk ?_ | refine calm_noGoto ?_))) | ((with_reducible refine chk_end ?_ ?_); kernel_rfl))
                go_roundg (gk - 1)
                case rel => exact ⟨i + 1, by go_num, h5, by have := Hki.out; omega, HN3.out⟩
                case measure => have := Hki.out; omega
            · obtain rfl : i = l.length := by omega
              go_wp2_with (first | ((with_reducible refine wp_region_por ?_ ?_ ?_ ?_); kernel_rfl; kernel_rfl; (with_reducible repeat (first | exact calm_ret | refine calm_then ?_ | refine calm_in ?_ | refine calm_chk ?_ | refine calm_noGoto ?_))) | ((with_reducible refine chk_end ?_ ?_); kernel_rfl))
              go_ret2
              have hto : l.take l.length = l := List.take_length
              have hnd := Hin.out.nd
              have hrg := Hin.out.rg
              rw [hto] at hnd hrg
              have he := newE_ok HB.out.1 HB.out.2 hnd
              exact ⟨_, by rw [he]; rfl, Hin.out.hm, fun e => absurd he e, fun _ => ⟨_, rfl, hrg⟩⟩
end Go.Proofs.YtcifajfmdpjfiaaDoor
