/- container/heap over the pile. -/
import Derived.Test.YtmfpgghpnkmkpaaDueE
import Derived.Deep.LoopGhost
namespace Go.Proofs.Ytmfpgghpnkmkpaa
open Go.RowKit Go.Tum
set_option maxRecDepth 100000
theorem QK.mods {w w' : World} {q gm n : Nat} {lim : Int} {v : Value} {d : Nat → Ent} {F S : Nat → Prop} (h : QK w q lim v gm d n F) (hM : Mods S w w') (hS : ∀ g, g < w.heap.size → F g → ¬ S g) : QK w' q lim v gm d n F :=
  (h.tight.same (w' := w') fun k hk => hM.block k hk.2 (hS k hk.2 hk.1)).more fun _ e => e.1
theorem QueueK.mods {w w' : World} {q n : Nat} {lim : Int} {d : Nat → Ent} {F S : Nat → Prop} (h : QueueK w q lim d n F) (hM : Mods S w w') (hS : ∀ g, g < w.heap.size → F g → ¬ S g) : QueueK w' q lim d n F := by
  obtain ⟨v, gm, h⟩ := h
  exact ⟨v, gm, h.mods hM hS⟩
theorem QueueK.no {w w' : World} {q n : Nat} {lim : Int} {d : Nat → Ent} {F : Nat → Prop} (h : QueueK w q lim d n F) (hM : Mods No w w') : QueueK w' q lim d n F := h.mods hM fun _ _ _ e => e
theorem QueueK.small {w : World} {q n : Nat} {lim : Int} {d : Nat → Ent} {F : Nat → Prop} (h : QueueK w q lim d n F) : n ≤ 65536 := by obtain ⟨_, _, h⟩ := h; exact h.small
theorem no_sub {F : Nat → Prop} {w : World} : ∀ k, k < w.heap.size → No k → F k := fun _ _ e => e.elim
theorem less_Q (w : World) (q : Nat) (lim : Int) (d : Nat → Ent) (n i j : Nat) (F : Nat → Prop) (h : QueueK w q lim d n F) (hi : i < n) (hj : j < n) (b : Bool) (hb : before (d i) (d j) = b) :
    Calls Try.prog 81 #[.pointer (some ⟨q, 1, none⟩), .int .i64 i, .int .i64 j] w (Ret fun v w' => v = .bool b ∧ Mods No w w') := by
  obtain ⟨v, gm, h⟩ := h
  obtain ⟨g, c, rfl, _, _, hx⟩ := h.own.cells (by omega)
  subst hb
  refine less_K w q g c n i j d (h.cells.at_ 1 rfl) (fun k hk => ?_) hi hj
  rw [(hx (k * 2) (by omega)).1, (hx (k * 2 + 1) (by omega)).1]
  exact ents_at d hk
theorem len_Q (w : World) (q : Nat) (lim : Int) (d : Nat → Ent) (n : Nat) (F : Nat → Prop) (h : QueueK w q lim d n F) :
    Calls Try.prog 80 #[.pointer (some ⟨q, 1, none⟩)] w (Ret fun v w' => v = .int .i64 n ∧ w = w') := by
  obtain ⟨v, gm, h⟩ := h
  obtain ⟨A, c, rfl, _⟩ := h.own.form
  exact len_K w q n c A (h.cells.at_ 1 rfl)
theorem up_fuel {α : Type} (lt : α → α → Bool) : ∀ (m f : Nat) (d : Nat → α) (j : Nat), f ≤ m → j < f → up lt f d j = up lt (j + 1) d j
  | 0, f, d, j, h1, h2 => by omega
  | m + 1, f, d, j, h1, h2 => by
    obtain ⟨f, rfl⟩ : ∃ g, f = g + 1 := ⟨f - 1, by omega⟩
    unfold up
    by_cases hs : par j = j ∨ lt (d j) (d (par j)) = false
    · rw [if_pos hs, if_pos hs]
    · rw [if_neg hs, if_neg hs]
      have hj : 0 < j := by
        rcases Nat.eq_zero_or_pos j with e | e
        · exact absurd (.inl (by rw [e]; rfl)) hs
        · exact e
      have hp := par_lt hj
      rw [up_fuel lt m f _ (par j) (by omega) (by omega), up_fuel lt m j _ (par j) (by omega) hp]
def UpInv (w : World) (q : Nat) (lim : Int) (n : Nat) (F : Nat → Prop) (R : Nat → Ent) (k : Nat) (v1 : Value) (wr : World) : Prop :=
  ∃ (i : Nat) (e : Nat → Ent), k = i + 1 ∧ v1 = .int .i64 i ∧ i < n ∧ R = up before (i + 1) e i ∧ QueueK wr q lim e n F ∧ Mods F w wr
set_option maxHeartbeats 1600000 in
theorem up_K (w : World) (q : Nat) (lim : Int) (d : Nat → Ent) (n j : Nat) (F : Nat → Prop) (h : QueueK w q lim d n F) (hj : j < n) :
    Calls Try.prog 40 #[.iface 65 (.pointer (some ⟨q, 1, none⟩)), .int .i64 j] w (Ret fun _ w' => QueueK w' q lim (up before (j + 1) d j) n F ∧ Mods F w w') := by
  have m1 := meth_less
  have m2 := meth_swap
  obtain ⟨R, hR⟩ : ∃ R, R = up before (j + 1) d j := ⟨_, rfl⟩
  have hs : n ≤ 65536 := by obtain ⟨_, _, h⟩ := h; exact h.small
  rw [← hR]
  have Hh := Lib.hid h
  clear h
  have HhR := Lib.hid hR
  clear hR
  go_enter Try.func40, Try.ntmps40
  go_wp2
  go_loopg [1, 4] (j + 1) (fun k v1 v4 wr => UpInv w q lim n F R k v1 wr)
  case atStart => exact ⟨j, d, rfl, rfl, hj, HhR.out, Hh.out, Mods.refl _ _⟩
  case round =>
    obtain ⟨i, e, hk, rfl, hi, hRe, hq, hm⟩ := hrel
    have Hhk := Lib.hid hk
    clear hk
    have HhRe := Lib.hid hRe
    clear hRe
    have Hhm := Lib.hid hm
    clear hm
    have Hhq := Lib.hid hq
    clear hq
    rcases Nat.eq_zero_or_pos i with hz | hz
    · subst hz
      go_wp2_with (first | ((with_reducible refine wp_region_por ?_ ?_ ?_ ?_); kernel_rfl; kernel_rfl; (with_reducible repeat (first | exact calm_ret | refine calm_then ?_ | refine calm_in ?_ | refine calm_chk ?_ | refine calm_noGoto ?_))) | ((with_reducible refine chk_end ?_ ?_); kernel_rfl))
      go_end0
      have hR := HhRe.out
      unfold up at hR
      rw [if_pos (.inl rfl)] at hR
      rw [hR]
      exact ⟨Hhq.out, Hhm.out⟩
    · obtain ⟨p, hp⟩ : ∃ p, p = par i := ⟨_, rfl⟩
      have hpi : p < i := hp ▸ par_lt hz
      have hd : ((i : Int) - 1) / 2 = (p : Int) := by unfold par at hp; omega
      have hne : ((p : Int) == (i : Int)) = false := by simp; omega
      have Hhp := Lib.hid hp
      clear hp
      cases hb : before (e i) (e p) with
      | false =>
        have Hhb := Lib.hid hb
        clear hb
        go_wp2_with (first | (go_at_call 81; (refine ret_use (less_Q _ q lim e n i p F Hhq.out hi (by omega) false Hhb.out) ?_; rintro v w2 ⟨rfl, hm2⟩; have HM2 := Lib.hid hm2; clear hm2)) | ((with_reducible refine wp_region_por ?_ ?_ ?_ ?_); kernel_rfl; kernel_rfl; (with_reducible repeat (first | exact calm_ret | refine calm_then ?_ | refine calm_in ?_ | refine calm_chk ?_ | refine calm_noGoto ?_))) | ((with_reducible refine chk_end ?_ ?_); kernel_rfl))
        go_end0
        have hR := HhRe.out
        unfold up at hR
        rw [if_pos (.inr (by rw [← Hhp.out]; exact Hhb.out))] at hR
        rw [hR]
        exact ⟨Hhq.out.no HM2.out, Hhm.out.trans HM2.out no_sub⟩
      | true =>
        have Hhb := Lib.hid hb
        clear hb
        go_wp2_with (first | (go_at_call 81; (refine ret_use (less_Q _ q lim e n i p F Hhq.out hi (by omega) true Hhb.out) ?_; rintro v w2 ⟨rfl, hm2⟩; have HM2 := Lib.hid hm2; clear hm2)) | (go_at_call 84; (refine ret_use (swap_K _ q lim e n p i F (Hhq.out.no HM2.out) (by omega) hi) ?_; rintro v w3 ⟨hq3, hm3⟩; have HQ3 := Lib.hid hq3; have HM3 := Lib.hid hm3; clear hq3 hm3)) | ((with_reducible refine wp_region_por ?_ ?_ ?_ ?_); kernel_rfl; kernel_rfl; (with_reducible repeat (first | exact calm_ret | refine calm_then ?_ | refine calm_in ?_ | refine calm_chk ?_ | refine calm_noGoto ?_))) | ((with_reducible refine chk_end ?_ ?_); kernel_rfl))
        go_roundg (p + 1)
        case rel =>
          refine ⟨p, sw e p i, rfl, rfl, by omega, ?_, HQ3.out, (Hhm.out.trans HM2.out no_sub).trans HM3.out fun _ _ e => e⟩
          have hR := HhRe.out
          have hp2 := Hhp.out
          unfold up at hR
          rw [if_neg (by rintro (e1 | e1); (· omega); (· rw [← hp2] at e1; rw [Hhb.out] at e1; cases e1)), ← hp2, up_fuel before i i _ p (Nat.le_refl _) hpi] at hR
          exact hR
        case measure => have := Hhk.out; omega
theorem less_Z {w : World} {q : Nat} {lim : Int} {d : Nat → Ent} {n : Nat} {F : Nat → Prop} (h : QueueK w q lim d n F) (i j : Nat) (hi : i < n) (hj : j < n) {b : Bool} (hb : before (d i) (d j) = b) {x y : Int} (hx : x = i) (hy : y = j) :
    Calls Try.prog 81 #[.pointer (some ⟨q, 1, none⟩), .int .i64 x, .int .i64 y] w (Ret fun v w' => v = .bool b ∧ Mods No w w') := by
  subst hx hy
  exact less_Q w q lim d n i j F h hi hj b hb
theorem swap_Z {w : World} {q : Nat} {lim : Int} {d : Nat → Ent} {n : Nat} {F : Nat → Prop} (h : QueueK w q lim d n F) (i j : Nat) (hi : i < n) (hj : j < n) {x y : Int} (hx : x = i) (hy : y = j) :
    Calls Try.prog 84 #[.pointer (some ⟨q, 1, none⟩), .int .i64 x, .int .i64 y] w (Ret fun _ w' => QueueK w' q lim (sw d i j) n F ∧ Mods F w w') := by
  subst hx hy
  exact swap_K w q lim d n i j F h hi hj
structure DnInv (w : World) (q : Nat) (lim : Int) (N n i0 : Nat) (F : Nat → Prop) (R : (Nat → Ent) × Nat) (k : Nat) (v7 : Value) (wr : World) (i f : Nat) (e : Nat → Ent) : Prop where
  hk : k = f + 1
  v : v7 = .int .i64 i
  lo : i0 ≤ i
  hi : i < N
  go : R = down before (f + 1) e n i
  fuel : n ≤ i + f
  q : QueueK wr q lim e N F
  m : Mods F w wr
set_option maxHeartbeats 3200000 in
theorem down_K (w : World) (q : Nat) (lim : Int) (d : Nat → Ent) (N n i0 : Nat) (F : Nat → Prop) (h : QueueK w q lim d N F) (hn : n ≤ N) (hi : i0 < N) :
    Calls Try.prog 39 #[.iface 65 (.pointer (some ⟨q, 1, none⟩)), .int .i64 i0, .int .i64 n] w (Ret fun v w' => v = .bool (decide (i0 < (down before (n + 1) d n i0).2)) ∧ QueueK w' q lim (down before (n + 1) d n i0).1 N F ∧ Mods F w w') := by
  have m1 := meth_less
  have m2 := meth_swap
  obtain ⟨R, hR⟩ : ∃ R, R = down before (n + 1) d n i0 := ⟨_, rfl⟩
  have hs := h.small
  rw [← hR]
  have Hh := Lib.hid h
  clear h
  have HhR := Lib.hid hR
  clear hR
  go_enter Try.func39, Try.ntmps39
  go_wp2
  go_loopg [7, 8, 9, 10] (n + 1) (fun k v7 v8 v9 v10 wr => ∃ i f e, DnInv w q lim N n i0 F R k v7 wr i f e)
  case atStart => exact ⟨i0, n, d, rfl, rfl, Nat.le_refl _, hi, HhR.out, by omega, Hh.out, Mods.refl _ _⟩
  case round =>
    obtain ⟨i, f, e, hin⟩ := hrel
    obtain rfl := hin.v
    have hiN := hin.hi
    have Hin := Lib.hid hin
    clear hin
    rcases Nat.lt_or_ge (2 * i + 1) n with h1 | h1
    · have h1' : ¬ (n : Int) ≤ 2 * (i : Int) + 1 := by omega
      have h0' : ¬ 2 * (i : Int) + 1 < 0 := by omega
      rcases Nat.lt_or_ge (2 * i + 2) n with h2 | h2
      · have h2' : decide (2 * (i : Int) + 1 + 1 < (n : Int)) = true := by rw [decide_eq_true_eq]; omega
        cases hb2 : before (e (2 * i + 2)) (e (2 * i + 1)) with
        | true =>
          have Hhb2 := Lib.hid hb2
          clear hb2
          have hkid : kid before e n i = 2 * i + 2 := if_pos ⟨h2, Hhb2.out⟩
          have Hkid := Lib.hid hkid
          clear hkid
          cases hb : before (e (2 * i + 2)) (e i) with
          | false =>
            have Hhb := Lib.hid hb
            clear hb
            go_wp2_with (first | (go_at_call 81; (fail_if_success have := HM2); (refine ret_use (less_Z Hin.out.q (2 * i + 2) (2 * i + 1) (by omega) (by omega) Hhb2.out (by omega) (by omega)) ?_; rintro v w2 ⟨rfl, hm2⟩; have HM2 := Lib.hid hm2; clear hm2)) | (go_at_call 81; (refine ret_use (less_Z (Hin.out.q.no HM2.out) (2 * i + 2) i (by omega) (by omega) Hhb.out (by omega) (by omega)) ?_; rintro v w3 ⟨rfl, hm3⟩; have HM3 := Lib.hid hm3; clear hm3)) | ((with_reducible refine wp_region_por ?_ ?_ ?_ ?_); kernel_rfl; kernel_rfl; (with_reducible repeat (first | exact calm_ret | refine calm_then ?_ | refine calm_in ?_ | refine calm_chk ?_ | refine calm_noGoto ?_))) | ((with_reducible refine chk_end ?_ ?_); kernel_rfl))
            go_ret
            have hR := Hin.out.go
            unfold down at hR
            rw [if_pos (.inr (by rw [Hkid.out]; exact Hhb.out))] at hR
            rw [hR]
            exact ⟨by simp, (Hin.out.q.no HM2.out).no HM3.out, (Hin.out.m.trans HM2.out no_sub).trans HM3.out no_sub⟩
          | true =>
            have Hhb := Lib.hid hb
            clear hb
            go_wp2_with (first | (go_at_call 81; (fail_if_success have := HM2); (refine ret_use (less_Z Hin.out.q (2 * i + 2) (2 * i + 1) (by omega) (by omega) Hhb2.out (by omega) (by omega)) ?_; rintro v w2 ⟨rfl, hm2⟩; have HM2 := Lib.hid hm2; clear hm2)) | (go_at_call 81; (fail_if_success have := HM3); (refine ret_use (less_Z (Hin.out.q.no HM2.out) (2 * i + 2) i (by omega) (by omega) Hhb.out (by omega) (by omega)) ?_; rintro v w3 ⟨rfl, hm3⟩; have HM3 := Lib.hid hm3; clear hm3)) | (go_at_call 84; (refine ret_use (swap_Z ((Hin.out.q.no HM2.out).no HM3.out) i (2 * i + 2) (by omega) (by omega) (by omega) (by omega)) ?_; rintro v w4 ⟨hq4, hm4⟩; have HQ4 := Lib.hid hq4; have HM4 := Lib.hid hm4; clear hq4 hm4)) | ((with_reducible refine wp_region_por ?_ ?_ ?_ ?_); kernel_rfl; kernel_rfl; (with_reducible repeat (first | exact calm_ret | refine calm_then ?_ | refine calm_in ?_ | refine calm_chk ?_ | refine calm_noGoto ?_))) | ((with_reducible refine chk_end ?_ ?_); kernel_rfl))
            go_roundg (f - 1 + 1)
            case rel =>
              have hf := Hin.out.fuel
              have hlo := Hin.out.lo
              refine ⟨2 * i + 2, f - 1, sw e i (2 * i + 2), rfl, by go_num, by omega, by omega, ?_, by omega, HQ4.out, ((Hin.out.m.trans HM2.out no_sub).trans HM3.out no_sub).trans HM4.out fun _ _ e => e⟩
              have hR := Hin.out.go
              unfold down at hR
              rw [if_neg (by rintro (e1 | e1); (· omega); (· rw [Hkid.out, Hhb.out] at e1; cases e1)), Hkid.out, show f = f - 1 + 1 by omega] at hR
              exact hR
            case measure => have h1 := Hin.out.hk; have hf := Hin.out.fuel; omega
        | false =>
          have Hhb2 := Lib.hid hb2
          clear hb2
          have hkid : kid before e n i = 2 * i + 1 := if_neg (by rintro ⟨_, e1⟩; rw [Hhb2.out] at e1; cases e1)
          have Hkid := Lib.hid hkid
          clear hkid
          cases hb : before (e (2 * i + 1)) (e i) with
          | false =>
            have Hhb := Lib.hid hb
            clear hb
            go_wp2_with (first | (go_at_call 81; (fail_if_success have := HM2); (refine ret_use (less_Z Hin.out.q (2 * i + 2) (2 * i + 1) (by omega) (by omega) Hhb2.out (by omega) (by omega)) ?_; rintro v w2 ⟨rfl, hm2⟩; have HM2 := Lib.hid hm2; clear hm2)) | (go_at_call 81; (refine ret_use (less_Z (Hin.out.q.no HM2.out) (2 * i + 1) i (by omega) (by omega) Hhb.out (by omega) (by omega)) ?_; rintro v w3 ⟨rfl, hm3⟩; have HM3 := Lib.hid hm3; clear hm3)) | ((with_reducible refine wp_region_por ?_ ?_ ?_ ?_); kernel_rfl; kernel_rfl; (with_reducible repeat (first | exact calm_ret | refine calm_then ?_ | refine calm_in ?_ | refine calm_chk ?_ | refine calm_noGoto ?_))) | ((with_reducible refine chk_end ?_ ?_); kernel_rfl))
            go_ret
            have hR := Hin.out.go
            unfold down at hR
            rw [if_pos (.inr (by rw [Hkid.out]; exact Hhb.out))] at hR
            rw [hR]
            exact ⟨by simp, (Hin.out.q.no HM2.out).no HM3.out, (Hin.out.m.trans HM2.out no_sub).trans HM3.out no_sub⟩
          | true =>
            have Hhb := Lib.hid hb
            clear hb
            go_wp2_with (first | (go_at_call 81; (fail_if_success have := HM2); (refine ret_use (less_Z Hin.out.q (2 * i + 2) (2 * i + 1) (by omega) (by omega) Hhb2.out (by omega) (by omega)) ?_; rintro v w2 ⟨rfl, hm2⟩; have HM2 := Lib.hid hm2; clear hm2)) | (go_at_call 81; (fail_if_success have := HM3); (refine ret_use (less_Z (Hin.out.q.no HM2.out) (2 * i + 1) i (by omega) (by omega) Hhb.out (by omega) (by omega)) ?_; rintro v w3 ⟨rfl, hm3⟩; have HM3 := Lib.hid hm3; clear hm3)) | (go_at_call 84; (refine ret_use (swap_Z ((Hin.out.q.no HM2.out).no HM3.out) i (2 * i + 1) (by omega) (by omega) (by omega) (by omega)) ?_; rintro v w4 ⟨hq4, hm4⟩; have HQ4 := Lib.hid hq4; have HM4 := Lib.hid hm4; clear hq4 hm4)) | ((with_reducible refine wp_region_por ?_ ?_ ?_ ?_); kernel_rfl; kernel_rfl; (with_reducible repeat (first | exact calm_ret | refine calm_then ?_ | refine calm_in ?_ | refine calm_chk ?_ | refine calm_noGoto ?_))) | ((with_reducible refine chk_end ?_ ?_); kernel_rfl))
            go_roundg (f - 1 + 1)
            case rel =>
              have hf := Hin.out.fuel
              have hlo := Hin.out.lo
              refine ⟨2 * i + 1, f - 1, sw e i (2 * i + 1), rfl, by go_num, by omega, by omega, ?_, by omega, HQ4.out, ((Hin.out.m.trans HM2.out no_sub).trans HM3.out no_sub).trans HM4.out fun _ _ e => e⟩
              have hR := Hin.out.go
              unfold down at hR
              rw [if_neg (by rintro (e1 | e1); (· omega); (· rw [Hkid.out, Hhb.out] at e1; cases e1)), Hkid.out, show f = f - 1 + 1 by omega] at hR
              exact hR
            case measure => have h1 := Hin.out.hk; have hf := Hin.out.fuel; omega
      · have h2' : decide (2 * (i : Int) + 1 + 1 < (n : Int)) = false := by rw [decide_eq_false_iff_not]; omega
        have hkid : kid before e n i = 2 * i + 1 := if_neg (by omega)
        have Hkid := Lib.hid hkid
        clear hkid
        cases hb : before (e (2 * i + 1)) (e i) with
        | false =>
          have Hhb := Lib.hid hb
          clear hb
          go_wp2_with (first | (go_at_call 81; (refine ret_use (less_Z (Hin.out.q) (2 * i + 1) i (by omega) (by omega) Hhb.out (by omega) (by omega)) ?_; rintro v w3 ⟨rfl, hm3⟩; have HM3 := Lib.hid hm3; clear hm3)) | ((with_reducible refine wp_region_por ?_ ?_ ?_ ?_); kernel_rfl; kernel_rfl; (with_reducible repeat (first | exact calm_ret | refine calm_then ?_ | refine calm_in ?_ | refine calm_chk ?_ | refine calm_noGoto ?_))) | ((with_reducible refine chk_end ?_ ?_); kernel_rfl))
          go_ret
          have hR := Hin.out.go
          unfold down at hR
          rw [if_pos (.inr (by rw [Hkid.out]; exact Hhb.out))] at hR
          rw [hR]
          exact ⟨by simp, (Hin.out.q).no HM3.out, (Hin.out.m).trans HM3.out no_sub⟩
        | true =>
          have Hhb := Lib.hid hb
          clear hb
          go_wp2_with (first | (go_at_call 81; (fail_if_success have := HM3); (refine ret_use (less_Z (Hin.out.q) (2 * i + 1) i (by omega) (by omega) Hhb.out (by omega) (by omega)) ?_; rintro v w3 ⟨rfl, hm3⟩; have HM3 := Lib.hid hm3; clear hm3)) | (go_at_call 84; (refine ret_use (swap_Z ((Hin.out.q).no HM3.out) i (2 * i + 1) (by omega) (by omega) (by omega) (by omega)) ?_; rintro v w4 ⟨hq4, hm4⟩; have HQ4 := Lib.hid hq4; have HM4 := Lib.hid hm4; clear hq4 hm4)) | ((with_reducible refine wp_region_por ?_ ?_ ?_ ?_); kernel_rfl; kernel_rfl; (with_reducible repeat (first | exact calm_ret | refine calm_then ?_ | refine calm_in ?_ | refine calm_chk ?_ | refine calm_noGoto ?_))) | ((with_reducible refine chk_end ?_ ?_); kernel_rfl))
          go_roundg (f - 1 + 1)
          case rel =>
            have hf := Hin.out.fuel
            have hlo := Hin.out.lo
            refine ⟨2 * i + 1, f - 1, sw e i (2 * i + 1), rfl, by go_num, by omega, by omega, ?_, by omega, HQ4.out, ((Hin.out.m).trans HM3.out no_sub).trans HM4.out fun _ _ e => e⟩
            have hR := Hin.out.go
            unfold down at hR
            rw [if_neg (by rintro (e1 | e1); (· omega); (· rw [Hkid.out, Hhb.out] at e1; cases e1)), Hkid.out, show f = f - 1 + 1 by omega] at hR
            exact hR
          case measure => have h1 := Hin.out.hk; have hf := Hin.out.fuel; omega
    · have h1' : (n : Int) ≤ 2 * (i : Int) + 1 := by omega
      go_wp2_with (first | ((with_reducible refine wp_region_por ?_ ?_ ?_ ?_); kernel_rfl; kernel_rfl; (with_reducible repeat (first | exact calm_ret | refine calm_then ?_ | refine calm_in ?_ | refine calm_chk ?_ | refine calm_noGoto ?_))) | ((with_reducible refine chk_end ?_ ?_); kernel_rfl))
      go_ret
      have hR := Hin.out.go
      unfold down at hR
      rw [if_pos (.inl h1)] at hR
      rw [hR]
      exact ⟨by simp, Hin.out.q, Hin.out.m⟩
end Go.Proofs.Ytmfpgghpnkmkpaa
