/- The queue's Take and Drop. -/
import Derived.Test.YtmfpgghpnkmkpaaDueH
namespace Go.Proofs.Ytmfpgghpnkmkpaa
open Go.RowKit Go.Tum
set_option maxRecDepth 100000
def entsL (l : List Ent) : List Value := l.flatMap fun e => [ks e.1, .int .i64 e.2]
/-- What Take tells, and leaves. -/
def takeQ (now : Int) : Nat → QS → List Ent × QS
  | 0, s => ([], s)
  | f + 1, s => if s.2 = 0 ∨ now < (s.1 0).2 then ([], s) else (s.1 0 :: (takeQ now f (popped before s.1 (s.2 - 1), s.2 - 1)).1, (takeQ now f (popped before s.1 (s.2 - 1), s.2 - 1)).2)
theorem takeQ_stop {now : Int} {s : QS} (h : s.2 = 0 ∨ now < (s.1 0).2) : takeQ now s.2 s = ([], s) := by
  obtain ⟨d, n⟩ := s
  cases n with
  | zero => rfl
  | succ n => exact if_pos h
theorem takeQ_go {now : Int} {e : Nat → Ent} {m : Nat} (h : (e 0).2 ≤ now) : takeQ now (m + 1) (e, m + 1) = (e 0 :: (takeQ now m (popped before e m, m)).1, (takeQ now m (popped before e m, m)).2) := by
  have hn : ¬ (m + 1 = 0 ∨ now < (e 0).2) := by omega
  exact if_neg hn
theorem entsL_length (l : List Ent) : (entsL l).length = l.length * 2 := Law.flat_two_length _ _ l
theorem entsL_snoc (l : List Ent) (x : Ent) : entsL l ++ [ks x.1, .int .i64 x.2] = entsL (l ++ [x]) := by simp [entsL]
structure TkInv (w : World) (q : Nat) (lim : Int) (F : Nat → Prop) (now : Int) (R : List Ent × QS) (k : Nat) (v5 v6 v7 : Value) (wr : World) (s : QS) (l : List Ent) (bx : Nat) : Prop where
  hk : k = s.2
  hq : QueueK wr q lim s.1 s.2 F
  own : Own wr (fun g => w.heap.size ≤ g) 29 2 v5 l.length (entsL l)
  ne : v5.ownBlock ≠ some bx
  hv6 : v6 = (.pointer (some ⟨bx, 0, none⟩))
  hbx : w.heap.size ≤ bx
  box : Cells wr bx 29 #[ks (nextQ s).1.1, .int .i64 (nextQ s).1.2]
  hv7 : v7 = .bool (nextQ s).2
  hm : Mods F w wr
  go : R = (l ++ (takeQ now s.2 s).1, (takeQ now s.2 s).2)
  len : l.length + s.2 ≤ 65536
set_option maxHeartbeats 3200000 in
theorem take_K (w : World) (q : Nat) (lim : Int) (s : QS) (F : Nat → Prop) (now : Int) (h : QueueK w q lim s.1 s.2 F) (h0 : 0 < lim) (hF : ∀ g, F g → g < w.heap.size) :
    Calls Try.prog 11 #[(.pointer (some ⟨q, 0, none⟩)), .int .i64 now] w (Ret fun v w' => Own w' (fun g => w.heap.size ≤ g) 29 2 v (takeQ now s.2 s).1.length (entsL (takeQ now s.2 s).1) ∧
      QueueK w' q lim (takeQ now s.2 s).2.1 (takeQ now s.2 s).2.2 F ∧ Mods F w w') := by
  obtain ⟨R, hR⟩ : ∃ R, R = takeQ now s.2 s := ⟨_, rfl⟩
  have hn := next_K w q lim s F h h0
  rw [← hR]
  have Hh := Lib.hid h
  clear h
  have HhR := Lib.hid hR
  clear hR
  have HhF := Lib.hid hF
  clear hF
  have Hhn := Lib.hid hn
  clear hn
  go_enter Try.func11, Try.ntmps11
  go_wp2_with (first | (go_at_call 14; (refine ret_use (Hhn.out) ?_; rintro v w2 ⟨rfl, hm2⟩; (unfold ks); have HM2 := Lib.hid hm2; clear hm2)) | ((with_reducible refine wp_region_por ?_ ?_ ?_ ?_); kernel_rfl; kernel_rfl; (with_reducible repeat (first | exact calm_ret | refine calm_then ?_ | refine calm_in ?_ | refine calm_chk ?_ | refine calm_noGoto ?_))) | ((with_reducible refine chk_end ?_ ?_); kernel_rfl))
  go_loopg [5, 6, 7] s.2 (fun k v5 v6 v7 wr => ∃ s' l bx, TkInv w q lim F now R k v5 v6 v7 wr s' l bx)
  case atStart =>
    refine ⟨s, [], w2.heap.size, rfl, (Hh.out.no HM2.out).no ((Mods.refl No w2).alloc _), Own.nil _ _ _ _, (fun e => by cases e), rfl, HM2.out.size, Cells.new w2 _ _, rfl, ((HM2.out.alloc _).mono no_sub), by rw [HhR.out]; rfl, by have := Hh.out.small; simpa using this⟩
  case round =>
    obtain ⟨s', l, bx, hin⟩ := hrel
    obtain rfl := hin.hv6
    obtain rfl := hin.hv7
    have x0 := hin.box.at_ 0 rfl
    have x1 := hin.box.at_ 1 rfl
    have lb := hin.box.lt
    obtain ⟨A, c, rfl, hlc, _⟩ := hin.own.form
    unfold ks at x0
    have Hin := Lib.hid hin
    clear hin
    rcases Nat.eq_zero_or_pos s'.2 with hz | hz
    · have hb : (nextQ s').2 = false := by unfold nextQ; rw [if_pos hz]
      go_wp2_with (first | ((with_reducible refine wp_region_por ?_ ?_ ?_ ?_); kernel_rfl; kernel_rfl; (with_reducible repeat (first | exact calm_ret | refine calm_then ?_ | refine calm_in ?_ | refine calm_chk ?_ | refine calm_noGoto ?_))) | ((with_reducible refine chk_end ?_ ?_); kernel_rfl))
      go_ret
      have hR := Hin.out.go
      rw [takeQ_stop (.inl hz)] at hR
      rw [hR]
      refine ⟨?_, Hin.out.hq, Hin.out.hm⟩
      simpa using Hin.out.own
    · obtain ⟨e, n'⟩ := s'
      obtain ⟨m, rfl⟩ : ∃ m, n' = m + 1 := ⟨n' - 1, by dsimp only at hz; omega⟩
      have hnx : nextQ (e, m + 1) = (e 0, true) := if_neg (Nat.succ_ne_zero m)
      rw [hnx] at x0 x1
      have hb : (nextQ (e, m + 1)).2 = true := by rw [hnx]
      have Hnx := Lib.hid hnx
      clear hnx hz
      rcases Int.lt_or_le now (e 0).2 with hlt | hle
      · have hle' : decide ((e 0).2 ≤ now) = false := decide_eq_false (by omega)
        go_wp2_with (first | ((with_reducible refine wp_region_por ?_ ?_ ?_ ?_); kernel_rfl; kernel_rfl; (with_reducible repeat (first | exact calm_ret | refine calm_then ?_ | refine calm_in ?_ | refine calm_chk ?_ | refine calm_noGoto ?_))) | ((with_reducible refine chk_end ?_ ?_); kernel_rfl))
        go_ret
        have hR := Hin.out.go
        rw [takeQ_stop (.inr hlt)] at hR
        rw [hR]
        refine ⟨?_, Hin.out.hq, Hin.out.hm⟩
        simpa using Hin.out.own
      · have hle' : decide ((e 0).2 ≤ now) = true := decide_eq_true hle
        have hlen := Hin.out.len
        dsimp only at hlen
        have hFb : ¬ F bx := fun e1 => by have h1 := HhF.out _ e1; have h2 := Hin.out.hbx; omega
        have hFo : ∀ g, (Value.slice A l.length c).ownBlock = some g → ¬ F g := fun g hg e1 => by have h1 := HhF.out _ e1; have h2 := Hin.out.own.2 g hg; omega
        have HhFb := Lib.hid hFb
        clear hFb
        have HhFo := Lib.hid hFo
        clear hFo
        go_wp2_with (first | (go_at_call 29; (refine ret_use (pop_K _ q lim e m F Hin.out.hq) ?_; rintro v w3 ⟨rfl, hq3, hm3⟩; have HQ3 := Lib.hid hq3; have HM3 := Lib.hid hm3; have HB3 := Lib.hid (Hin.out.box.mods hm3 HhFb.out); have y0 := HB3.out.at_ 0 rfl; have y1 := HB3.out.at_ 1 rfl; rw [Hnx.out] at y0 y1; (unfold ks at y0); have l3 := HB3.out.lt; have HO3 := Lib.hid (fun o => Own.alloc' (Hin.out.own.mods hm3 HhFo.out) o); clear hq3 hm3)) | (at_builtin; ((refine wpList_append _ rfl (.tmp 30) (.tmp 32) 22 rfl 29 (.agg #[.string ⟨#[]⟩, .int .i64 0]) 2 24 Try.underlying22 infoDue rfl (by decide) (F := fun g => w.heap.size ≤ g) (n := l.length) (xs := entsL l) (by rfl) (HO3.out _) (G := fun g => g = w3.heap.size) (y := .slice (some ⟨w3.heap.size, 0, none⟩) 1 1) (m := 1) (news := [ks (e 0).1, .int .i64 (e 0).2]) (by rfl) (Rd.box _ #[ks (e 0).1, .int .i64 (e 0).2] _ rfl rfl (by decide)) (two_one' _ _) (by omega) (by decide) ?_); intro v4 w4 hown4 hm4 hlt4; have HB4 := Lib.hid ((HB3.out.alloc _).mods hm4 Hin.out.ne); have z0 := HB4.out.at_ 0 rfl; have z1 := HB4.out.at_ 1 rfl; rw [Hnx.out] at z0 z1; (unfold ks at z0); have l4 := HB4.out.lt; have HQ4 := Lib.hid ((HQ3.out.no ((Mods.refl No w3).alloc _)).mods hm4 (fun g _ e1 e2 => HhFo.out g e2 e1)); have HM4 := Lib.hid hm4; have HO4 := Lib.hid hown4; have HL4 := Lib.hid hlt4; obtain ⟨A4, c4, rfl, _, _⟩ := hown4.form; clear hown4 hm4 hlt4)) | (go_at_call 14; (refine ret_use (next_K _ q lim (popped before e m, m) F (HQ4.out.no ((Mods.refl No w4).alloc _)) h0) ?_; rintro v w5 ⟨rfl, hm5⟩; (unfold ks); have HM5 := Lib.hid hm5; have HB5 := Lib.hid ((Cells.new w4 29 #[ks (e 0).1, .int .i64 (e 0).2]).mods hm5 (fun e1 => e1)); have t0 := HB5.out.at_ 0 rfl; have t1 := HB5.out.at_ 1 rfl; have u0 := HB5.out.frozen 0; have u1 := HB5.out.frozen 1; (unfold ks at t0); clear hm5)) | ((with_reducible refine wp_region_por ?_ ?_ ?_ ?_); kernel_rfl; kernel_rfl; (with_reducible repeat (first | exact calm_ret | refine calm_then ?_ | refine calm_in ?_ | refine calm_chk ?_ | refine calm_noGoto ?_))) | ((with_reducible refine chk_end ?_ ?_); kernel_rfl))
        go_roundg m
        case rel =>
          have hs0 := Hin.out.hm.size
          have hs1 := HM3.out.size
          have hs2 := HM4.out.size
          rw [World.size_alloc] at hs2
          have hs3 := HM5.out.size
          rw [World.size_alloc] at hs3
          have hne : (Value.slice A4 (l.length + 1) c4).ownBlock ≠ some w4.heap.size := fun e1 => absurd (HL4.out _ e1) (Nat.lt_irrefl _)
          have hset : ∀ x y : Value, Mods (fun k => k = w4.heap.size) w5 ((w5.setCell ⟨w4.heap.size, 0, none⟩ x).setCell ⟨w4.heap.size, 1, none⟩ y) := fun x y => ((Mods.refl (fun k => k = w4.heap.size) w5).setCell ⟨w4.heap.size, 0, none⟩ x fun _ => rfl).setCell ⟨w4.heap.size, 1, none⟩ y fun _ => rfl
          refine ⟨(popped before e m, m), l ++ [e 0], w4.heap.size, rfl, ((HQ4.out.no ((Mods.refl No w4).alloc _)).no HM5.out).mods (hset _ _) (fun g _ e1 e2 => by have := HhF.out g e1; omega), ?_, hne, rfl, by omega, (HB5.out.set_ 0 _).set_ 1 _, rfl, ?_, ?_, ?_⟩
          · have h1 := (((HO4.out.mods ((Mods.refl No w4).alloc _) fun _ _ e1 => e1).mods HM5.out fun _ _ e1 => e1).mods (hset (ks (nextQ (popped before e m, m)).1.1) (.int .i64 (nextQ (popped before e m, m)).1.2)) fun g hg e1 => hne (e1 ▸ hg))
            rw [entsL_snoc] at h1
            rw [show (l ++ [e 0]).length = l.length + 1 by simp]
            refine h1.more fun k hk => ?_
            rcases hk with hk | hk
            · exact Hin.out.own.2 k hk
            · rw [World.size_alloc] at hk; omega
          · have a1 := ((Hin.out.hm.trans HM3.out fun _ _ e1 => e1).alloc (.cells #[ks (e 0).1, .int .i64 (e 0).2] 29)).trans (T := fun k => (Value.slice A l.length c).ownBlock = some k) HM4.out fun k hk e1 => by have := Hin.out.own.2 k e1; omega
            exact ((a1.alloc _).trans HM5.out no_sub).trans (hset _ _) fun k hk e1 => by omega
          · rw [Hin.out.go]
            dsimp only
            rw [takeQ_go hle]
            simp
          · simp; omega
        case measure => have := Hin.out.hk; dsimp only at this; omega
/-- What Drop does. -/
def dropQ (s : QS) (key : List UInt8) : QS × Bool := match spot s.1 s.2 key with | some i => ((removed before s.1 (s.2 - 1) i, s.2 - 1), true) | none => (s, false)
set_option maxHeartbeats 1600000 in
theorem drop_K (w : World) (q : Nat) (lim : Int) (s : QS) (F : Nat → Prop) (key : List UInt8) (h : QueueK w q lim s.1 s.2 F) (h0 : 0 < lim) (hmx : key.length ≤ maxLen) :
    Calls Try.prog 22 #[(.pointer (some ⟨q, 0, none⟩)), ks key] w (Ret fun v w' => v = .bool (dropQ s key).2 ∧ QueueK w' q lim (dropQ s key).1.1 (dropQ s key).1.2 F ∧ Mods F w w') := by
  obtain ⟨d, n⟩ := s
  dsimp only at h ⊢
  have h' := h
  obtain ⟨v, gm, hq⟩ := h
  have c0 := hq.cells.at_ 0 rfl
  have c2 := hq.cells.at_ 2 rfl
  have hmade := made_some w q lim (hq.cells.at_ 0 rfl) true (decide_eq_true h0)
  have hsm := hq.small
  have Hhmade := Lib.hid hmade
  clear hmade
  cases hs : spot d n key with
  | some i =>
    obtain ⟨hi, hik⟩ := spot_some hs
    obtain ⟨m, rfl⟩ : ∃ m, n = m + 1 := ⟨n - 1, by omega⟩
    have hL : look d (m + 1) key = some (i : Int) := by unfold look; rw [hs]; rfl
    have hr := remove_K w q lim d m i F h' (by omega)
    have HhL := Lib.hid hL
    clear hL
    have Hhs := Lib.hid hs
    clear hs
    have Hhq := Lib.hid hq
    clear hq
    have Hhik := Lib.hid hik
    clear hik
    have Hh' := Lib.hid h'
    clear h'
    have Hhr := Lib.hid hr
    clear hr
    unfold ks at *
    go_enter Try.func22, Try.ntmps22
    go_wp2_with (first | (go_at_call 25; (refine ret_use (Hhmade.out) ?_; rintro v w2 ⟨rfl, rfl⟩)) | (at_lookup; ((refine wpList_smap_some _ rfl _ _ rfl Try.underlying9 Try.underlying57 Try.underlying3 zeroI rfl key rfl Hhq.out.map hmx (i : Int) HhL.out ?_))) | (go_at_call 36; (refine ret_use (Hhr.out) ?_; rintro v w3 ⟨hq3, hm3⟩; have HQ3 := Lib.hid hq3; have HM3 := Lib.hid hm3; clear hq3 hm3)) | ((with_reducible refine wp_region_por ?_ ?_ ?_ ?_); kernel_rfl; kernel_rfl; (with_reducible repeat (first | exact calm_ret | refine calm_then ?_ | refine calm_in ?_ | refine calm_chk ?_ | refine calm_noGoto ?_))) | ((with_reducible refine chk_end ?_ ?_); kernel_rfl))
    go_ret
    have e : dropQ (d, m + 1) key = ((removed before d m i, m), true) := by unfold dropQ; rw [Hhs.out]; rfl
    rw [e]
    exact ⟨rfl, HQ3.out, HM3.out⟩
  | none =>
    have hL : look d n key = none := by unfold look; rw [hs]; rfl
    have HhL := Lib.hid hL
    clear hL
    have Hhs := Lib.hid hs
    clear hs
    have Hhq := Lib.hid hq
    clear hq
    have Hh' := Lib.hid h'
    clear h'
    unfold ks at *
    go_enter Try.func22, Try.ntmps22
    go_wp2_with (first | (go_at_call 25; (refine ret_use (Hhmade.out) ?_; rintro v w2 ⟨rfl, rfl⟩)) | (at_lookup; ((refine wpList_smap_none _ rfl _ _ rfl Try.underlying9 Try.underlying57 Try.underlying3 zeroI rfl key rfl Hhq.out.map hmx HhL.out ?_))) | ((with_reducible refine wp_region_por ?_ ?_ ?_ ?_); kernel_rfl; kernel_rfl; (with_reducible repeat (first | exact calm_ret | refine calm_then ?_ | refine calm_in ?_ | refine calm_chk ?_ | refine calm_noGoto ?_))) | ((with_reducible refine chk_end ?_ ?_); kernel_rfl))
    go_ret
    have e : dropQ (d, n) key = ((d, n), false) := by unfold dropQ; rw [Hhs.out]
    rw [e]
    exact ⟨rfl, Hh'.out, Mods.refl _ _⟩
end Go.Proofs.Ytmfpgghpnkmkpaa
