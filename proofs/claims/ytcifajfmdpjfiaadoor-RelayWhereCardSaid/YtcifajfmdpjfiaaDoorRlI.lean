/- Package relay: Put where none is down and all may have it; the law's helper alive. -/
import Derived.Test.YtcifajfmdpjfiaaDoorRlG
import Derived.Test.YtcifajfmdpjfiaaDoorRlH
namespace Go.Proofs.YtcifajfmdpjfiaaDoor
open Go.RowKit Go.Tum Go.Lib Go.Sort
set_option maxRecDepth 100000
theorem putAll_K (w : World) (rb C R H : Nat) (nw : Bool) (N : List Tx) (S : List Stn) (F : Nat → Prop) (x : Rcd) (h : RelK w rb C R H nw N S [] F) (hR : N.length ≤ R) (hx : x.1.length ≤ maxLen) (hB : StB 2305843009213693952 H S) :
    Calls Tryd.prog 13 #[(.pointer (some ⟨rb, 0, none⟩)), rv x] w (Ret fun v w' => v = .int .i64 (N.length : Int) ∧ RelK w' rb C R H nw N (S.map (deal H nw x)) [] (Ext F w.heap.size) ∧ Mods F w w') := by
  have h1 := relput_K w rb C R H nw N S [] F x h hx hB
  obtain ⟨hI, _, g, mb, col, ps, nv, sv, hp, _⟩ := h
  have hst := hp.ring.1.strict
  have hpm : (allV (placesOf C N) (fnv64 x.1)).Perm N := allV_perm hp.ring.1.c1 (hst.nodup sto_T) _
  rw [wants_all R _ (by rw [hpm.length_eq]; exact hR), hpm.length_eq, dealAll_all H nw hst x hpm hI.len] at h1
  exact h1
theorem relnew_ok {w w' : World} {l : List Tx} {C R H : Int} {nw : Bool} {v : Value} (h : RelNew w w' l C R H nw v) (he : relE l C R H = 0) : ∃ rb, v = .tuple #[(.pointer (some ⟨rb, 0, none⟩)), .int .i64 0] ∧ RelK w' rb C.toNat R.toNat H.toNat nw (nodesOf l) (List.replicate l.length stn0) [] (fun b => w.heap.size ≤ b) ∧ Mods No w w' := by
  obtain ⟨p, rfl, hm, _, h2⟩ := h
  obtain ⟨rb, rfl, hr⟩ := h2 he
  exact ⟨rb, by rw [he], hr, hm⟩
def xA : Rcd := ([112], 0, 0, 7)
def xB : Rcd := ([113], 0, 0, 0)
theorem stA : (List.replicate 2 stn0).map (deal 1 true xA) = [⟨[xA], 0, 0⟩, ⟨[xA], 0, 0⟩] := rfl
theorem stB : ([⟨[xA], 0, 0⟩, ⟨[xA], 0, 0⟩] : List Stn).map (deal 1 true xB) = [⟨[xA], 0, 1⟩, ⟨[xA], 0, 1⟩] := rfl
theorem bndA : StB 2305843009213693952 1 (List.replicate 2 stn0) := fun s hs => by rw [List.eq_of_mem_replicate hs]; exact ⟨Nat.zero_le _, Nat.zero_le _⟩
theorem bndB : StB 2305843009213693952 1 [⟨[xA], 0, 0⟩, ⟨[xA], 0, 0⟩] := fun s hs => by
  simp at hs
  subst hs
  exact ⟨Nat.zero_le _, Nat.le_refl _⟩
theorem relE_alive : relE [[98], [97]] 2 2 1 = 0 := by decide
theorem nodes_alive : nodesOf [[98], [97]] = [[97], [98]] := by decide
theorem take_alive {w w' : World} {rb : Nat} {F : Nat → Prop} {v : Value} (h : TakeIs w w' rb 2 2 1 true [[97], [98]] [⟨[xA], 0, 1⟩, ⟨[xA], 0, 1⟩] [] F [97] 3 v) :
    ∃ A c F', v = .tuple #[.slice A 1 c, .int .i64 0] ∧ Own w' (fun g => w.heap.size ≤ g) 45 4 (.slice A 1 c) 1 (rcs [xA]) ∧ RelK w' rb 2 2 1 true [[97], [98]] [⟨[], 1, 1⟩, ⟨[xA], 0, 1⟩] [] F' ∧ Mods F w w' := by
  rcases h with ⟨h0, _⟩ | ⟨_, k, m, mid, st, A, c, hk, hst, hm, rfl, _, ho, hr, hmm⟩
  · exact absurd (by decide) h0
  · match k with
    | 0 =>
      injection hst with hst
      subst hst
      obtain rfl : m = 1 := by simp at hm; omega
      exact ⟨A, c, _, rfl, ho.more fun g e => e.1, hr, hmm⟩
    | 1 => simp at hk
    | k + 2 => simp at hk
theorem sentA : ∀ t ∈ ([⟨[xA], 0, 1⟩, ⟨[xA], 0, 1⟩] : List Stn), t.sent ≤ 2305843009213693952 := fun t ht => by
  simp at ht
  subst ht
  exact Nat.zero_le _
theorem counts_alive : countsV [[97], [98]] [⟨[], 1, 1⟩, ⟨[xA], 0, 1⟩] [] = [([97], true, 0, 1, 1), ([98], true, 1, 0, 1)] := by decide
set_option maxHeartbeats 6400000 in
theorem ralive_K (w : World) (ht : Tab w) : Calls Tryd.prog 12 #[] w (Ret fun v w' => v = .bool true ∧ Mods No w w') := by
  have hnew := relnew_K (w.alloc (.cells #[ks [98], ks [97]] 9)) (.slice (some ⟨w.heap.size, 0, none⟩) 2 2) [[98], [97]] 2 2 1 true (Rd.boxlt w #[ks [98], ks [97]] 9 (n := 2) (size := 1) rfl (by decide)) (ht.no ((Mods.refl No w).alloc _))
  have hok := fun w' v (h : RelNew (w.alloc (.cells #[ks [98], ks [97]] 9)) w' [[98], [97]] 2 2 1 true v) => relnew_ok h relE_alive
  rw [nodes_alive] at hok
  have hpA := fun w' rb F h => putAll_K w' rb 2 2 1 true [[97], [98]] (List.replicate 2 stn0) F xA h (by decide) (by unfold maxLen; decide) bndA
  rw [stA] at hpA
  have hpB := fun w' rb F h => putAll_K w' rb 2 2 1 true [[97], [98]] _ F xB h (by decide) (by unfold maxLen; decide) bndB
  rw [stB] at hpB
  have htk := fun w' rb F h => take_K w' rb 2 2 1 true [[97], [98]] _ [] F [97] 3 h sentA
  have hct := fun w' rb F h => counts_K w' rb 2 2 1 true [[97], [98]] [⟨[], 1, 1⟩, ⟨[xA], 0, 1⟩] [] F h
  rw [counts_alive] at hct
  have hq := fun w' => (show (binOp .eql 53 (.agg #[.string ⟨#[97]⟩, .bool true, .int .i64 0, .int .i64 1, .int .i64 1]) (.agg #[.string ⟨#[97]⟩, .bool true, .int .i64 0, .int .i64 1, .int .i64 1])).run Tryd.prog w' = .ok (.bool true) w' by kernel_rfl)
  have Hht := Lib.hid ht
  clear ht
  have Hhnew := Lib.hid hnew
  clear hnew
  have Hhok := Lib.hid hok
  clear hok
  have HhpA := Lib.hid hpA
  clear hpA
  have HhpB := Lib.hid hpB
  clear hpB
  have Hhtk := Lib.hid htk
  clear htk
  have Hhct := Lib.hid hct
  clear hct
  unfold ks rv xA at HhpA
  unfold ks rv xB at HhpB
  unfold ks at Hhnew Hhtk
  go_enter Tryd.func12, Tryd.ntmps12
  go_wp2_with (first | (go_at_call 10; (refine ret_use (Hhnew.out) ?_; rintro v w2 hn2; have h2 := Hhok.out _ _ hn2; obtain ⟨rb, rfl, hr2, hm2⟩ := h2; have HR2 := Lib.hid hr2; have HM2 := Lib.hid hm2; clear hn2 hr2 hm2)) | (go_at_call 13; (fail_if_success have := PT); (refine ret_use (HhpA.out w2 rb _ HR2.out) ?_; rintro v w3 ⟨rfl, hr3, hm3⟩; have PT := True.intro; have HR3 := Lib.hid hr3; have HM3 := Lib.hid hm3; clear hr3 hm3)) | (go_at_call 13; (refine ret_use (HhpB.out w3 rb _ HR3.out) ?_; rintro v w4 ⟨rfl, hr4, hm4⟩; have HR4 := Lib.hid hr4; have HM4 := Lib.hid hm4; clear hr4 hm4)) | (go_at_call 14; (refine ret_use (Hhtk.out w4 rb _ HR4.out) ?_; rintro v w5 ht5; obtain ⟨A5, c5, F5, rfl, ho5, hr5, hm5⟩ := take_alive ht5; have HO5 := Lib.hid ho5; have HR5 := Lib.hid hr5; have HM5 := Lib.hid hm5; clear ht5 ho5 hr5 hm5)) | (go_at_call 16; (refine ret_use (Hhct.out w5 rb _ HR5.out) ?_; rintro v w6 ⟨ho6, hm6⟩; have HO6 := Lib.hid ho6; have HM6 := Lib.hid hm6; obtain ⟨g5, c5', e5, _, _, hx5⟩ := (Tum.Own.mods HO5.out hm6 fun _ _ e => e).cells (by decide); injection e5 with e5 _ e5c; subst e5; have y3 : w6.cell? ⟨g5, 3, none⟩ = some (.int .i64 7) := (hx5 3 (by decide)).1; obtain ⟨g6, c6', e6, _, _, hx6⟩ := ho6.cells (by decide); subst e6; have z0 : w6.cell? ⟨g6, 0, none⟩ = some (.string ⟨#[97]⟩) := (hx6 0 (by decide)).1; have z1 : w6.cell? ⟨g6, 1, none⟩ = some (.bool true) := (hx6 1 (by decide)).1; have z2 : w6.cell? ⟨g6, 2, none⟩ = some (.int .i64 0) := (hx6 2 (by decide)).1; have z3 : w6.cell? ⟨g6, 3, none⟩ = some (.int .i64 1) := (hx6 3 (by decide)).1; have z4 : w6.cell? ⟨g6, 4, none⟩ = some (.int .i64 1) := (hx6 4 (by decide)).1; have z7 : w6.cell? ⟨g6, 7, none⟩ = some (.int .i64 1) := (hx6 7 (by decide)).1; clear ho6 hm6 hx5 hx6)) | ((with_reducible refine wp_region_por ?_ ?_ ?_ ?_); kernel_rfl; kernel_rfl; (with_reducible repeat (first | exact calm_ret | refine calm_then ?_ | refine calm_in ?_ | refine calm_chk ?_ | refine calm_noGoto ?_))) | ((with_reducible refine chk_end ?_ ?_); kernel_rfl))
  go_ret
  have hz := (Mods.refl No w).alloc (.cells #[ks [98], ks [97]] 9)
  refine ⟨rfl, ((((hz.trans HM2.out fun _ _ e => e).trans HM3.out fun k hk e => ?_).trans HM4.out fun k hk e => ?_).trans HM5.out fun k hk e => ?_).trans HM6.out fun _ _ e => e⟩
  all_goals (have s1 := hz.size; have s2 := HM2.out.size; have s3 := HM3.out.size; try unfold Ext at e; omega)
end Go.Proofs.YtcifajfmdpjfiaaDoor
