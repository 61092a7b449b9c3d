/- The law SinkPlays, walked. -/
import Derived.Test.YtmfpgghpnkmkpaaDoorSinkT
namespace Go.Proofs.YtmfpgghpnkmkpaaDoor
open Go.RowKit Go.Tum
set_option maxHeartbeats 6400000 in
set_option maxRecDepth 100000 in
theorem sinkPlays_K (w : World) (ea : Addr) (hg : w.cell? ⟨0, 0, none⟩ = some (.iface 94 (.pointer (some ea)))) (pv lv : Value) (plan : Plan) (L : List (Int × Value × List UInt8))
    (hp : Rd w (OldOf w) 2 pv plan.length (planCells plan)) (hl : Rd w (OldOf w) 2 lv L.length (L.flatMap fun a => [.int .i64 a.1, a.2.1])) (hr : ∀ a ∈ L, Rd w (OldOf w) 1 a.2.1 a.2.2.length (vbs a.2.2))
    (np : plan.length ≤ 1048576) (nl : L.length ≤ 1048576) (nw : wt (L.map fun a => (a.1, a.2.2)) ≤ 1048576) :
    Calls Tryd.prog 3 #[pv, lv] w (Ret fun v w' => v = .bool true ∧ Mods No w w') := by
  have lg := World.block_lt_of_cell? w _ hg
  have hgk : ∀ W, Mods No w W → W.cell? ⟨0, 0, none⟩ = some (.iface 94 (.pointer (some ea))) := fun W hm => (World.cell?_of_block (a := ⟨0, 0, none⟩) (hm.block _ lg fun e => e)).trans hg
  have haw := fun W hm => awake_K W ea (hgk W hm)
  obtain ⟨Ap, cp, rfl, _, _⟩ := hp.form
  obtain ⟨Al, cl, rfl, _, _⟩ := hl.form
  have np' : plan.length ≤ 1000000000 := by omega
  have HM0 := Lib.hid (Mods.refl No w)
  have Hhgk := Lib.hid hgk
  clear hgk
  have Hhg := Lib.hid hg
  clear hg
  have Hhaw := Lib.hid haw
  clear haw
  have Hhp := Lib.hid hp
  clear hp
  have Hhl := Lib.hid hl
  clear hl
  have Hhr := Lib.hid hr
  clear hr
  have Hnp := Lib.hid np
  clear np
  have Hnw := Lib.hid nw
  clear nw
  have Hnp' := Lib.hid np'
  clear np'
  go_enter Tryd.func3, Tryd.ntmps3
  go_wp2_with (first | (go_at_call 11; (refine ret_use (refNew_S _ Ap plan.length cp) ?_; rintro v w2 ⟨q, G1, rfl, hf, hm⟩; have HM2 := Lib.hid (Mods.trans (T := No) (by repeat (first | exact HM1.out | apply Mods.drew | apply Mods.alloc)) hm (fun _ _ e => e)); have Hs2 := Lib.hid (Hs1.out.keep (w' := w2) (Mods.trans (T := No) (by repeat (first | exact Mods.refl _ _ | apply Mods.drew)) hm (fun _ _ e => e))); have Hf2 := Lib.hid (hf.low (n1 := w.heap.size) HM1.out.size); have Hd2 := Lib.hid (show ∀ gg, F1 gg → ¬ G1 gg from fun gg h1 h2 => by have := (Hs1.out.lt gg h1).2; have := (hf.lt gg h2).1; (try simp at this); omega); clear hf hm)) | (go_at_call 10; (refine ret_use (new_S _ (OldOf w) (.slice Ap plan.length cp) plan (Hhp.out.old (by repeat (first | exact HM0.out | apply Mods.drew | apply Mods.alloc))) (fun gg hg ↦ hg) Hnp'.out) ?_; rintro v w1 ⟨p, F1, rfl, hs, hm⟩; have Hs1 := Lib.hid (hs.low (n1 := w.heap.size) (Nat.le_refl _)); have HM1 := Lib.hid (Mods.trans (S := No) (T := No) (a := w) (by repeat (first | exact HM0.out | apply Mods.drew | apply Mods.alloc)) hm (fun _ _ e => e)); clear hs hm)) | ((with_reducible refine wp_region_por ?_ ?_ ?_ ?_); kernel_rfl; kernel_rfl; (with_reducible repeat (first | exact calm_ret | refine calm_then ?_ | refine calm_in ?_ | refine calm_chk ?_ | refine calm_noGoto ?_))) | ((with_reducible refine chk_end ?_ ?_); kernel_rfl))
  go_loopg [7] (L.length + 1) (fun k v7 wr => ∃ i s F G, v7 = .int .i64 (i : Nat) ∧ k + i = L.length + 1 ∧ i ≤ L.length ∧ s = runs plan ((L.map fun a => (a.1, a.2.2)).take i) ∧ Snk wr p plan s F w.heap.size ∧ Rfs wr q (.slice Ap plan.length cp) s G w.heap.size ∧ (∀ g, F g → ¬ G g) ∧ Mods No w wr)
  case atStart => exact ⟨0, s0, F1, G1, rfl, rfl, Nat.zero_le _, rfl, Hs2.out.keep (by repeat (first | exact Mods.refl _ _ | apply Mods.drew)), Hf2.out.keep (by repeat (first | exact Mods.refl _ _ | apply Mods.drew)), Hd2.out, (by repeat (first | exact HM2.out | apply Mods.drew | apply Mods.alloc))⟩
  case round =>
    obtain ⟨i, s, F, G, rfl, hk, hi, hs, hsn, hrf, hdj, hm0⟩ := hrel
    have hB : Bnd s 1048576 := by
      rw [hs]
      exact (runs_bnd _ _).le (Nat.le_trans (wt_take _ _) Hnw.out)
    rcases Nat.lt_or_ge i L.length with hlt | hge
    · have hlt' : decide (i < L.length) = true := decide_eq_true hlt
      obtain ⟨⟨id, bv, b⟩, ha⟩ : ∃ a, L[i]? = some a := ⟨_, List.getElem?_eq_getElem hlt⟩
      obtain ⟨g0, o0, y0, e0, hg0, hx⟩ := Hhl.out.cells (by omega)
      injection e0 with e0 _ e0'
      subst e0 e0'
      have hft := Law.flat_two (fun a : Int × Value × List UInt8 => Value.int .i64 a.1) (fun a => a.2.1) L i
      rw [ha] at hft
      have hxk : ∀ W, Mods No w W → W.cell? ⟨g0, o0 + i * 2, none⟩ = some (.int .i64 id) ∧ W.cell? ⟨g0, o0 + i * 2 + 1, none⟩ = some bv := fun W hm =>
        ⟨(World.cell?_of_block (a := ⟨g0, o0 + i * 2, none⟩) (hm.block g0 hg0 fun e => e)).trans (by rw [hx _ (by omega)]; exact hft.1), (World.cell?_of_block (a := ⟨g0, o0 + i * 2 + 1, none⟩) (hm.block g0 hg0 fun e => e)).trans (by rw [Nat.add_assoc, hx _ (by omega)]; exact hft.2)⟩
      have hb := Hhr.out _ (List.mem_of_getElem? ha)
      dsimp only at hb
      obtain ⟨Ab, cb, rfl, _, _⟩ := hb.form
      obtain ⟨x0, x1⟩ := hxk wr hm0
      have hai : (L.map fun a => (a.1, a.2.2))[i]? = some (id, b) := by simp [ha]
      have hwi := wt_mem hai
      have hnb : b.length ≤ 2000000 := by have := Hnw.out; dsimp only at hwi; omega
      have hstep : (frame plan s id b).1 = runs plan ((L.map fun a => (a.1, a.2.2)).take (i + 1)) := by rw [List.take_add_one, hai, hs]; exact (runs_snoc plan _ (id, b)).symm
      have hB2 : Bnd (frame plan s id b).1 1048576 := by rw [hstep]; exact (runs_bnd _ _).le (Nat.le_trans (wt_take _ _) Hnw.out)
      have hne : ((frame plan s id b).2 != (frame plan s id b).2) = false := by simp
      have HM := Lib.hid hm0
      have HsN := Lib.hid hsn
      have HrF := Lib.hid hrf
      have hlb : ∀ g, F g → w.heap.size ≤ g := fun g e => (hsn.lt g e).1
      have hlb2 : ∀ g, G g → w.heap.size ≤ g := fun g e => (hrf.lt g e).1
      clear hx hft ha hai hwi hm0 hsn hrf
      obtain ⟨n1, n2, n3⟩ : (frame plan s id b).1.conns.length ≤ 1000000000 ∧ (frame plan s id b).1.whole.length ≤ 1000000000 ∧ (frame plan s id b).1.lost.length ≤ 1000000000 := ⟨by have := hB2.conns; omega, by have := hB2.whole; omega, by have := hB2.lost; omega⟩
      generalize hr' : frame plan s id b = r at hstep hB2 hne n1 n2 n3
      obtain ⟨s', e⟩ := r
      dsimp only at hstep hB2 hne n1 n2 n3
      have Hhxk := Lib.hid hxk
      clear hxk
      have Hhs := Lib.hid hs
      clear hs
      have Hhb := Lib.hid hb
      clear hb
      have Hhnb := Lib.hid hnb
      clear hnb
      have Hhstep := Lib.hid hstep
      clear hstep
      have HhB := Lib.hid hB
      clear hB
      have HhB2 := Lib.hid hB2
      clear hB2
      have Hhdj := Lib.hid hdj
      clear hdj
      have Hhr' := Lib.hid hr'
      clear hr'
      have Hhlb := Lib.hid hlb
      clear hlb
      have Hhlb2 := Lib.hid hlb2
      clear hlb2
      have Hn1 := Lib.hid n1
      clear n1
      have Hn2 := Lib.hid n2
      clear n2
      have Hn3 := Lib.hid n3
      clear n3
      go_wp2_with (first | ((with_reducible refine wp_region_one 10 (fun g => g = q) [9] 5 ?_ ?_ ?_ ?_ ?_); kernel_rfl; kernel_rfl; kernel_rfl; (with_reducible repeat (first | exact calm_ret | refine calm_then ?_ | refine calm_in ?_ | refine calm_chk ?_ | refine calm_noGoto ?_)); simp only [List.drop_succ_cons, List.drop_zero, List.take_succ_cons, List.take_zero]) | (with_reducible refine segEnd ?_) | (refine And.intro (Keep.one HMk.out Hqc.out.drew (fun e => e)) ?_) | ((with_reducible refine chkM_end (fun g => g = q) ?_ [.pointer (some ⟨q, 1, none⟩)] ?_ ?_ ?_); kernel_rfl; kernel_rfl; (intro v hv x hx; simp only [List.mem_cons, List.not_mem_nil, or_false] at hv; subst hv; (injection hx with hx; injection hx with hx; subst hx; simp))) | (go_at_call 14; (refine ret_use (same_eq _ (fun g ↦ w4.heap.size ≤ g ∧ g < w5.heap.size) G' cv5 wv5 lv5 cv wv lv bvs5 bvs s' s' (Hr5.out.keep (fun gg hg ↦ hg.2) (by repeat (first | exact Mods.refl _ _ | apply Mods.drew | apply Mods.alloc))) ((Hrd.out.keep (fun gg hg ↦ (Hf4.out.lt gg hg).2) HMr.out).keep (fun gg hg ↦ Nat.lt_of_lt_of_le (Hf4.out.lt gg hg).2 HMr.out.size) (by repeat (first | exact Mods.refl _ _ | apply Mods.drew | apply Mods.alloc))) (fun gg hg ↦ by simpa using hg.2) (fun gg hg ↦ Nat.lt_of_lt_of_le (Hf4.out.lt gg hg).2 (by simpa using HMr.out.size)) Hn1.out Hn2.out Hn3.out) ?_; rintro v w6 ⟨rfl, hm⟩; have HM6 := Lib.hid (Mods.trans (T := No) (by repeat (first | exact HM5.out | apply Mods.drew | apply Mods.alloc)) hm (fun _ _ e => e)); have HM6l := Lib.hid (Mods.trans (S := No) (T := No) (a := w5) (by repeat (first | exact Mods.refl _ _ | apply Mods.drew | apply Mods.alloc)) hm (fun _ _ e => e)); clear hm; rw [sameRep_self])) | (go_at_call 15; (refine ret_use (report_S _ p w.heap.size _ s' F' 1048576 (Hs4.out.keep (by repeat (first | exact Mods.refl _ _ | apply Mods.drew | apply Mods.alloc))) HhB2.out (by decide)) ?_; rintro v w5 hrep; obtain ⟨cv5, wv5, lv5, bvs5, rfl, hr5, hm⟩ := hrep.got; have HMk := Lib.hid hm; have HMr := Lib.hid (Mods.trans (S := No) (T := No) (a := w4) (by repeat (first | exact Mods.refl _ _ | apply Mods.drew | apply Mods.alloc)) hm (fun _ _ e => e)); have HM5 := Lib.hid (HM4.out.trans HMr.out (fun _ _ e => e)); have Hr5 := Lib.hid (hr5.more (G := fun g => w4.heap.size ≤ g ∧ g < w5.heap.size) (fun gg hg => ⟨by simpa using hg.1, hg.2⟩)); clear hrep hr5 hm; have q1 := (Hqc.out.mods HMr.out (fun e => e)).at_ 1 rfl; have q2 := (Hqc.out.mods HMr.out (fun e => e)).at_ 2 rfl; have q3 := (Hqc.out.mods HMr.out (fun e => e)).at_ 3 rfl; have q4 := (Hqc.out.mods HMr.out (fun e => e)).at_ 4 rfl)) | (go_at_call 13; (refine ret_use (refFrame_S _ q w.heap.size (.slice Ap plan.length cp) plan s G (OldOf w) id (.slice Ab b.length cb) b 1048576 (Hf3.out.keep (by repeat (first | exact Mods.refl _ _ | apply Mods.drew | apply Mods.alloc))) (Hhp.out.old (by repeat (first | exact HM3.out | apply Mods.drew | apply Mods.alloc))) (Hhb.out.old (by repeat (first | exact HM3.out | apply Mods.drew | apply Mods.alloc))) (fun gg hg ↦ hg) Hnp'.out Hhnb.out HhB.out (by decide)) ?_; rintro v w4 hpost; rw [Hhr'.out] at hpost; obtain ⟨rfl, G', hf, hG', hm⟩ := hpost; have Hf4 := Lib.hid hf; have Hs4 := Lib.hid (Hs3.out.same (w' := w4) (Mods.trans (S := G) (T := G) (a := w3) (by repeat (first | exact Mods.refl _ _ | apply Mods.drew | apply Mods.alloc)) hm (fun _ _ e => e)) Hd3.out); have HM4 := Lib.hid (mods_new (by repeat (first | exact HM3.out | apply Mods.drew | apply Mods.alloc)) hm (fun gg hg e => by have := Hhlb2.out gg e; omega)); have Hd4 := Lib.hid (show ∀ gg, F' gg → ¬ G' gg from fun gg h1 h2 => by rcases hG' gg h2 with h3 | h3; exact Hd3.out gg h1 h3; (have := (Hs3.out.lt gg h1).2; (try simp at h3); omega)); obtain ⟨cv, wv, lv, bvs, hqc, hrd, _⟩ := Hf4.out.rep; have q1 := hqc.at_ 1 rfl; have q2 := hqc.at_ 2 rfl; have q3 := hqc.at_ 3 rfl; have q4 := hqc.at_ 4 rfl; have Hqc := Lib.hid hqc; have Hrd := Lib.hid hrd; clear hf hm hG' hqc hrd)) | (go_at_call 12; (refine ret_use (frame_S _ p w.heap.size plan s F (OldOf w) id (.slice Ab b.length cb) ea b 1048576 (HsN.out.keep (by repeat (first | exact Mods.refl _ _ | apply Mods.drew | apply Mods.alloc))) (Hhgk.out _ (by repeat (first | exact HM.out | apply Mods.drew | apply Mods.alloc))) lg (Hhb.out.old (by repeat (first | exact HM.out | apply Mods.drew | apply Mods.alloc))) (fun gg hg ↦ ⟨Nat.lt_of_lt_of_le hg (by simpa using HM.out.size), fun e ↦ by have := Hhlb.out gg e; omega⟩) Hnp'.out Hhnb.out HhB.out (by decide)) ?_; rintro v w3 hpost; rw [Hhr'.out] at hpost; obtain ⟨rfl, F', hs3, hF', hm, _⟩ := hpost; have Hs3 := Lib.hid hs3; have HM3 := Lib.hid (mods_new (by repeat (first | exact HM.out | apply Mods.drew | apply Mods.alloc)) hm (fun gg hg e => by have := Hhlb.out gg e; omega)); have Hf3 := Lib.hid (HrF.out.same (w' := w3) (Mods.trans (S := F) (T := F) (a := wr) (by repeat (first | exact Mods.refl _ _ | apply Mods.drew | apply Mods.alloc)) hm (fun _ _ e => e)) (fun gg h1 h2 => Hhdj.out gg h2 h1)); have Hd3 := Lib.hid (show ∀ gg, F' gg → ¬ G gg from fun gg h1 h2 => by rcases hF' gg h1 with h3 | h3; exact Hhdj.out gg h3 h2; (have := (HrF.out.lt gg h2).2; (try simp at h3); omega)); clear hs3 hF' hm; obtain ⟨x0', x1'⟩ := Hhxk.out _ HM3.out)) | ((with_reducible refine wp_region_por ?_ ?_ ?_ ?_); kernel_rfl; kernel_rfl; (with_reducible repeat (first | exact calm_ret | refine calm_then ?_ | refine calm_in ?_ | refine calm_chk ?_ | refine calm_noGoto ?_))) | ((with_reducible refine chk_end ?_ ?_); kernel_rfl))
      go_roundg (L.length - i)
      case rel => exact ⟨i + 1, s', F', G', by go_num, by omega, by omega, Hhstep.out, Hs4.out.keep (HMr.out.trans (by repeat (first | exact HM6l.out | apply Mods.drew)) (fun _ _ e => e)), Hf4.out.keep (HMr.out.trans (by repeat (first | exact HM6l.out | apply Mods.drew)) (fun _ _ e => e)), Hd4.out, by repeat (first | exact HM6.out | apply Mods.drew)⟩
      case measure => omega
    · have hlt' : decide (i < L.length) = false := decide_eq_false (by omega)
      have HM := Lib.hid hm0
      have HsN := Lib.hid hsn
      have HrF := Lib.hid hrf
      obtain ⟨n1, n2, n3⟩ : s.conns.length ≤ 1000000000 ∧ s.whole.length ≤ 1000000000 ∧ s.lost.length ≤ 1000000000 := ⟨by have := hB.conns; omega, by have := hB.whole; omega, by have := hB.lost; omega⟩
      obtain ⟨cv, wv, lv, bvs, hqc, hrd, _⟩ := hrf.rep
      have q1 := hqc.at_ 1 rfl
      have q2 := hqc.at_ 2 rfl
      have q3 := hqc.at_ 3 rfl
      have q4 := hqc.at_ 4 rfl
      have Hqc := Lib.hid hqc
      have Hrd := Lib.hid hrd
      clear hqc hrd hm0 hsn hrf
      have Hhs := Lib.hid hs
      clear hs
      have HhB := Lib.hid hB
      clear hB
      have Hhdj := Lib.hid hdj
      clear hdj
      have Hn1 := Lib.hid n1
      clear n1
      have Hn2 := Lib.hid n2
      clear n2
      have Hn3 := Lib.hid n3
      clear n3
      go_wp2_with (first | ((with_reducible refine wp_region_one 12 (fun g => g = q) [5] 1 ?_ ?_ ?_ ?_ ?_); kernel_rfl; kernel_rfl; kernel_rfl; (with_reducible repeat (first | exact calm_ret | refine calm_then ?_ | refine calm_in ?_ | refine calm_chk ?_ | refine calm_noGoto ?_)); simp only [List.drop_succ_cons, List.drop_zero, List.take_succ_cons, List.take_zero]) | (with_reducible refine segEnd ?_) | (refine And.intro (Keep.one HMk.out Hqc.out.drew (fun e => e)) ?_) | ((with_reducible refine chkM_end (fun g => g = q) ?_ [.pointer (some ⟨q, 1, none⟩)] ?_ ?_ ?_); kernel_rfl; kernel_rfl; (intro v hv x hx; simp only [List.mem_cons, List.not_mem_nil, or_false] at hv; subst hv; (injection hx with hx; injection hx with hx; subst hx; simp))) | (go_at_call 16; (refine ret_use (Hhaw.out _ (by repeat (first | exact HM6.out | apply Mods.drew | apply Mods.alloc))) ?_; rintro v w7 ⟨rfl, hm⟩; have HM7 := Lib.hid (Mods.trans (T := No) (by repeat (first | exact HM6.out | apply Mods.drew | apply Mods.alloc)) hm (fun _ _ e => e)); clear hm)) | (go_at_call 14; (refine ret_use (same_eq _ (fun g ↦ wr.heap.size ≤ g ∧ g < w5.heap.size) G cv5 wv5 lv5 cv wv lv bvs5 bvs s s (Hr5.out.keep (fun gg hg ↦ hg.2) (by repeat (first | exact Mods.refl _ _ | apply Mods.drew | apply Mods.alloc))) ((Hrd.out.keep (fun gg hg ↦ (HrF.out.lt gg hg).2) HMr.out).keep (fun gg hg ↦ Nat.lt_of_lt_of_le (HrF.out.lt gg hg).2 HMr.out.size) (by repeat (first | exact Mods.refl _ _ | apply Mods.drew | apply Mods.alloc))) (fun gg hg ↦ by simpa using hg.2) (fun gg hg ↦ Nat.lt_of_lt_of_le (HrF.out.lt gg hg).2 (by simpa using HMr.out.size)) Hn1.out Hn2.out Hn3.out) ?_; rintro v w6 ⟨rfl, hm⟩; have HM6 := Lib.hid (Mods.trans (T := No) (by repeat (first | exact HM5.out | apply Mods.drew | apply Mods.alloc)) hm (fun _ _ e => e)); clear hm; rw [sameRep_self])) | (go_at_call 15; (refine ret_use (report_S _ p w.heap.size _ s F 1048576 (HsN.out.keep (by repeat (first | exact Mods.refl _ _ | apply Mods.drew | apply Mods.alloc))) HhB.out (by decide)) ?_; rintro v w5 hrep; obtain ⟨cv5, wv5, lv5, bvs5, rfl, hr5, hm⟩ := hrep.got; have HMk := Lib.hid hm; have HMr := Lib.hid (Mods.trans (S := No) (T := No) (a := wr) (by repeat (first | exact Mods.refl _ _ | apply Mods.drew | apply Mods.alloc)) hm (fun _ _ e => e)); have HM5 := Lib.hid (HM.out.trans HMr.out (fun _ _ e => e)); have Hr5 := Lib.hid (hr5.more (G := fun g => wr.heap.size ≤ g ∧ g < w5.heap.size) (fun gg hg => ⟨by simpa using hg.1, hg.2⟩)); clear hrep hr5 hm; have q1 := (Hqc.out.mods HMr.out (fun e => e)).at_ 1 rfl; have q2 := (Hqc.out.mods HMr.out (fun e => e)).at_ 2 rfl; have q3 := (Hqc.out.mods HMr.out (fun e => e)).at_ 3 rfl; have q4 := (Hqc.out.mods HMr.out (fun e => e)).at_ 4 rfl)) | ((with_reducible refine wp_region_por ?_ ?_ ?_ ?_); kernel_rfl; kernel_rfl; (with_reducible repeat (first | exact calm_ret | refine calm_then ?_ | refine calm_in ?_ | refine calm_chk ?_ | refine calm_noGoto ?_))) | ((with_reducible refine chk_end ?_ ?_); kernel_rfl))
      go_ret
      exact ⟨rfl, HM7.out⟩
end Go.Proofs.YtmfpgghpnkmkpaaDoor
