/- The law DueGoes, walked. -/
import Derived.Test.YtmfpgghpnkmkpaaDueGa
namespace Go.Proofs.Ytmfpgghpnkmkpaa
open Go.RowKit Go.Tum Go.Shelf
set_option maxRecDepth 100000
attribute [local go_sem] Oper.semAt_some
theorem calls_of_wp_firm {P : Program} {f : FuncId} {fn : Func} {c : Code} {args : Array Value} {w : World} {R : Ending → World → Prop} (hf : P.funcs[f]? = some fn) (hb : fn.body = some c)
    (h : c.wp P (Firm (bodyPostM Fence.wide 0 P fn R)) { tmps := args ++ Array.replicate (fn.ntmps - args.size) undef, defers := [] } w) : Calls P f args w R :=
  calls_of_wp_marks hf hb (wpIn_wide (n := 0) |>.1 (wpIn_mono (wpIn_wide.2 h) fun e a w hq => by
    cases e with
    | panic c => exact hq.elim
    | outgrown => exact hq.elim
    | normal => exact hq
    | ret => exact hq
    | exit i => exact hq
    | goto l => exact hq))
theorem results_goes (tmps : Array Value) (w : World) (g : Nat) (b : Bool) (hp : tmps.getD 8 undef = .pointer (some ⟨g, 0, none⟩)) (hc : w.cell? ⟨g, 0, none⟩ = some (.bool b)) : (results Try.f5 tmps).run Try.prog w = .ok (.bool b) w := by
  have hp' : tmps[8]?.getD undef = .pointer (some ⟨g, 0, none⟩) := by simpa using hp
  have a1 := Try.isAgg4
  simp [results, hp', asAddr, loadVar, a1, hc, go_sem]
theorem firm_none {Φ : Value → World → Prop} {tmps : Array Value} {W : World} (g : Nat) (b : Bool) (hp : tmps.getD 8 undef = .pointer (some ⟨g, 0, none⟩)) (hc : W.cell? ⟨g, 0, none⟩ = some (.bool b)) (h : Φ (.bool b) W) :
    Firm (bodyPostM Fence.wide 0 Try.prog Try.f5 (Ret Φ)) Exit.ret { tmps := tmps, defers := [] } W := ⟨_, results_goes tmps W g b hp hc, h⟩
theorem firm_mark {Φ : Value → World → Prop} {D : Nat} {tmps : Array Value} {W : World} {args : Array Value} (g : Nat) (b : Bool) (hp : tmps.getD 8 undef = .pointer (some ⟨g, 0, none⟩)) (hK : W.heap[D]? = some (.deferred (some []))) (hc : Cells W g 4 #[.bool b]) (h : Φ (.bool b) (W.putObj D (.deferred none))) :
    Firm (bodyPostM Fence.wide 0 Try.prog Try.f5 (Ret Φ)) Exit.ret { tmps := tmps, defers := [{ target := .collected D, args := args }] } W := by
  refine ⟨by simp, .inl ⟨D, _, rfl, run_takeDeferred hK, ⟨_, results_goes tmps _ g b hp ?_, h⟩⟩⟩
  have hne : g ≠ D := by
    rintro rfl
    unfold Cells at hc
    rw [hK] at hc
    cases hc
  exact (hc.mods (mods_putObj (S := fun b => b = D) W D _ rfl) hne).at_ 0 rfl
theorem len_of {L : List Ent} {s : QS} (e : L = srt s) : L.length = s.2 := by rw [e, srt_len]
theorem Keep.three {S : Nat → Prop} {w w' : World} {a b c : Nat} {t t' t2 : TypeId} {cs cs' cs2 : Array Value} (hm : Mods S w w') (h : Cells w a t cs) (n : ¬ S a) (h' : Cells w b t' cs') (n' : ¬ S b) (h2 : Cells w c t2 cs2) (n2 : ¬ S c) : Keep (fun g => g = a ∨ g = b ∨ g = c) w w' :=
  Keep.of hm fun g hg => by
    rcases hg with rfl | rfl | rfl
    · exact ⟨n, _, _, h⟩
    · exact ⟨n', _, _, h'⟩
    · exact ⟨n2, _, _, h2⟩
theorem upTo_nat (m : Nat) (l : List Ent) : upTo (m : Int) l = l.take m := by unfold upTo; rw [if_pos (Int.natCast_nonneg m)]; rfl
theorem allt_K (w : World) (q : Nat) (s : QS) (F : Nat → Prop) (mm : Nat) (M : Int) (hM : M = (mm : Int)) (h : QueueK w q 65536 s.1 s.2 F) :
    Calls Try.prog 20 #[(.pointer (some ⟨q, 0, none⟩)), .int .i64 M] w (Ret fun v w' => Tum.Own w' (fun b => w.heap.size ≤ b) 29 2 v ((srt s).take mm).length (entsL ((srt s).take mm)) ∧ Mods No w w') := by
  subst hM
  have := allq_K w q 65536 s F (mm : Int) h (by decide)
  rwa [upTo_nat] at this
set_option maxHeartbeats 12800000 in
theorem dueGoes_K (W : World) (v : Value) (l : List Ent) (at_ : Int) (key : List UInt8) (t : Int) (hr : Rd W (fun g => g < W.heap.size) 2 v l.length (entsL l)) (hk : ∀ x ∈ l, x.1.length ≤ 281474976710656) (hkey : key.length ≤ 281474976710656) :
    Calls Try.prog 5 #[v, .int .i64 at_, ks key, .int .i64 t] W (Ret fun r w' => r = .bool true ∧ Mods No W w') := by
  obtain ⟨A, c, rfl, hlc, hc2⟩ := hr.form
  have hrd := fun w' (hm : Mods No W w') => hr.same (hm.same fun k hk => ⟨hk, fun e => e⟩)
  have hln : l.length ≤ 9223372036854775807 := by unfold maxLen at hc2; omega
  obtain ⟨W0, hW0⟩ : ∃ x, x = (((W.alloc (.cells #[.int .i64 at_] 3)).alloc (.cells #[ks key] 9)).alloc (.cells #[.int .i64 t] 2)).alloc (.cells #[.bool false] 4) := ⟨_, rfl⟩
  have hM0 : Mods No W W0 := by rw [hW0]; exact ((((Mods.refl No W).alloc _).alloc _).alloc _).alloc _
  have hz0 : W0.heap.size = W.heap.size + 4 := by rw [hW0]; simp only [World.size_alloc]
  have hB : Cells W0 W.heap.size 3 #[.int .i64 at_] ∧ Cells W0 (W.heap.size + 1) 9 #[ks key] ∧ Cells W0 (W.heap.size + 1 + 1) 2 #[.int .i64 t] ∧ Cells W0 (W.heap.size + 1 + 1 + 1) 4 #[.bool false] := by
    rw [hW0]
    have h1 := Cells.new (W.alloc (.cells #[.int .i64 at_] 3)) 9 #[ks key]
    have h2 := Cells.new ((W.alloc (.cells #[.int .i64 at_] 3)).alloc (.cells #[ks key] 9)) 2 #[.int .i64 t]
    have h3 := Cells.new (((W.alloc (.cells #[.int .i64 at_] 3)).alloc (.cells #[ks key] 9)).alloc (.cells #[.int .i64 t] 2)) 4 #[.bool false]
    simp only [World.size_alloc] at h1 h2 h3
    exact ⟨(((Cells.new W _ _).alloc _).alloc _).alloc _, (h1.alloc _).alloc _, h2.alloc _, h3⟩
  have hn1 : ∀ x, x = W0 → Calls Try.prog 8 #[.int .i64 65536] x
    (Ret fun v w' => v = .tuple #[(.pointer (some ⟨W0.heap.size + 1, 0, none⟩)), .int .i64 0] ∧ QueueK w' (W0.heap.size + 1) 65536 d0 0 (fun g => W0.heap.size ≤ g ∧ g < w'.heap.size) ∧ Mods No W0 w') := fun x hx => by
    subst hx
    exact new_ok _ 65536 (by decide) (by decide)
  have Hhr := Lib.hid hr
  clear hr
  have Hhk := Lib.hid hk
  clear hk
  have Hhrd := Lib.hid hrd
  clear hrd
  have HhM0 := Lib.hid hM0
  clear hM0
  have HhB := Lib.hid hB
  clear hB
  have Hhn1 := Lib.hid hn1
  clear hn1
  have Hhz0 := Lib.hid hz0
  clear hz0
  unfold ks at hW0 ⊢
  have HW0 := Lib.hid hW0.symm
  clear hW0
  refine calls_of_wp_firm Try.func5 rfl ?_
  simp only [Try.ntmps5, List.size_toArray, List.length_cons, List.length_nil, Nat.reduceAdd, Nat.reduceSub, Array.replicate_succ, Array.replicate_zero, List.push_toArray, List.append_toArray, List.nil_append, List.cons_append]
  by_cases hbig : 65000 < l.length
  · have hb' : decide (65000 < (l.length : Int)) = true := decide_eq_true (by omega)
    clear hbig
    go_wp2_with (first | (go_at_call 8; go_loud (refine ret_use (Hhn1.out _ HW0.out) ?_; rintro v w1 ⟨rfl, hq1, hm1⟩; have HQ1 := Lib.hid hq1; have HM1 := Lib.hid hm1; clear hq1 hm1)) | (go_at_call 16; go_loud (refine ret_use (rnew_ok _ 65536 (by decide) (by decide)) ?_; rintro v w2 ⟨rfl, hm2⟩; have HM2 := Lib.hid hm2; have HB2 := Lib.hid (show Bxs w2 W.heap.size w1.heap.size (W0.heap.size + 1) at_ key t from ⟨((HhB.out.1.mods HM1.out fun e => e).alloc _).mods hm2 fun e => e, ((HhB.out.2.1.mods HM1.out fun e => e).alloc _).mods hm2 fun e => e, ((HhB.out.2.2.1.mods HM1.out fun e => e).alloc _).mods hm2 fun e => e, ((HhB.out.2.2.2.mods HM1.out fun e => e).alloc _).mods hm2 fun e => e, (Cells.new w1 _ _).mods hm2 fun e => e⟩); have c9 : w2.cell? ⟨w1.heap.size, 0, none⟩ = some ((.pointer (some ⟨W0.heap.size + 1, 0, none⟩))) := HB2.out.c9.at_ 0 rfl; have l9 := HB2.out.c9.lt; have c8 := HB2.out.c8.at_ 0 rfl; have f8 := HB2.out.c8.frozen 0; have l8 := HB2.out.c8.lt; clear hm2)) | ((with_reducible refine wp_region_por ?_ ?_ ?_ ?_); kernel_rfl; kernel_rfl; (with_reducible repeat (first | exact calm_firm | exact calm_round | exact calm_ret | refine calm_then ?_ | refine calm_in ?_ | refine calm_chk ?_ | refine calm_noGoto ?_))) | ((with_reducible refine chk_end ?_ ?_); kernel_rfl))
    exact firm_none (W.heap.size + 1 + 1 + 1) true rfl (((HB2.out.c8.set_ 0 (.bool true)).alloc _).at_ 0 rfl) ⟨rfl, ((((HhM0.out.trans HM1.out fun _ _ e => e).alloc _).trans HM2.out fun _ _ e => e).setCell _ _ fun h => by exfalso; simp at h; omega).alloc _⟩
  · have hb' : decide (65000 < (l.length : Int)) = false := decide_eq_false (by omega)
    clear hbig
    go_wp2_with (first | (go_at_call 8; go_loud (refine ret_use (Hhn1.out _ HW0.out) ?_; rintro v w1 ⟨rfl, hq1, hm1⟩; have HQ1 := Lib.hid hq1; have HM1 := Lib.hid hm1; clear hq1 hm1)) | (go_at_call 16; go_loud (refine ret_use (rnew_ok _ 65536 (by decide) (by decide)) ?_; rintro v w2 ⟨rfl, hm2⟩; have HM2 := Lib.hid hm2; have HB2 := Lib.hid (show Bxs w2 W.heap.size w1.heap.size (W0.heap.size + 1) at_ key t from ⟨((HhB.out.1.mods HM1.out fun e => e).alloc _).mods hm2 fun e => e, ((HhB.out.2.1.mods HM1.out fun e => e).alloc _).mods hm2 fun e => e, ((HhB.out.2.2.1.mods HM1.out fun e => e).alloc _).mods hm2 fun e => e, ((HhB.out.2.2.2.mods HM1.out fun e => e).alloc _).mods hm2 fun e => e, (Cells.new w1 _ _).mods hm2 fun e => e⟩); have c9 : w2.cell? ⟨w1.heap.size, 0, none⟩ = some ((.pointer (some ⟨W0.heap.size + 1, 0, none⟩))) := HB2.out.c9.at_ 0 rfl; have l9 := HB2.out.c9.lt; have c8 := HB2.out.c8.at_ 0 rfl; have f8 := HB2.out.c8.frozen 0; have l8 := HB2.out.c8.lt; clear hm2)) | ((with_reducible refine wp_region_por ?_ ?_ ?_ ?_); kernel_rfl; kernel_rfl; (with_reducible repeat (first | exact calm_firm | exact calm_round | exact calm_ret | refine calm_then ?_ | refine calm_in ?_ | refine calm_chk ?_ | refine calm_noGoto ?_))) | ((with_reducible refine chk_end ?_ ?_); kernel_rfl))
    have HM := Lib.hid ((((HhM0.out.trans HM1.out fun _ _ e => e).alloc (.cells #[(.pointer (some ⟨W0.heap.size + 1, 0, none⟩))] 23)).trans HM2.out fun _ _ e => e).alloc (.cells #[.int .i64 65536, .slice none 0 0] 40))
    have HBx := Lib.hid (show Bxs (w2.alloc (.cells #[.int .i64 65536, .slice none 0 0] 40)) W.heap.size w1.heap.size (W0.heap.size + 1) at_ key t from HB2.out.mods ((Mods.refl No w2).alloc _) (fun _ _ e => e) fun e => e)
    have hs1 := HM1.out.size
    have hs2 := HM2.out.size
    rw [World.size_alloc] at hs2
    have hzz := Hhz0.out
    have HT := Lib.hid (show TwoG (w2.alloc (.cells #[.int .i64 65536, .slice none 0 0] 40)) (W0.heap.size + 1) w2.heap.size (d0, 0) W0.heap.size (.slice none 0 0) (fun g => W0.heap.size ≤ g ∧ g < w1.heap.size) (fun _ => False) (fun g => g < W.heap.size + 4 ∨ g = w1.heap.size) from by
      have hz2 : (w2.alloc (.cells #[.int .i64 65536, .slice none 0 0] 40)).heap.size = w2.heap.size + 1 := World.size_alloc _ _
      refine ⟨qi_zero _, ⟨HQ1.out.no (((((Mods.refl No w1).alloc _).trans HM2.out fun _ _ e => e)).alloc _), ⟨Cells.new w2 _ _, ?_, fun e => e, fun _ e => e.elim, ?_⟩, fun g hg => ⟨hg.1, by omega, by omega, fun e => e⟩, by omega⟩, fun g hg => ⟨by omega, by omega, by omega⟩⟩
      · rw [srt_zero]; exact Rd.nil _ _ _
      · rw [srt_zero]; decide)
    obtain ⟨b, hb⟩ : ∃ b, b = W.heap.size := ⟨_, rfl⟩
    obtain ⟨b9, hb9⟩ : ∃ b, b = w1.heap.size := ⟨_, rfl⟩
    obtain ⟨r, hrr⟩ : ∃ b, b = w2.heap.size := ⟨_, rfl⟩
    obtain ⟨q, hqq⟩ : ∃ b, b = W0.heap.size + 1 := ⟨_, rfl⟩
    obtain ⟨n0, hn0⟩ : ∃ b, b = W0.heap.size := ⟨_, rfl⟩
    have hbz : b + 4 ≤ n0 := by omega
    have hn9 : n0 ≤ b9 := by omega
    have hW9 : W.heap.size ≤ b := by omega
    have hWb : b ≤ W.heap.size := by omega
    rw [← hb, ← hb9, ← hqq] at HBx
    rw [← hqq, ← hn0, ← hb, ← hb9, ← hrr] at HT
    rw [← hb, ← hb9, ← hrr, ← hqq]
    generalize w2.alloc (.cells #[.int .i64 65536, .slice none 0 0] 40) = w3 at *
    clear hb9 hrr hqq hn0 hb c9 l9 c8 f8 l8 hs1 hs2 hzz
    go_loopg [13] l.length (fun k v13 wr => ∃ (i : Nat) (s : QS) (v : Value) (Fd Fr : Nat → Prop), v13 = .int .i64 i ∧ i ≤ l.length ∧ k + i = l.length ∧ TwoG wr q r s n0 v Fd Fr (fun g => g < b + 4 ∨ g = b9) ∧ Bxs wr b b9 q at_ key t ∧ Mods No W wr)
    case atStart => exact ⟨0, (d0, 0), _, _, _, rfl, Nat.zero_le _, rfl, HT.out, HBx.out, HM.out⟩
    case round =>
      obtain ⟨i, s, vr, Fd, Fr, rfl, hi, hki, hT, hB, hM⟩ := hrel
      have Hki := Lib.hid hki
      have HTI := Lib.hid hT
      have HBI := Lib.hid hB
      have HMI := Lib.hid hM
      clear hki hT hB hM
      have c9 : wr.cell? ⟨b9, 0, none⟩ = some ((.pointer (some ⟨q, 0, none⟩))) := HBI.out.c9.at_ 0 rfl
      have hnF : ∀ g, Fd g → n0 ≤ g := fun g hg => (HTI.out.two.fd g hg).1
      have hnr := HTI.out.two.nr
      rcases Nat.lt_or_ge i l.length with hil | hil
      · obtain ⟨x, hx⟩ := lt_get hil
        obtain ⟨bl, off, rfl, hbl, x0, x1⟩ := (Hhrd.out _ HMI.out).pair hx
        have Hx := Lib.hid (And.intro (Hhk.out _ (List.mem_of_getElem? hx)) (And.intro x0 x1))
        clear hx
        have hrs := fun w' (h : TwoL w' q r 65536 (setQ 65536 s x.1 x.2).1 (srt s) n0 vr (fun g => Fd g ∨ (wr.drew.heap.size ≤ g ∧ g < w'.heap.size)) Fr) => (h.no ((Mods.refl No _).drew)).setr (by decide) x.1 x.2
        obtain ⟨r1, r2, r3⟩ := set_ref HTI.out.qi 65536 x.1 x.2
        have Hr1 := Lib.hid r1
        rw [← r2] at hrs
        clear r1 r2 r3
        have Hhrs := Lib.hid hrs
        clear hrs
        have HhnF := Lib.hid hnF
        clear hnF
        unfold ks at x0
        go_wp2_with (first | (go_at_call 9; go_loud (refine ret_use ((HTI.out.no ((Mods.refl No _).drew)).setq x.1 x.2 Hx.out.1) ?_; rintro u w5 ⟨rfl, hm5, h5⟩; have HF5 := Lib.hid hm5; have HM5 := Lib.hid (HMI.out.drew.trans hm5 fun k hk e => by have := HhnF.out k e; omega); have HH5 := Lib.hid h5; have y0 := (World.cell?_of_block (a := ⟨bl, off + i * 2, none⟩) ((Mods.drew HM5.out).block bl hbl fun e => e)).trans ((World.cell?_of_block (a := ⟨bl, off + i * 2, none⟩) (HMI.out.block bl hbl fun e => e)).symm.trans Hx.out.2.1); have y1 := (World.cell?_of_block (a := ⟨bl, off + i * 2 + 1, none⟩) ((Mods.drew HM5.out).block bl hbl fun e => e)).trans ((World.cell?_of_block (a := ⟨bl, off + i * 2 + 1, none⟩) (HMI.out.block bl hbl fun e => e)).symm.trans Hx.out.2.2); (unfold ks at y0); clear hm5 h5)) | (go_at_call 17; go_loud (refine ret_use (Hhrs.out _ HH5.out) ?_; rintro u w6 ⟨rfl, hm6, v6, Fr6, h6, _⟩; have HF6 := Lib.hid hm6; have HM6 := Lib.hid (HM5.out.drew.trans hm6 fun k hk e => by omega); have HH6 := Lib.hid h6; clear hm6 h6)) | ((with_reducible refine wp_region_por ?_ ?_ ?_ ?_); kernel_rfl; kernel_rfl; (with_reducible repeat (first | exact calm_firm | exact calm_round | exact calm_ret | refine calm_then ?_ | refine calm_in ?_ | refine calm_chk ?_ | refine calm_noGoto ?_))) | ((with_reducible refine chk_end ?_ ?_); kernel_rfl))
        go_roundg (gk - 1)
        case rel =>
          have h5 := Hki.out
          have hgd := HTI.out.gd
          have hbm : Mods (fun g => Fd g ∨ g = r) wr w6 := (((Mods.refl (fun g => Fd g ∨ g = r) wr).drew.trans (HF5.out.drew.mono (T := fun g => Fd g ∨ g = r) fun _ _ e => .inl e) fun _ _ e => e).trans (HF6.out.mono (T := fun g => Fd g ∨ g = r) fun _ _ e => .inr e) fun _ _ e => e)
          refine ⟨i + 1, (setQ 65536 s x.1 x.2).1, v6, _, Fr6, by go_num, hil, by omega, (HTI.out.no ((Mods.refl No _).drew)).set2 Hr1.out HF5.out.drew HF6.out HH6.out fun g e => ?_, HBI.out.mods hbm (fun g hg e => ?_) (fun e => ?_), HM6.out⟩
          · rcases e with e | e
            · exact .inl e
            · exact .inr e.1
          · have := hgd g (.inl hg)
            rcases e with e | e
            · exact this.2.1 e
            · exact this.2.2 e
          · have := hgd b9 (.inr rfl)
            rcases e with e | e
            · exact this.2.1 e
            · exact this.2.2 e
        case measure => have := Hki.out; omega
      · obtain rfl : i = l.length := by omega
        obtain ⟨B, e, rfl⟩ := HTI.out.two.form
        have c1 := HTI.out.two.cells.at_ 1 rfl
        have l9 := HBI.out.c9.lt
        have lr := HTI.out.two.cells.lt
        have ha := fun w' => all_K w' (some ⟨q, 0, none⟩)
        have Hha := Lib.hid ha
        clear ha
        have HhnF := Lib.hid hnF
        clear hnF
        clear Hki
        go_wp2_with (first | (go_at_call 21; go_loud (refine ret_use (Hha.out _) ?_; rintro v w9 ⟨rfl, rfl⟩)) | ((with_reducible refine wp_region_por ?_ ?_ ?_ ?_); kernel_rfl; kernel_rfl; (with_reducible repeat (first | exact calm_firm | exact calm_round | exact calm_ret | refine calm_then ?_ | refine calm_in ?_ | refine calm_chk ?_ | refine calm_noGoto ?_))) | ((with_reducible refine chk_end ?_ ?_); kernel_rfl))
        obtain ⟨wS, hwS⟩ : ∃ x, x = ((wr.alloc (.cells #[.slice none 0 0] 22)).alloc (.cells #[.slice B (srt s).length e] 22)).alloc (.cells #[(.pointer (some ⟨q, 0, none⟩))] 23) := ⟨_, rfl⟩
        have hz : wS.heap.size = wr.heap.size + 3 := by rw [hwS]; simp only [World.size_alloc]
        have hMS : Mods No wr wS := by rw [hwS]; exact (((Mods.refl No wr).alloc _).alloc _).alloc _
        have hC14 : Cells wS wr.heap.size 22 #[.slice none 0 0] := by rw [hwS]; exact ((Cells.new wr _ _).alloc _).alloc _
        have hC15 : Cells wS (wr.heap.size + 1) 22 #[.slice B (srt s).length e] := by
          have h1 := Cells.new (wr.alloc (.cells #[.slice none 0 0] 22)) 22 #[.slice B (srt s).length e]
          rw [World.size_alloc] at h1
          rw [hwS]; exact h1.alloc _
        have hCq : Cells wS (wr.heap.size + 1 + 1) 23 #[(.pointer (some ⟨q, 0, none⟩))] := by
          have h1 := Cells.new ((wr.alloc (.cells #[.slice none 0 0] 22)).alloc (.cells #[.slice B (srt s).length e] 22)) 23 #[(.pointer (some ⟨q, 0, none⟩))]
          rw [World.size_alloc, World.size_alloc] at h1
          rw [hwS]; exact h1
        rw [← hwS]
        clear hwS
        have hFw : ∀ g, Fd g → g < wr.heap.size := fun g hg => (HTI.out.two.fd g hg).2.1
        have hRw : ∀ g, Fr g → g < wr.heap.size := fun g hg => HTI.out.two.hr.lt g hg
        have hG : ∀ g, g < b + 4 ∨ g = b9 → G2 wS.heap.size r Fd g ∧ g ≠ wr.heap.size := fun g hg => by
          have := HTI.out.gd g hg
          exact ⟨⟨by omega, this.2⟩, by omega⟩
        have hRS : ∀ g, Fr g → G2 wS.heap.size r Fd g ∧ g ≠ wr.heap.size := fun g hg => by
          have h1 := hRw g hg
          refine ⟨⟨by omega, fun e => (HTI.out.two.fd g e).2.2.2 hg, fun e => HTI.out.two.hr.nr (e ▸ hg)⟩, by omega⟩
        have hK : ∀ m, wS.heap.size ≤ m → GoK W wS r n0 wr.heap.size m Fd := fun m hm => ⟨by omega, ⟨by omega, fun e => by have := hFw _ e; omega, by omega⟩, hm, by omega, by omega, HMI.out.size⟩
        have hTS : TwoG wS q r s n0 (.slice B (srt s).length e) Fd Fr (G2 wS.heap.size r Fd) := by
          have h1 := HTI.out.no hMS
          exact ⟨h1.qi, h1.two, fun g hg => hg⟩
        have hBS : Bxs wS b b9 q at_ key t := HBI.out.mods hMS (fun _ _ e => e) fun e => e
        have hMW0 : Mods No W wS := HMI.out.trans hMS fun _ _ e => e
        have hG0 : ∀ W', Mods No wS W' → GoC W wS q r n0 wr.heap.size Fd W'.heap.size [] (.slice none 0 0) W' s (.slice B (srt s).length e) Fd Fr := fun W' hm => by
          have hsz := hm.size
          exact ⟨hTS.no hm, fun g hg => .inl (by have := hFw g hg; omega), fun g hg => .inl (by have := hRw g hg; omega), fun g hg => hm.block g hg.1.1 fun e => e, hC14.mods hm fun e => e, Tum.Own.nil _ _ _ _, (fun g hg => by cases hg), (fun h => by have := hRw _ h; omega), hMW0.trans hm fun _ _ e => e, Nat.le_refl _⟩
        have hG15 : G2 wS.heap.size r Fd (wr.heap.size + 1) ∧ wr.heap.size + 1 ≠ wr.heap.size := ⟨⟨by omega, fun e => by have := hFw _ e; omega, by omega⟩, by omega⟩
        obtain ⟨b14, h14⟩ : ∃ x, x = wr.heap.size := ⟨_, rfl⟩
        have hrdS := HTI.out.two.hr.rd.same (w' := wS) fun g hg => hMS.block g (hRw g hg) fun e => e
        have hL := srt_len s
        have hsm := HTI.out.two.hr.small
        have hxk : ∀ x ∈ srt s, x.1.length ≤ maxLen := fun x hx => by
          obtain ⟨i, hi, e⟩ := (srt_mem s x).1 hx
          obtain ⟨v', gm', h'⟩ := HTI.out.two.hq
          rw [← e]
          exact h'.wf i hi
        rw [← h14] at hz hC14 hC15 hCq hG hK hG0 hRS hG15 ⊢
        clear h14 hFw hRw c1 l9 c9 lr
        have HhMS := Lib.hid hMS
        clear hMS
        have HhC14 := Lib.hid hC14
        clear hC14
        have HhC15 := Lib.hid hC15
        clear hC15
        have HhCq := Lib.hid hCq
        clear hCq
        have HhG := Lib.hid hG
        clear hG
        have HhG15 := Lib.hid hG15
        clear hG15
        have HhK := Lib.hid hK
        clear hK
        have HhTS := Lib.hid hTS
        clear hTS
        have HhBS := Lib.hid hBS
        clear hBS
        have HhMW0 := Lib.hid hMW0
        clear hMW0
        have HhG0 := Lib.hid hG0
        clear hG0
        have HhrdS := Lib.hid hrdS
        clear hrdS
        have HhL := Lib.hid hL
        clear hL
        have Hhxk := Lib.hid hxk
        clear hxk
        have HhRS := Lib.hid hRS
        clear hRS
        refine wp_rangeFunc (gf := 32) (lb := #[(.pointer (some ⟨b14 + 1 + 1, 0, none⟩))]) rfl (enters_of Try.func32 (by kernel_rfl) rfl) (encs := encY) (xs := srt s) (fun _ => rfl)
          (fun m pre W' => wS.heap.size ≤ m ∧ ∃ u s' v' Fd' Fr', GoC W wS q r n0 b14 Fd m pre u W' s' v' Fd' Fr') (fun _ _ _ _ => False) ?hI ?hIx ?hiter ?h0 ?hround ?hdone ?hstop
        case hI =>
          rintro m pre Wa Wb ⟨hm, u, s', v', Fd', Fr', hc⟩ hmm
          exact ⟨hm, u, s', v', Fd', Fr', hc.mods (HhK.out m hm) hmm fun g hg => hg⟩
        case hIx => intro m c pre Wa Wb h _; exact h.elim
        case hiter =>
          intro W1 hm _
          exact iter_K W1 _ q 65536 s Fd (HhCq.out.mods hm fun e => e) (HhTS.out.two.hq.no hm) (by decide)
        case h0 =>
          intro W' hm
          exact ⟨hm.size, _, _, _, _, _, HhG0.out W' hm⟩
        case hround =>
          rintro lp m pre x Wr hl hm hpx ⟨hnm, u, s', v', Fd', Fr', hc⟩ hlW
          have k := HhK.out m hnm
          have hxF : ¬ Fd' Wr.heap.size := fun e => by have := (hc.tg.two.fd _ e).2.1; omega
          have hxr : Wr.heap.size ≠ r := by have := k.r1; omega
          have hlen : pre.length + 1 ≤ (srt s).length := by have := hpx.length_le; simpa using this
          have hxm : x.1.length ≤ maxLen := Hhxk.out x (hpx.subset (by simp))
          have Hc0 := Lib.hid hc
          clear hc hpx
          have lW := Hc0.out.le
          unfold encY ks
          dsimp only [List.zip_toArray, List.zip_cons_cons, List.zip_nil_left]
          have Hk := Lib.hid k
          clear k
          have HhxF := Lib.hid hxF
          clear hxF
          have Hhxr := Lib.hid hxr
          clear hxr
          have Hhxm := Lib.hid hxm
          clear hxm
          gi_wp2
          refine ⟨(Mods.refl No Wr).alloc _, fun W2 hm2 hz2 => ?_⟩
          rw [World.size_alloc] at hz2
          have hMW : Mods (fun b => b = lp) Wr W2 := ((Mods.refl (fun b => b = lp) Wr).alloc _).trans hm2 fun _ _ e => e
          have Hc2 := Lib.hid (Hc0.out.mods Hk.out hMW fun g hg => by omega)
          have HX2 := Lib.hid (show Cells W2 Wr.heap.size 29 #[ks x.1, .int .i64 x.2] from (Cells.new Wr _ _).mods hm2 (by omega))
          have HB2 := Lib.hid (HhBS.out.same Hc2.out.sm (fun g hg => HhG.out g (.inl hg)) (HhG.out b9 (.inr rfl)))
          have H15 := Lib.hid (HhC15.out.same Hc2.out.sm HhG15.out)
          obtain ⟨A', c', rfl, _, _⟩ := Hc2.out.own.form
          have x0 := HX2.out.at_ 0 rfl
          have x1 := HX2.out.at_ 1 rfl
          have l2 : Wr.heap.size < W2.heap.size := by omega
          have c14 := Hc2.out.box.at_ 0 rfl
          have l14 := Hc2.out.box.lt
          have c5 := HB2.out.c5.at_ 0 rfl
          have l5 := HB2.out.c5.lt
          have c15 := H15.out.at_ 0 rfl
          have l15 := H15.out.lt
          have hlt : decide ((srt s).length < pre.length + 1) = false := decide_eq_false (by omega)
          unfold ks at x0
          have hm' : m ≤ W2.heap.size := by omega
          have hsW : Wr.heap.size + 1 ≤ W2.heap.size := by omega
          have HhMW := Lib.hid hMW
          clear hMW
          have Hhm2 := Lib.hid hm2
          clear hm2
          have Hhz := Lib.hid hz
          clear hz
          have Hhl := Lib.hid hl
          clear hl
          have Hhz2 := Lib.hid hz2
          clear hz2
          by_cases he : (pre.length : Int) = at_
          · have he' : ((pre.length : Int) == at_) = true := by simpa using he
            clear he
            have c6 := HB2.out.c6.at_ 0 rfl
            have c7 := HB2.out.c7.at_ 0 rfl
            have c9 : W2.cell? ⟨b9, 0, none⟩ = some ((.pointer (some ⟨q, 0, none⟩))) := HB2.out.c9.at_ 0 rfl
            have l6 := HB2.out.c6.lt
            have l7 := HB2.out.c7.lt
            have l9 := HB2.out.c9.lt
            have hgd := Hc2.out.tg.gd
            have hg6 : ¬ Fd' (b + 1) ∧ b + 1 ≠ r := (hgd _ (HhG.out _ (.inl (by omega))).1).2
            have hg7 : ¬ Fd' (b + 1 + 1) ∧ b + 1 + 1 ≠ r := (hgd _ (HhG.out _ (.inl (by omega))).1).2
            have hg9 : ¬ Fd' b9 ∧ b9 ≠ r := (hgd _ (HhG.out _ (.inr rfl)).1).2
            have hgr : ¬ Fd' r := fun e => (Hc2.out.tg.two.fd r e).2.2.1 rfl
            have Hc2d := Lib.hid (Hc2.out.no Hk.out ((Mods.refl No W2).drew))
            obtain ⟨r1, r2, r3⟩ := set_ref Hc2.out.tg.qi 65536 key t
            have hrs := fun w' (h : TwoL w' q r 65536 (setQ 65536 s' key t).1 (srt s') n0 v' (fun g => Fd' g ∨ (W2.drew.heap.size ≤ g ∧ g < w'.heap.size)) Fr') => h.setr (by decide) key t
            rw [← r2, ← r3] at hrs
            have Hr1 := Lib.hid r1
            have hQ := Hc2d.out.tg.setq key t hkey
            obtain ⟨s1, hs1⟩ : ∃ s1, s1 = (setQ 65536 s' key t).1 := ⟨_, rfl⟩
            obtain ⟨e1, he1⟩ : ∃ e1, e1 = (setQ 65536 s' key t).2 := ⟨_, rfl⟩
            rw [← hs1, ← he1] at hrs hQ
            rw [← hs1] at Hr1
            clear r1 r2 r3 hs1 he1 hgd
            have Hhrs := Lib.hid hrs
            clear hrs
            have HhQ := Lib.hid hQ
            clear hQ
            have Hhg6 := Lib.hid hg6
            clear hg6
            have Hhg7 := Lib.hid hg7
            clear hg7
            have Hhg9 := Lib.hid hg9
            clear hg9
            have Hhgr := Lib.hid hgr
            clear hgr
            unfold ks at c6 HhQ Hhrs
            gi_wp2_with (first | ((with_reducible refine region_round_two 15 (fun g => g = b + 1 ∨ g = b + 1 + 1 ∨ g = r) [4, 5, 16] 3 14 ?_ ?_ ?_ ?_ ?_ ?_); kernel_rfl; kernel_rfl; kernel_rfl; kernel_rfl; (with_reducible repeat (first | exact calm_firm | exact calm_round | exact calm_ret | refine calm_then ?_ | refine calm_in ?_ | refine calm_chk ?_ | refine calm_noGoto ?_)); simp only [List.drop_succ_cons, List.drop_zero, List.take_succ_cons, List.take_zero]))
            go_wp2_with (first | (with_reducible refine segEnd ?_) | (refine And.intro (Keep.three HF3.out HB2.out.c6.drew Hhg6.out.1 HB2.out.c7.drew Hhg7.out.1 Hc2.out.tg.two.cells.drew Hhgr.out) ?_) | (refine And.intro (Keep.three HF5.out HB4.out.c6 (fun e => e) HB4.out.c7 (fun e => e) HC4.out.1.tg.two.cells (fun e => e)) ?_) | ((with_reducible refine chkM_end (fun g => g = b + 1 ∨ g = b + 1 + 1 ∨ g = r) ?_ [.pointer (some ⟨b + 1, 0, none⟩), .pointer (some ⟨b + 1 + 1, 0, none⟩), .pointer (some ⟨r, 1, none⟩)] ?_ ?_ ?_); kernel_rfl; kernel_rfl; (intro v hv x hx; simp only [List.mem_cons, List.not_mem_nil, or_false] at hv; rcases hv with rfl | rfl | rfl <;> (injection hx with hx; injection hx with hx; subst hx; simp))) | (go_at_call 9; go_loud (refine ret_use (HhQ.out) ?_; rintro u3 w3 ⟨rfl, hm3, h3⟩; have HF3 := Lib.hid hm3; have HH3 := Lib.hid h3; have y6 := (HB2.out.c6.drew.mods hm3 Hhg6.out.1).at_ 0 rfl; have y7 := (HB2.out.c7.drew.mods hm3 Hhg7.out.1).at_ 0 rfl; (unfold ks at y6); clear hm3 h3)) | (go_at_call 17; go_loud (refine ret_use (Hhrs.out _ HH3.out) ?_; rintro u4 w4 ⟨rfl, hm4, v4, Fr4, h4, hs4⟩; have HC4 := Lib.hid (Hc2d.out.turn Hk.out Hr1.out HF3.out hm4 h4 (fun g e => e.imp id fun e => e.1) (fun g e => (hs4 g e).imp id fun e => Nat.le_trans HF3.out.size e)); have HM34 := Lib.hid ((HF3.out.mono (T := fun g => Fd' g ∨ g = r) fun _ _ e => .inl e).trans (hm4.mono (T := fun g => Fd' g ∨ g = r) fun _ _ e => .inr e) fun _ _ e => e); have HB4 := Lib.hid (HhBS.out.same HC4.out.1.sm (fun g hg => HhG.out g (.inl hg)) (HhG.out b9 (.inr rfl))); have z9 : w4.cell? ⟨b9, 0, none⟩ = some ((.pointer (some ⟨q, 0, none⟩))) := HB4.out.c9.at_ 0 rfl; have zr := HC4.out.1.tg.two.cells.at_ 1 rfl; have hs5 := HC4.out.1.tg.two.hr.small; obtain ⟨B4, e4, rfl⟩ := HC4.out.1.tg.two.form; clear hm4 h4 hs4)) | (go_at_call 20; go_loud (refine ret_use (HC4.out.1.tg.two.all (by decide) _ (by have := srt_len s1; omega)) ?_; rintro u5 w5 ⟨ho5, hm5⟩; have HO5 := Lib.hid ho5; have HF5 := Lib.hid hm5; have HT5 := Lib.hid (HC4.out.1.tg.no hm5); have zr5 := HT5.out.two.cells.at_ 1 rfl; clear ho5 hm5)) | (go_at_call 19; go_loud (refine ret_use (same_yes _ (fun g => g < w5.heap.size) Fr4 _ _ _ (Rd.of_own HO5.out.1 fun g hg => HO5.out.lt g hg) HT5.out.two.hr.rd (fun _ e => e) HT5.out.two.hr.lt) ?_; rintro u6 w6 ⟨rfl, hm6⟩; have HF6 := Lib.hid hm6; clear hm6)) | ((with_reducible refine wp_region_por ?_ ?_ ?_ ?_); kernel_rfl; kernel_rfl; (with_reducible repeat (first | exact calm_firm | exact calm_round | exact calm_ret | refine calm_then ?_ | refine calm_in ?_ | refine calm_chk ?_ | refine calm_noGoto ?_))) | ((with_reducible refine chk_end ?_ ?_); kernel_rfl))
            have HC6 := Lib.hid ((HC4.out.1.no Hk.out HF5.out).no Hk.out HF6.out)
            have HM46 := Lib.hid (HF5.out.trans HF6.out fun _ _ e => e)
            have HM26 := Lib.hid ((((Mods.refl (fun b => b < wS.heap.size ∨ m ≤ b) W2).drew).trans HC4.out.2 fun _ _ e => e).trans (HM46.out.mono (T := fun b => b < wS.heap.size ∨ m ≤ b) no_sub) fun _ _ e => e)
            have HX6 := Lib.hid ((HX2.out.drew.mods HM34.out fun e => by rcases e with e | e; exact HhxF.out e; exact Hhxr.out e).mods HM46.out fun e => e)
            have HB6 := Lib.hid (HB4.out.mods HM46.out (fun _ _ e => e) fun e => e)
            have z0 := HX6.out.at_ 0 rfl
            have z1 := HX6.out.at_ 1 rfl
            have zl := HX6.out.lt
            have z9' : w6.cell? ⟨b9, 0, none⟩ = some ((.pointer (some ⟨q, 0, none⟩))) := HB6.out.c9.at_ 0 rfl
            have zl9 := HB6.out.c9.lt
            unfold ks at z0
            clear x0 x1 c14 c5 c6 c7 c9 c15 y6 y7 z9 zr zr5
            have hF4 : ∀ g, (Fd' g ∨ (W2.drew.heap.size ≤ g ∧ g < w3.heap.size)) → g ≠ Wr.heap.size := fun g hg e => by
              rcases hg with hg | hg
              · exact HhxF.out (e ▸ hg)
              · have h1 : W2.heap.size ≤ g := hg.1; omega
            obtain ⟨r1, r2, r3⟩ := drop_ref HC6.out.tg.qi x.1
            have hrd := fun w' (h : TwoL w' q r 65536 (dropQ s1 x.1).1 (srt s1) n0 (.slice B4 (srt s1).length e4) (fun g => (Fd' g ∨ (W2.drew.heap.size ≤ g ∧ g < w3.heap.size)) ∨ (w6.heap.size ≤ g ∧ g < w'.heap.size)) Fr4) => h.dropr x.1
            rw [← r2] at hrd
            have Hr2 := Lib.hid r1
            have hD := HC6.out.tg.two.dropq (by decide) x.1 Hhxm.out
            clear r1 r2 r3
            have Hhrd := Lib.hid hrd
            clear hrd
            have HhD := Lib.hid hD
            clear hD
            have HhF4 := Lib.hid hF4
            clear hF4
            unfold ks at HhD Hhrd
            gi_wp2_with (first | ((refine ⟨trivial, rfl, ?_⟩); gi_at_call 22; go_loud (refine ret_useR (HhD.out) ?_; rintro u7 w7 ⟨rfl, hm7, h7⟩; have HF7 := Lib.hid hm7; have HH7 := Lib.hid h7; have HX7 := Lib.hid (HX6.out.mods hm7 fun e => HhF4.out _ e rfl); have t0 := HX7.out.at_ 0 rfl; have t1 := HX7.out.at_ 1 rfl; (unfold ks at t0); have tl := HX7.out.lt; clear hm7 h7)) | ((refine ⟨trivial, rfl, ?_⟩); gi_at_call 23; go_loud (refine ret_useR (Hhrd.out _ HH7.out) ?_; rintro u8 w8 ⟨rfl, hm8, v8, Fr8, h8, hs8⟩; have HC8 := Lib.hid (HC6.out.turn Hk.out Hr2.out HF7.out hm8 h8 (fun g e => e.imp id fun e => e.1) (fun g e => (hs8 g e).imp id fun e => Nat.le_trans HF7.out.size e)); have HX8 := Lib.hid (HX7.out.mods hm8 Hhxr.out); have H158 := Lib.hid (HhC15.out.same HC8.out.1.sm HhG15.out); have q0 := HX8.out.at_ 0 rfl; have q1 := HX8.out.at_ 1 rfl; (unfold ks at q0); have ql := HX8.out.lt; have q14 := HC8.out.1.box.at_ 0 rfl; have ql14 := HC8.out.1.box.lt; have q15 := H158.out.at_ 0 rfl; have ql15 := H158.out.lt; have HC8c := Lib.hid HC8.out.1; have HO := Lib.hid (fun o => Own.alloc' HC8c.out.own o); clear hm8 h8 hs8)) | (gi_at_builtin; go_loud (refine wpListIn_append _ rfl (.tmp 108) (.tmp 110) 22 rfl 29 (.agg #[.string ⟨#[]⟩, .int .i64 0]) 2 24 Try.underlying22 infoDue rfl (by decide) (F := fun b => m ≤ b) (n := pre.length) (xs := entsL pre) (by rfl) (HO.out _) (G := fun g => g = w8.heap.size) (y := .slice (some ⟨w8.heap.size, 0, none⟩) 1 1) (m := 1) (news := [ks x.1, .int .i64 x.2]) (by rfl) (Rd.box _ #[ks x.1, .int .i64 x.2] _ rfl rfl (by decide)) (two_one' _ _) (by omega) (by decide) ?_; intro v4 w4 hown4 hm4 hlt4; have HB4 := Lib.hid ((HC8c.out.box.alloc _).mods hm4 (fun e => by have h1 : m ≤ b14 := HC8c.out.own.2 _ e; have h2 := Hk.out.b1.1; omega)); have k4 := HB4.out.at_ 0 rfl; have k5 := HB4.out.frozen 0; have k6 := ((H158.out.alloc _).mods hm4 (fun e => by have h1 : m ≤ b14 + 1 := HC8c.out.own.2 _ e; have h2 := HhG15.out.1.1; omega)).at_ 0 rfl; have HM4 := Lib.hid hm4; have HO4 := Lib.hid hown4; obtain ⟨A4, c4, rfl, _, _⟩ := hown4.form; clear hown4 hm4 hlt4)))
            obtain ⟨p1, p2⟩ := HC8c.out.put Hk.out rfl HO4.out HM4.out
            exact ⟨(HM26.out.trans HC8.out.2 fun _ _ e => e).trans p2 fun _ _ e => e, hnm, _, _, _, _, _, p1⟩
          · have he' : ((pre.length : Int) == at_) = false := by simpa using he
            clear he
            have HM2 := Lib.hid (Mods.refl (fun b => b < wS.heap.size ∨ m ≤ b) W2)
            have HO := Lib.hid (fun o => Own.alloc' Hc2.out.own o)
            gi_wp2_with (first | (gi_at_builtin; go_loud (refine wpListIn_append _ rfl (.tmp 108) (.tmp 110) 22 rfl 29 (.agg #[.string ⟨#[]⟩, .int .i64 0]) 2 24 Try.underlying22 infoDue rfl (by decide) (F := fun b => m ≤ b) (n := pre.length) (xs := entsL pre) (by rfl) (HO.out _) (G := fun g => g = W2.heap.size) (y := .slice (some ⟨W2.heap.size, 0, none⟩) 1 1) (m := 1) (news := [ks x.1, .int .i64 x.2]) (by rfl) (Rd.box _ #[ks x.1, .int .i64 x.2] _ rfl rfl (by decide)) (two_one' _ _) (by omega) (by decide) ?_; intro v4 w4 hown4 hm4 hlt4; have HB4 := Lib.hid ((Hc2.out.box.alloc _).mods hm4 (fun e => by have h1 : m ≤ b14 := Hc2.out.own.2 _ e; have h2 := Hk.out.b1.1; omega)); have k4 := HB4.out.at_ 0 rfl; have k5 := HB4.out.frozen 0; have k6 := ((H15.out.alloc _).mods hm4 (fun e => by have h1 : m ≤ b14 + 1 := Hc2.out.own.2 _ e; have h2 := HhG15.out.1.1; omega)).at_ 0 rfl; have HM4 := Lib.hid hm4; have HO4 := Lib.hid hown4; obtain ⟨A4, c4, rfl, _, _⟩ := hown4.form; clear hown4 hm4 hlt4)))
            obtain ⟨p1, p2⟩ := Hc2.out.put Hk.out rfl HO4.out HM4.out
            exact ⟨HM2.out.trans p2 fun _ _ e => e, hnm, _, _, _, _, _, p1⟩
        case hdone =>
          rintro D m Wr hD hm ⟨hnm, u, s', v', Fd', Fr', hc⟩ hKD
          have k := HhK.out m hnm
          have Hc := Lib.hid hc
          clear hc
          have HB := Lib.hid (HhBS.out.same Hc.out.sm (fun g hg => HhG.out g (.inl hg)) (HhG.out b9 (.inr rfl)))
          have H15 := Lib.hid (HhC15.out.same Hc.out.sm HhG15.out)
          have HRd := Lib.hid (HhrdS.out.same (w' := Wr) fun g hg => Hc.out.sm g (HhRS.out g hg))
          obtain ⟨A', c', rfl, _, _⟩ := Hc.out.own.form
          obtain ⟨B', e', rfl⟩ := Hc.out.tg.two.form
          have c14 := Hc.out.box.at_ 0 rfl
          have l14 := Hc.out.box.lt
          have c15 := H15.out.at_ 0 rfl
          have l15 := H15.out.lt
          have c5 := HB.out.c5.at_ 0 rfl
          have c9 : Wr.cell? ⟨b9, 0, none⟩ = some ((.pointer (some ⟨q, 0, none⟩))) := HB.out.c9.at_ 0 rfl
          have l9 := HB.out.c9.lt
          have cr := Hc.out.tg.two.cells.at_ 1 rfl
          have lr := Hc.out.tg.two.cells.lt
          have hs5 := Hc.out.tg.two.hr.small
          have hL5 := srt_len s'
          have hce : (srt s').length ≤ e' := Hc.out.tg.two.hr.rd.cap
          have Hk := Lib.hid k
          clear k
          have HhKD := Lib.hid hKD
          clear hKD
          have HhL5 := Lib.hid hL5
          clear hL5
          rcases Int.lt_or_le at_ 0 with h1 | h1
          · have h1' : decide (at_ < 0) = true := decide_eq_true h1
            have hmm : 0 ≤ (srt s').length := by omega
            have HR := Lib.hid (fun w' (h : TwoG w' q r s' n0 (.slice B' (srt s').length e') Fd' Fr' (G2 wS.heap.size r Fd)) => (h.two.hr.rd.take hmm).of_take hmm)
            go_wp2_with (first | ((with_reducible refine wp_region_two 25 (fun g => g = r) [8, 21] 6 19 ?_ ?_ ?_ ?_ ?_); kernel_rfl; kernel_rfl; kernel_rfl; (with_reducible repeat (first | exact calm_firm | exact calm_round | exact calm_ret | refine calm_then ?_ | refine calm_in ?_ | refine calm_chk ?_ | refine calm_noGoto ?_)); simp only [List.drop_succ_cons, List.drop_zero, List.take_succ_cons, List.take_zero]) | (with_reducible refine segEnd ?_) | (refine And.intro (Keep.one HF6.out HT5.out.two.cells (fun e => e)) ?_) | (refine And.intro (Keep.one HF8.out HT7.out.two.cells (fun e => e)) ?_) | ((with_reducible refine chkM_end (fun g => g = r) ?_ [.pointer (some ⟨r, 1, none⟩), .pointer (some ⟨r, 1, none⟩)] ?_ ?_ ?_); kernel_rfl; kernel_rfl; (intro v hv x hx; simp only [List.mem_cons, List.not_mem_nil, or_false] at hv; rcases hv with rfl | rfl <;> (injection hx with hx; injection hx with hx; subst hx; simp))) | (go_at_call 19; (fail_if_success have := HT5); go_loud (refine ret_use (same_yes Wr.drew (fun g => g < Wr.heap.size) Fr _ _ (srt s) ((Rd.of_own (F := fun g => g < Wr.heap.size) Hc.out.own.1 fun g hg => Hc.out.own.lt g hg).same (Same.drew _ _)) (HRd.out.same (Same.drew _ _)) (fun _ e => e) (fun g hg => Nat.lt_of_lt_of_le (HhRS.out g hg).1.1 (Nat.le_trans hnm Hc.out.le))) ?_; rintro u5 w5 ⟨rfl, hm5⟩; have HM5 := Lib.hid ((Mods.refl No Wr).drew.trans hm5 fun _ _ e => e); have HT5 := Lib.hid (Hc.out.tg.no HM5.out); have a9 := (HB.out.c9.mods HM5.out fun e => e).at_ 0 rfl; have ar := HT5.out.two.cells.at_ 1 rfl; clear hm5)) | (go_at_call 20; (fail_if_success have := HT6); go_loud (refine ret_use (allt_K _ q s' Fd' 0 0 rfl HT5.out.two.hq) ?_; rintro u6 w6 ⟨ho6, hm6⟩; have HO6 := Lib.hid ho6; have HF6 := Lib.hid hm6; have HM6 := Lib.hid (HM5.out.trans hm6 fun _ _ e => e); have HT6 := Lib.hid (HT5.out.no hm6); have br := HT6.out.two.cells.at_ 1 rfl; have b9' := (HB.out.c9.mods HM6.out fun e => e).at_ 0 rfl; clear ho6 hm6)) | (go_at_call 19; (fail_if_success have := HT7); go_loud (refine ret_use (same_yes _ (fun g => g < w6.heap.size) Fr' _ _ ((srt s').take 0) (Rd.of_own HO6.out.1 fun g hg => HO6.out.lt g hg) (HR.out _ HT6.out) (fun _ e => e) HT6.out.two.hr.lt) ?_; rintro u7 w7 ⟨rfl, hm7⟩; have HM7 := Lib.hid (HM6.out.trans hm7 fun _ _ e => e); have HT7 := Lib.hid (HT6.out.no hm7); have d9 := (HB.out.c9.mods HM7.out fun e => e).at_ 0 rfl; have dr := HT7.out.two.cells.at_ 1 rfl; clear hm7)) | (go_at_call 20; go_loud (refine ret_use (HT7.out.two.all (by decide) _ (by have := HhL5.out; omega)) ?_; rintro u8 w8 ⟨ho8, hm8⟩; have HO8 := Lib.hid ho8; have HF8 := Lib.hid hm8; have HM8 := Lib.hid (HM7.out.trans hm8 fun _ _ e => e); have HT8 := Lib.hid (HT7.out.no hm8); have er := HT8.out.two.cells.at_ 1 rfl; clear ho8 hm8)) | (go_at_call 19; go_loud (refine ret_use (same_yes _ (fun g => g < w8.heap.size) Fr' _ _ (srt s') (Rd.of_own HO8.out.1 fun g hg => HO8.out.lt g hg) HT8.out.two.hr.rd (fun _ e => e) HT8.out.two.hr.lt) ?_; rintro u9 w9 ⟨rfl, hm9⟩; have HM9 := Lib.hid (HM8.out.trans hm9 fun _ _ e => e); clear hm9)) | (go_at_call 15; go_loud (refine ret_use (alive_K _) ?_; rintro v w10 ⟨rfl, hm10⟩; have HM10 := Lib.hid (HM9.out.trans hm10 fun _ _ e => e); have HB10 := Lib.hid (HB.out.mods HM10.out (fun _ _ e => e) fun e => e); have g8 := HB10.out.c8.at_ 0 rfl; have gf := HB10.out.c8.frozen 0; have gl := HB10.out.c8.lt; clear hm10)) | ((with_reducible refine wp_region_por ?_ ?_ ?_ ?_); kernel_rfl; kernel_rfl; (with_reducible repeat (first | exact calm_firm | exact calm_round | exact calm_ret | refine calm_then ?_ | refine calm_in ?_ | refine calm_chk ?_ | refine calm_noGoto ?_))) | ((with_reducible refine chk_end ?_ ?_); kernel_rfl))
            have hDW : w10.heap[D]? = some (.deferred (some [])) := (HM10.out.block D (Array.getElem?_eq_some_iff.1 HhKD.out).1 fun e => e).trans HhKD.out
            have hne : b + 1 + 1 + 1 ≠ D := by
              intro e
              have h1 := HB10.out.c8
              rw [e] at h1
              unfold Cells at h1
              rw [hDW] at h1
              cases h1
            refine firm_mark (b + 1 + 1 + 1) true rfl ((Below.heap_setCell _ _ _ D (Ne.symm hne)).trans hDW) (HB10.out.c8.set_ 0 (.bool true)) ⟨rfl, ?_⟩
            exact ((Hc.out.hm.trans HM10.out fun _ _ e => e).setCell _ _ fun h => by exfalso; simp at h; omega).trans (mods_putObj (S := fun b => b = D) _ D _ rfl) fun g hg e => by have := HhMW0.out.size; omega
          · have h1' : decide (at_ < 0) = false := decide_eq_false (by omega)
            rcases Int.lt_or_le ((srt s').length : Int) at_ with h2 | h2
            · have h2' : decide (((srt s').length : Int) < at_) = true := decide_eq_true h2
              have hmm : 0 ≤ (srt s').length := by omega
              have HR := Lib.hid (fun w' (h : TwoG w' q r s' n0 (.slice B' (srt s').length e') Fd' Fr' (G2 wS.heap.size r Fd)) => (h.two.hr.rd.take hmm).of_take hmm)
              go_wp2_with (first | ((with_reducible refine wp_region_two 25 (fun g => g = r) [8, 21] 6 19 ?_ ?_ ?_ ?_ ?_); kernel_rfl; kernel_rfl; kernel_rfl; (with_reducible repeat (first | exact calm_firm | exact calm_round | exact calm_ret | refine calm_then ?_ | refine calm_in ?_ | refine calm_chk ?_ | refine calm_noGoto ?_)); simp only [List.drop_succ_cons, List.drop_zero, List.take_succ_cons, List.take_zero]) | (with_reducible refine segEnd ?_) | (refine And.intro (Keep.one HF6.out HT5.out.two.cells (fun e => e)) ?_) | (refine And.intro (Keep.one HF8.out HT7.out.two.cells (fun e => e)) ?_) | ((with_reducible refine chkM_end (fun g => g = r) ?_ [.pointer (some ⟨r, 1, none⟩), .pointer (some ⟨r, 1, none⟩)] ?_ ?_ ?_); kernel_rfl; kernel_rfl; (intro v hv x hx; simp only [List.mem_cons, List.not_mem_nil, or_false] at hv; rcases hv with rfl | rfl <;> (injection hx with hx; injection hx with hx; subst hx; simp))) | (go_at_call 19; (fail_if_success have := HT5); go_loud (refine ret_use (same_yes Wr.drew (fun g => g < Wr.heap.size) Fr _ _ (srt s) ((Rd.of_own (F := fun g => g < Wr.heap.size) Hc.out.own.1 fun g hg => Hc.out.own.lt g hg).same (Same.drew _ _)) (HRd.out.same (Same.drew _ _)) (fun _ e => e) (fun g hg => Nat.lt_of_lt_of_le (HhRS.out g hg).1.1 (Nat.le_trans hnm Hc.out.le))) ?_; rintro u5 w5 ⟨rfl, hm5⟩; have HM5 := Lib.hid ((Mods.refl No Wr).drew.trans hm5 fun _ _ e => e); have HT5 := Lib.hid (Hc.out.tg.no HM5.out); have a9 := (HB.out.c9.mods HM5.out fun e => e).at_ 0 rfl; have ar := HT5.out.two.cells.at_ 1 rfl; clear hm5)) | (go_at_call 20; (fail_if_success have := HT6); go_loud (refine ret_use (allt_K _ q s' Fd' 0 0 rfl HT5.out.two.hq) ?_; rintro u6 w6 ⟨ho6, hm6⟩; have HO6 := Lib.hid ho6; have HF6 := Lib.hid hm6; have HM6 := Lib.hid (HM5.out.trans hm6 fun _ _ e => e); have HT6 := Lib.hid (HT5.out.no hm6); have br := HT6.out.two.cells.at_ 1 rfl; have b9' := (HB.out.c9.mods HM6.out fun e => e).at_ 0 rfl; clear ho6 hm6)) | (go_at_call 19; (fail_if_success have := HT7); go_loud (refine ret_use (same_yes _ (fun g => g < w6.heap.size) Fr' _ _ ((srt s').take 0) (Rd.of_own HO6.out.1 fun g hg => HO6.out.lt g hg) (HR.out _ HT6.out) (fun _ e => e) HT6.out.two.hr.lt) ?_; rintro u7 w7 ⟨rfl, hm7⟩; have HM7 := Lib.hid (HM6.out.trans hm7 fun _ _ e => e); have HT7 := Lib.hid (HT6.out.no hm7); have d9 := (HB.out.c9.mods HM7.out fun e => e).at_ 0 rfl; have dr := HT7.out.two.cells.at_ 1 rfl; clear hm7)) | (go_at_call 20; go_loud (refine ret_use (HT7.out.two.all (by decide) _ (by have := HhL5.out; omega)) ?_; rintro u8 w8 ⟨ho8, hm8⟩; have HO8 := Lib.hid ho8; have HF8 := Lib.hid hm8; have HM8 := Lib.hid (HM7.out.trans hm8 fun _ _ e => e); have HT8 := Lib.hid (HT7.out.no hm8); have er := HT8.out.two.cells.at_ 1 rfl; clear ho8 hm8)) | (go_at_call 19; go_loud (refine ret_use (same_yes _ (fun g => g < w8.heap.size) Fr' _ _ (srt s') (Rd.of_own HO8.out.1 fun g hg => HO8.out.lt g hg) HT8.out.two.hr.rd (fun _ e => e) HT8.out.two.hr.lt) ?_; rintro u9 w9 ⟨rfl, hm9⟩; have HM9 := Lib.hid (HM8.out.trans hm9 fun _ _ e => e); clear hm9)) | (go_at_call 15; go_loud (refine ret_use (alive_K _) ?_; rintro v w10 ⟨rfl, hm10⟩; have HM10 := Lib.hid (HM9.out.trans hm10 fun _ _ e => e); have HB10 := Lib.hid (HB.out.mods HM10.out (fun _ _ e => e) fun e => e); have g8 := HB10.out.c8.at_ 0 rfl; have gf := HB10.out.c8.frozen 0; have gl := HB10.out.c8.lt; clear hm10)) | ((with_reducible refine wp_region_por ?_ ?_ ?_ ?_); kernel_rfl; kernel_rfl; (with_reducible repeat (first | exact calm_firm | exact calm_round | exact calm_ret | refine calm_then ?_ | refine calm_in ?_ | refine calm_chk ?_ | refine calm_noGoto ?_))) | ((with_reducible refine chk_end ?_ ?_); kernel_rfl))
              have hDW : w10.heap[D]? = some (.deferred (some [])) := (HM10.out.block D (Array.getElem?_eq_some_iff.1 HhKD.out).1 fun e => e).trans HhKD.out
              have hne : b + 1 + 1 + 1 ≠ D := by
                intro e
                have h1 := HB10.out.c8
                rw [e] at h1
                unfold Cells at h1
                rw [hDW] at h1
                cases h1
              refine firm_mark (b + 1 + 1 + 1) true rfl ((Below.heap_setCell _ _ _ D (Ne.symm hne)).trans hDW) (HB10.out.c8.set_ 0 (.bool true)) ⟨rfl, ?_⟩
              exact ((Hc.out.hm.trans HM10.out fun _ _ e => e).setCell _ _ fun h => by exfalso; simp at h; omega).trans (mods_putObj (S := fun b => b = D) _ D _ rfl) fun g hg e => by have := HhMW0.out.size; omega
            · obtain ⟨mm, rfl⟩ : ∃ mm : Nat, at_ = (mm : Int) := ⟨at_.toNat, by omega⟩
              have h2' : decide ((srt s').length < mm) = false := decide_eq_false (by omega)
              have hmm : mm ≤ (srt s').length := by omega
              have HR := Lib.hid (fun w' (h : TwoG w' q r s' n0 (.slice B' (srt s').length e') Fd' Fr' (G2 wS.heap.size r Fd)) => (h.two.hr.rd.take hmm).of_take hmm)
              go_wp2_with (first | ((with_reducible refine wp_region_two 25 (fun g => g = r) [8, 21] 6 19 ?_ ?_ ?_ ?_ ?_); kernel_rfl; kernel_rfl; kernel_rfl; (with_reducible repeat (first | exact calm_firm | exact calm_round | exact calm_ret | refine calm_then ?_ | refine calm_in ?_ | refine calm_chk ?_ | refine calm_noGoto ?_)); simp only [List.drop_succ_cons, List.drop_zero, List.take_succ_cons, List.take_zero]) | (with_reducible refine segEnd ?_) | (refine And.intro (Keep.one HF6.out HT5.out.two.cells (fun e => e)) ?_) | (refine And.intro (Keep.one HF8.out HT7.out.two.cells (fun e => e)) ?_) | ((with_reducible refine chkM_end (fun g => g = r) ?_ [.pointer (some ⟨r, 1, none⟩), .pointer (some ⟨r, 1, none⟩)] ?_ ?_ ?_); kernel_rfl; kernel_rfl; (intro v hv x hx; simp only [List.mem_cons, List.not_mem_nil, or_false] at hv; rcases hv with rfl | rfl <;> (injection hx with hx; injection hx with hx; subst hx; simp))) | (go_at_call 19; (fail_if_success have := HT5); go_loud (refine ret_use (same_yes Wr.drew (fun g => g < Wr.heap.size) Fr _ _ (srt s) ((Rd.of_own (F := fun g => g < Wr.heap.size) Hc.out.own.1 fun g hg => Hc.out.own.lt g hg).same (Same.drew _ _)) (HRd.out.same (Same.drew _ _)) (fun _ e => e) (fun g hg => Nat.lt_of_lt_of_le (HhRS.out g hg).1.1 (Nat.le_trans hnm Hc.out.le))) ?_; rintro u5 w5 ⟨rfl, hm5⟩; have HM5 := Lib.hid ((Mods.refl No Wr).drew.trans hm5 fun _ _ e => e); have HT5 := Lib.hid (Hc.out.tg.no HM5.out); have a9 := (HB.out.c9.mods HM5.out fun e => e).at_ 0 rfl; have ar := HT5.out.two.cells.at_ 1 rfl; clear hm5)) | (go_at_call 20; (fail_if_success have := HT6); go_loud (refine ret_use (allt_K _ q s' Fd' mm (mm : Int) rfl HT5.out.two.hq) ?_; rintro u6 w6 ⟨ho6, hm6⟩; have HO6 := Lib.hid ho6; have HF6 := Lib.hid hm6; have HM6 := Lib.hid (HM5.out.trans hm6 fun _ _ e => e); have HT6 := Lib.hid (HT5.out.no hm6); have br := HT6.out.two.cells.at_ 1 rfl; have b9' := (HB.out.c9.mods HM6.out fun e => e).at_ 0 rfl; clear ho6 hm6)) | (go_at_call 19; (fail_if_success have := HT7); go_loud (refine ret_use (same_yes _ (fun g => g < w6.heap.size) Fr' _ _ ((srt s').take mm) (Rd.of_own HO6.out.1 fun g hg => HO6.out.lt g hg) (HR.out _ HT6.out) (fun _ e => e) HT6.out.two.hr.lt) ?_; rintro u7 w7 ⟨rfl, hm7⟩; have HM7 := Lib.hid (HM6.out.trans hm7 fun _ _ e => e); have HT7 := Lib.hid (HT6.out.no hm7); have d9 := (HB.out.c9.mods HM7.out fun e => e).at_ 0 rfl; have dr := HT7.out.two.cells.at_ 1 rfl; clear hm7)) | (go_at_call 20; go_loud (refine ret_use (HT7.out.two.all (by decide) _ (by have := HhL5.out; omega)) ?_; rintro u8 w8 ⟨ho8, hm8⟩; have HO8 := Lib.hid ho8; have HF8 := Lib.hid hm8; have HM8 := Lib.hid (HM7.out.trans hm8 fun _ _ e => e); have HT8 := Lib.hid (HT7.out.no hm8); have er := HT8.out.two.cells.at_ 1 rfl; clear ho8 hm8)) | (go_at_call 19; go_loud (refine ret_use (same_yes _ (fun g => g < w8.heap.size) Fr' _ _ (srt s') (Rd.of_own HO8.out.1 fun g hg => HO8.out.lt g hg) HT8.out.two.hr.rd (fun _ e => e) HT8.out.two.hr.lt) ?_; rintro u9 w9 ⟨rfl, hm9⟩; have HM9 := Lib.hid (HM8.out.trans hm9 fun _ _ e => e); clear hm9)) | (go_at_call 15; go_loud (refine ret_use (alive_K _) ?_; rintro v w10 ⟨rfl, hm10⟩; have HM10 := Lib.hid (HM9.out.trans hm10 fun _ _ e => e); have HB10 := Lib.hid (HB.out.mods HM10.out (fun _ _ e => e) fun e => e); have g8 := HB10.out.c8.at_ 0 rfl; have gf := HB10.out.c8.frozen 0; have gl := HB10.out.c8.lt; clear hm10)) | ((with_reducible refine wp_region_por ?_ ?_ ?_ ?_); kernel_rfl; kernel_rfl; (with_reducible repeat (first | exact calm_firm | exact calm_round | exact calm_ret | refine calm_then ?_ | refine calm_in ?_ | refine calm_chk ?_ | refine calm_noGoto ?_))) | ((with_reducible refine chk_end ?_ ?_); kernel_rfl))
              have hDW : w10.heap[D]? = some (.deferred (some [])) := (HM10.out.block D (Array.getElem?_eq_some_iff.1 HhKD.out).1 fun e => e).trans HhKD.out
              have hne : b + 1 + 1 + 1 ≠ D := by
                intro e
                have h1 := HB10.out.c8
                rw [e] at h1
                unfold Cells at h1
                rw [hDW] at h1
                cases h1
              refine firm_mark (b + 1 + 1 + 1) true rfl ((Below.heap_setCell _ _ _ D (Ne.symm hne)).trans hDW) (HB10.out.c8.set_ 0 (.bool true)) ⟨rfl, ?_⟩
              exact ((Hc.out.hm.trans HM10.out fun _ _ e => e).setCell _ _ fun h => by exfalso; simp at h; omega).trans (mods_putObj (S := fun b => b = D) _ D _ rfl) fun g hg e => by have := HhMW0.out.size; omega
        case hstop =>
          intro D m c pre Wr hD hm hpx h hKD
          exact h.elim
end Go.Proofs.Ytmfpgghpnkmkpaa
