/- The law file's helper ends. -/
import Derived.Test.YtmfpgghpnkmkpaaDoorSinkFr
namespace Go.Proofs.YtmfpgghpnkmkpaaDoor
open Go.RowKit Go.Tum
/-- a row of bools, n + 1 of them -/
def Marks (w : World) (nb n : Nat) (f : Nat → Bool) : Prop := ∃ arr : Array Value, Cells w nb 4 arr ∧ arr.size = n + 1 ∧ ∀ j, j ≤ n → arr[j]? = some (.bool (f j))
theorem Marks.at_ {w : World} {nb n : Nat} {f : Nat → Bool} (h : Marks w nb n f) {j : Nat} (hj : j ≤ n) : w.cell? ⟨nb, j, none⟩ = some (.bool (f j)) := by
  obtain ⟨arr, hc, _, ha⟩ := h
  exact hc.at_ j (ha j hj)
theorem Marks.frozen {w : World} {nb n : Nat} {f : Nat → Bool} (h : Marks w nb n f) (j : Nat) : w.frozen? ⟨nb, j, none⟩ = false := by
  obtain ⟨arr, hc, _, _⟩ := h
  exact hc.frozen j
theorem Marks.lt {w : World} {nb n : Nat} {f : Nat → Bool} (h : Marks w nb n f) : nb < w.heap.size := by
  obtain ⟨arr, hc, _, _⟩ := h
  exact hc.lt
theorem Marks.set_ {w : World} {nb n : Nat} {f : Nat → Bool} (h : Marks w nb n f) (i : Nat) : Marks (w.setCell ⟨nb, i, none⟩ (.bool true)) nb n (fun m => if m = i then true else f m) := by
  obtain ⟨arr, hc, hs, ha⟩ := h
  refine ⟨_, hc.set_ i (.bool true), by simpa using hs, fun j hj => ?_⟩
  rw [Array.getElem?_setIfInBounds]
  by_cases e : i = j
  · subst e
    simp [hs]
    omega
  · have e' : ¬ j = i := fun h => e h.symm
    simp [e, e', ha j hj]
theorem Marks.keep {w w' : World} {nb n : Nat} {f : Nat → Bool} (h : Marks w nb n f) (hm : Mods No w w') : Marks w' nb n f := by
  obtain ⟨arr, hc, hs, ha⟩ := h
  exact ⟨arr, hc.mods hm fun e => e, hs, ha⟩
theorem has_M (w : World) (F : Nat → Prop) (v : Value) (l : List Int) (n : Int) (h : Rd w F 1 v l.length (vis l)) (hn : l.length ≤ 1000000000) (b : Bool) (hb : decide (n ∈ l) = b) :
    Calls Tryd.prog 19 #[v, .int .i64 n] w (Ret fun v' w' => v' = .bool b ∧ Mods No w w') :=
  (has_K w F v l n h hn).mono fun e w' he => by
    cases e with
    | returned v =>
      obtain ⟨rfl, d, rfl⟩ := he
      exact ⟨by rw [hb], (Mods.refl _ _).drewN d⟩
    | panicked c => exact he
    | outgrown => exact he
theorem ext_list (l : List UInt8) (a c : Nat) : ((ByteArray.mk l.toArray).extract a c).toList = (l.take c).drop a := by
  rw [ByteArray.toList_eq]
  simp [ByteArray.data_extract, List.drop_take]
theorem ext_drop (l : List UInt8) (a : Nat) : (ByteArray.mk l.toArray).extract a l.length = ByteArray.mk (l.drop a).toArray := by
  apply ByteArray.ext
  apply Array.ext'
  simp only [ByteArray.data_extract, List.extract_toArray, List.extract_eq_take_drop]
  exact List.take_of_length_le (by simp)
def EndsPost (n : Nat) (l : List (List UInt8)) (wh : List Int) (fl : Bool) (bytes : List UInt8) (k nb : Nat) (f : Nat → Bool) (w w' : World) : Prop :=
  ∃ f', Marks w' nb n f' ∧ (∀ m, f m = true → f' m = true) ∧ (∀ m, Fits l wh fl bytes k m → f' m = true) ∧ Mods (fun g => g = nb) w w'
theorem bytes_nil (a : List UInt8) : ((ByteArray.mk a.toArray).toList == (ByteArray.mk #[]).toList) = decide (a = []) := string_ne a []
theorem fits_end {l : List (List UInt8)} {wh : List Int} {fl : Bool} {rest : List UInt8} {j m : Nat} (h : Fits l wh fl rest j m) (hj : j = l.length) : rest = [] ∧ m = j := by
  have hn : l[j]? = none := List.getElem?_eq_none (by omega)
  rcases h.inv with ⟨h1, h2, _⟩ | ⟨h1, _⟩ | ⟨b, h1, _⟩ | ⟨b, r, h1, _⟩
  · exact ⟨h1, h2⟩
  all_goals rw [hn] at h1; cases h1
theorem fits_skip {l : List (List UInt8)} {wh : List Int} {fl : Bool} {rest : List UInt8} {j m : Nat} (h : Fits l wh fl rest j m) (hj : l[j]? = some []) : (rest = [] ∧ m = j) ∨ Fits l wh fl rest (j + 1) m := by
  rcases h.inv with ⟨h1, h2, _⟩ | ⟨_, h1⟩ | ⟨b, h1, h2, _⟩ | ⟨b, r, h1, h2, _⟩
  · exact .inl ⟨h1, h2⟩
  · exact .inr h1
  all_goals rw [hj] at h1; injection h1 with h1; exact absurd h1.symm h2
theorem fits_lost {l : List (List UInt8)} {wh : List Int} {fl : Bool} {rest b : List UInt8} {j m : Nat} (h : Fits l wh fl rest j m) (hj : l[j]? = some b) (hb : b ≠ []) (hw : (j : Int) ∉ wh) :
    (rest = [] ∧ m = j) ∨ (fl = true ∧ rest.length < b.length ∧ b.take rest.length = rest ∧ m = j + 1) := by
  rcases h.inv with ⟨h1, h2, _⟩ | ⟨h1, _⟩ | ⟨b', h1, _, _, h4, h5, h6, h7⟩ | ⟨b', r, h1, _, h3, _⟩
  · exact .inl ⟨h1, h2⟩
  · rw [hj] at h1; injection h1 with h1; exact absurd h1 hb
  · rw [hj] at h1; injection h1 with h1; subst h1; exact .inr ⟨h4, h5, h6, h7⟩
  · exact absurd h3 hw
theorem fits_whole {l : List (List UInt8)} {wh : List Int} {fl : Bool} {rest b : List UInt8} {j m : Nat} (h : Fits l wh fl rest j m) (hj : l[j]? = some b) (hb : b ≠ []) (hw : (j : Int) ∈ wh) :
    (rest = [] ∧ m = j) ∨ ∃ r, rest = b ++ r ∧ Fits l wh fl r (j + 1) m := by
  rcases h.inv with ⟨h1, h2, _⟩ | ⟨h1, _⟩ | ⟨b', h1, _, h3, _⟩ | ⟨b', r, h1, _, _, h4, h5⟩
  · exact .inl ⟨h1, h2⟩
  · rw [hj] at h1; injection h1 with h1; exact absurd h1 hb
  · exact absurd hw h3
  · rw [hj] at h1; injection h1 with h1; subst h1; exact .inr ⟨r, h4, h5⟩
set_option maxHeartbeats 8000000 in
set_option maxRecDepth 100000 in
theorem ends_K (w : World) (F : Nat → Prop) (cv wv kv : Value) (bvs : List Value) (s : SinkS) (L : List (Value × List UInt8)) (A : Option Addr) (cl i k nb : Nat) (c : ConnS) (f : Nat → Bool) (hrep : RepRd w F s cv wv kv bvs) (hl : Rd w F 1 (.slice A L.length cl) L.length (L.map (·.1))) (hr : ∀ a ∈ L, Rd w F 1 a.1 a.2.length (vbs a.2))
    (hF : ∀ g, F g → g < w.heap.size ∧ g ≠ nb) (hc : s.conns[i]? = some c) (hk : k ≤ L.length) (hm : Marks w nb L.length f) (n1 : s.conns.length ≤ 1048576) (n2 : s.whole.length ≤ 1048576) (nl : L.length ≤ 1048576) :
    Calls Tryd.prog 18 #[.agg #[cv, wv, kv, .int .i64 s.writes], .slice A L.length cl, .int .i64 i, .int .i64 k, .slice (some ⟨nb, 0, none⟩) (L.length + 1) (L.length + 1)] w (Ret fun _ w' => EndsPost L.length (L.map (·.2)) s.whole c.failed c.bytes k nb f w w') := by
  have hlen := hrep.len
  have hilt := (List.getElem?_eq_some_iff.1 hc).1
  obtain ⟨bv, hbv⟩ : ∃ bv, bvs[i]? = some bv := ⟨_, List.getElem?_eq_getElem (by omega)⟩
  obtain ⟨Aw, cw, rfl, _, _⟩ := hrep.whole.form
  obtain ⟨Ak, ck, rfl, _, _⟩ := hrep.lost.form
  obtain ⟨gc, oc, cc, rfl, hgc, hcc⟩ := hrep.conns.cells (by omega)
  have hcell := conCells_at bvs s.conns i bv c hbv hc
  have e0 := hcc (i * 2) (by omega)
  have e1 := hcc (i * 2 + 1) (by omega)
  rw [hcell.1] at e0
  rw [hcell.2] at e1
  rw [← Nat.add_assoc] at e1
  have hbr := hrep.each i bv c hbv hc
  obtain ⟨Ab, cb, rfl, _, _⟩ := hbr.form
  have hnlt := hm.lt
  have k0 := Cells.new w 38 #[.slice (some ⟨gc, oc, none⟩) s.conns.length cc, .slice Aw s.whole.length cw, .slice Ak s.lost.length ck, .int .i64 s.writes]
  have m0 := (Mods.refl No w).alloc (.cells #[.slice (some ⟨gc, oc, none⟩) s.conns.length cc, .slice Aw s.whole.length cw, .slice Ak s.lost.length ck, .int .i64 s.writes] 38)
  have hkd : w.heap.size ≠ nb := by omega
  have hzW : (w.alloc (.cells #[.slice (some ⟨gc, oc, none⟩) s.conns.length cc, .slice Aw s.whole.length cw, .slice Ak s.lost.length ck, .int .i64 s.writes] 38)).heap.size = w.heap.size + 1 := by simp
  generalize hW0 : w.alloc (.cells #[.slice (some ⟨gc, oc, none⟩) s.conns.length cc, .slice Aw s.whole.length cw, .slice Ak s.lost.length ck, .int .i64 s.writes] 38) = W0 at k0 m0 hzW
  have hgcl := hF gc hgc
  have d0 := (World.cell?_of_block (a := ⟨gc, oc + i * 2, none⟩) (m0.block gc hgcl.1 fun e => e)).trans e0
  have d1 := (World.cell?_of_block (a := ⟨gc, oc + i * 2 + 1, none⟩) (m0.block gc hgcl.1 fun e => e)).trans e1
  have x0 := k0.at_ 0 rfl
  have hsF : ∀ W, Mods (fun g => g = nb) W0 W → Same F w W := fun W hW g hg => (hW.block g (by have := (hF g hg).1; omega) (hF g hg).2).trans (m0.block g (hF g hg).1 fun e => e)
  have hcv0 := run_convert_rd (P := Tryd.prog) W0 30 9 5 Tryd.underlying30 Tryd.underlying5 Tryd.underlying9 (hbr.same (hsF W0 (Mods.refl _ _)))
  have hmW := hm.keep m0
  have hgl := hgcl.1
  have hb0 : c.bytes.length ≤ c.bytes.length := Nat.le_refl _
  rw [← hW0] at hcv0
  clear hcell hcc hbv e1 hlen d0 x0
  have Hd1c := Lib.hid d1
  clear d1
  have Hhrep := Lib.hid hrep
  clear hrep
  have Hhl := Lib.hid hl
  clear hl
  have Hhr := Lib.hid hr
  clear hr
  have HhF := Lib.hid hF
  clear hF
  have Hhc := Lib.hid hc
  clear hc
  have Hhm := Lib.hid hm
  clear hm
  have Hk0 := Lib.hid k0
  clear k0
  have Hm0 := Lib.hid m0
  clear m0
  have HhW0 := Lib.hid hW0
  clear hW0
  have Hhbr := Lib.hid hbr
  clear hbr
  have HhsF := Lib.hid hsF
  clear hsF
  have HhmW := Lib.hid hmW
  clear hmW
  have HhzW := Lib.hid hzW
  clear hzW
  go_enter Tryd.func18, Tryd.ntmps18
  go_wp2_with (first | ((with_reducible refine wp_region_por ?_ ?_ ?_ ?_); kernel_rfl; kernel_rfl; (with_reducible repeat (first | exact calm_ret | refine calm_then ?_ | refine calm_in ?_ | refine calm_chk ?_ | refine calm_noGoto ?_))) | ((with_reducible refine chk_end ?_ ?_); kernel_rfl))
  rw [HhW0.out]
  clear hcv0 e0
  go_loopg [10, 11] (L.length + 1) (fun kk v10 v11 wr => ∃ rest j g, v10 = .string ⟨rest.toArray⟩ ∧ v11 = .int .i64 (j : Nat) ∧ kk + j = L.length + 1 + k ∧ j ≤ L.length ∧ (∀ m, f m = true → g m = true) ∧
    (∀ m, Fits (L.map (·.2)) s.whole c.failed c.bytes k m → g m = true ∨ Fits (L.map (·.2)) s.whole c.failed rest j m) ∧ Marks wr nb L.length g ∧ Mods (fun g => g = nb) W0 wr ∧ rest.length ≤ c.bytes.length)
  case atStart => exact ⟨c.bytes, k, f, rfl, rfl, by omega, hk, fun _ h => h, fun _ h => .inr h, HhmW.out, Mods.refl _ _, Nat.le_refl _⟩
  case round =>
    obtain ⟨rest, j, g, rfl, rfl, hkk, hj, hup, hfit, hmk, hmod, hrl⟩ := hrel
    have hjl' : decide (j ≤ L.length) = true := decide_eq_true hj
    have hjn : decide (j < L.length + 1) = true := decide_eq_true (by omega)
    have hjn' : j < L.length + 1 := by omega
    have nbc := hmk.at_ hj
    have nbf := hmk.frozen j
    have hkr := Hk0.out.mods hmod hkd
    have xk1 := hkr.at_ 1 rfl
    have hne1 : nb ≠ w.heap.size := fun e => hkd e.symm
    have hF0 : ∀ W, Mods (fun g => g = nb) W0 W → Rd W F 1 (.slice A L.length cl) L.length (L.map (·.1)) := fun W hm => Hhl.out.same (HhsF.out W hm)
    have Hr0 := Lib.hid hmod
    have HhF0 := Lib.hid hF0
    clear hF0
    have Hhup := Lib.hid hup
    clear hup
    clear hkr
    by_cases hre : rest = []
    · have hs0 : rest.isEmpty = true := by rw [hre]; rfl
      have Hre := Lib.hid hre
      clear hre
      have Hf1 := Lib.hid (show ∀ m, Fits (L.map (·.2)) s.whole c.failed c.bytes k m → (fun m => if m = j then true else g m) m = true ∨ (Fits (L.map (·.2)) s.whole c.failed rest j m ∧ ¬(rest = [] ∧ m = j)) from fun m hmm => by by_cases e : m = j; (left; simp [e]); (rcases hfit m hmm with h | h; (left; simp [e, h]); exact .inr ⟨h, fun e' => e e'.2⟩))
      have Hm1 := Lib.hid (hmk.set_ j)
      have Hd1 := Lib.hid (hmod.setCell ⟨nb, j, none⟩ (.bool true) fun _ => rfl)
      have Hu1 := Lib.hid (show ∀ m, f m = true → (fun m => if m = j then true else g m) m = true from fun m h => by by_cases e : m = j; simp [e]; simp [e, Hhup.out m h])
      clear hmk hmod hfit
      by_cases hje : j = L.length
      · have hje' : ((j : Int) == L.length) = true := by rw [hje]; simp
        have Hje := Lib.hid hje
        clear hje
        go_wp2_with (first | ((with_reducible refine wp_region_por ?_ ?_ ?_ ?_); kernel_rfl; kernel_rfl; (with_reducible repeat (first | exact calm_ret | refine calm_then ?_ | refine calm_in ?_ | refine calm_chk ?_ | refine calm_noGoto ?_))) | ((with_reducible refine chk_end ?_ ?_); kernel_rfl))
        (try simp only [Exit.inBlock, Exit.then])
        refine bodyPost_ret (results_none rfl _ _ _) rfl ?_
        refine ⟨_, Hm1.out, Hu1.out, fun m hmm => ?_, ?_⟩
        · rcases Hf1.out m hmm with e | ⟨e1, e2⟩
          · exact e
          · exact absurd (fits_end e1 (by simpa using Hje.out)) e2
        · exact (Hm0.out.mono fun _ _ e => e.elim).trans Hd1.out fun _ _ e => e
      · have hje' : ((j : Int) == L.length) = false := by rw [beq_eq_false_iff_ne]; omega
        have hjlt : j < L.length := by omega
        obtain ⟨⟨bv, b⟩, ha⟩ : ∃ a, L[j]? = some a := ⟨_, List.getElem?_eq_getElem hjlt⟩
        have hai : (L.map (·.2))[j]? = some b := by simp [ha]
        obtain ⟨Ax, cx, hbf, hcx, _⟩ := (Hhr.out _ (List.mem_of_getElem? ha)).form
        dsimp only at hbf
        subst hbf
        obtain ⟨g0, o0, y0, e0, hg0, hx⟩ := Hhl.out.at1 (i := j) hjlt
        injection e0 with e0 _ e0'
        subst e0 e0'
        have hg0l := HhF.out g0 hg0
        have hLk : ∀ W, Mods (fun g => g = nb) W0 W → W.cell? ⟨g0, o0 + j, none⟩ = some (.slice Ax b.length cx) := fun W hW => (World.cell?_of_block (a := ⟨g0, o0 + j, none⟩) (HhsF.out W hW g0 hg0)).trans (by rw [hx]; simp [ha])
        have q0 := hLk wr Hr0.out
        have hg0n : g0 ≠ nb := hg0l.2
        have hg0n' : nb ≠ g0 := fun e => hg0l.2 e.symm
        have Hbr := Lib.hid (Hhr.out _ (List.mem_of_getElem? ha))
        clear hx ha hg0l
        have HhLk := Lib.hid hLk
        clear hLk
        have Hhai := Lib.hid hai
        clear hai
        by_cases hz : b = []
        · have hz' : ((b.length : Int) == 0) = true := by rw [hz]; rfl
          have Hz := Lib.hid hz
          clear hz
          go_wp2_with (first | ((with_reducible refine wp_region_por ?_ ?_ ?_ ?_); kernel_rfl; kernel_rfl; (with_reducible repeat (first | exact calm_ret | refine calm_then ?_ | refine calm_in ?_ | refine calm_chk ?_ | refine calm_noGoto ?_))) | ((with_reducible refine chk_end ?_ ?_); kernel_rfl))
          go_roundg (L.length + k - j)
          case rel => exact ⟨rest, j + 1, _, rfl, by go_num, by omega, by omega, Hu1.out, fun m hmm => by rcases Hf1.out m hmm with e | ⟨e1, e2⟩; exact .inl e; (rcases fits_skip e1 (by rw [Hhai.out, Hz.out]) with h | h; exact absurd h e2; exact .inr h), Hm1.out, Hd1.out, hrl⟩
          case measure => omega
        · have hz' : ((b.length : Int) == 0) = false := by rw [beq_eq_false_iff_ne]; intro e; exact hz (List.eq_nil_of_length_eq_zero (by omega))
          have hbne := hz
          by_cases hw : (j : Int) ∈ s.whole
          · have Hdec := Lib.hid (decide_eq_true hw)
            by_cases hlt : rest.length < b.length
            · have hlt' : decide (rest.length < b.length) = true := decide_eq_true hlt
              go_wp2_with (first | (go_at_call 19; go_loud (refine ret_use (has_M _ F (.slice Aw s.whole.length cw) s.whole j (Hhrep.out.whole.same (HhsF.out _ (by repeat (first | exact Hd1.out | apply Mods.drew)))) (by omega) true Hdec.out) ?_; rintro v w2 ⟨rfl, hm⟩; have HM2 := Lib.hid (Mods.trans (S := fun g => g = nb) (T := No) (by repeat (first | exact Hd1.out | apply Mods.drew)) hm (fun _ _ e => e.elim)); have Hmk2 := Lib.hid (Marks.keep (w' := w2) Hm1.out (Mods.trans (T := No) (by repeat (first | exact Mods.refl _ _ | apply Mods.drew)) hm (fun _ _ e => e))); clear hm; have u0 := (Hk0.out.mods HM2.out hkd).at_ 0 rfl; have u2 := (World.cell?_of_block (a := ⟨gc, oc + i * 2 + 1, none⟩) (HM2.out.block gc (by have := HhzW.out; omega) hgcl.2)).trans Hd1c.out; have u3 := HhLk.out w2 HM2.out; have Hb2 := Lib.hid (Hbr.out.same (HhsF.out w2 HM2.out)); have hcvb := run_convert_rd (P := Tryd.prog) w2 30 9 5 Tryd.underlying30 Tryd.underlying5 Tryd.underlying9 Hb2.out; have hcvd := run_convert_rd (P := Tryd.prog) w2.drew 30 9 5 Tryd.underlying30 Tryd.underlying5 Tryd.underlying9 (Hb2.out.same (Same.drew _ _)))) | ((with_reducible refine wp_region_por ?_ ?_ ?_ ?_); kernel_rfl; kernel_rfl; (with_reducible repeat (first | exact calm_ret | refine calm_then ?_ | refine calm_in ?_ | refine calm_chk ?_ | refine calm_noGoto ?_))) | ((with_reducible refine chk_end ?_ ?_); kernel_rfl))
              (try simp only [Exit.inBlock, Exit.then])
              refine bodyPost_ret (results_none rfl _ _ _) rfl ?_
              refine ⟨_, Hmk2.out, Hu1.out, fun m hmm => ?_, (Hm0.out.mono fun _ _ e => e.elim).trans (by repeat (first | exact HM2.out | apply Mods.drew)) fun _ _ e => e⟩
              rcases Hf1.out m hmm with e | ⟨e1, e2⟩
              · exact e
              · rcases fits_whole e1 Hhai.out hbne hw with h | ⟨r, h, _⟩
                · exact absurd h e2
                · rw [h, List.length_append] at hlt; omega
            · have hlt' : decide (rest.length < b.length) = false := decide_eq_false hlt
              have hle : b.length ≤ rest.length := by omega
              by_cases hp : rest.take b.length = b
              · have hpp : (((ByteArray.mk rest.toArray).extract 0 b.length).toList == b) = true := by rw [ext_list, List.drop_zero, hp]; simp
                have Hp := Lib.hid hp
                clear hp
                go_wp2_with (first | (go_at_call 19; go_loud (refine ret_use (has_M _ F (.slice Aw s.whole.length cw) s.whole j (Hhrep.out.whole.same (HhsF.out _ (by repeat (first | exact Hd1.out | apply Mods.drew)))) (by omega) true Hdec.out) ?_; rintro v w2 ⟨rfl, hm⟩; have HM2 := Lib.hid (Mods.trans (S := fun g => g = nb) (T := No) (by repeat (first | exact Hd1.out | apply Mods.drew)) hm (fun _ _ e => e.elim)); have Hmk2 := Lib.hid (Marks.keep (w' := w2) Hm1.out (Mods.trans (T := No) (by repeat (first | exact Mods.refl _ _ | apply Mods.drew)) hm (fun _ _ e => e))); clear hm; have u0 := (Hk0.out.mods HM2.out hkd).at_ 0 rfl; have u2 := (World.cell?_of_block (a := ⟨gc, oc + i * 2 + 1, none⟩) (HM2.out.block gc (by have := HhzW.out; omega) hgcl.2)).trans Hd1c.out; have u3 := HhLk.out w2 HM2.out; have Hb2 := Lib.hid (Hbr.out.same (HhsF.out w2 HM2.out)); have hcvb := run_convert_rd (P := Tryd.prog) w2 30 9 5 Tryd.underlying30 Tryd.underlying5 Tryd.underlying9 Hb2.out; have hcvd := run_convert_rd (P := Tryd.prog) w2.drew 30 9 5 Tryd.underlying30 Tryd.underlying5 Tryd.underlying9 (Hb2.out.same (Same.drew _ _)))) | ((with_reducible refine wp_region_por ?_ ?_ ?_ ?_); kernel_rfl; kernel_rfl; (with_reducible repeat (first | exact calm_ret | refine calm_then ?_ | refine calm_in ?_ | refine calm_chk ?_ | refine calm_noGoto ?_))) | ((with_reducible refine chk_end ?_ ?_); kernel_rfl))
                go_roundg (L.length + k - j)
                case rel => exact ⟨rest.drop b.length, j + 1, _, by rw [ext_drop], by go_num, by omega, by omega, Hu1.out, fun m hmm => by rcases Hf1.out m hmm with e | ⟨e1, e2⟩; exact .inl e; (rcases fits_whole e1 Hhai.out hbne hw with h | ⟨r, h, h'⟩; exact absurd h e2; (right; rw [h, List.drop_left]; exact h')), Hmk2.out.keep (by repeat (first | exact Mods.refl _ _ | apply Mods.drew)), by repeat (first | exact HM2.out | apply Mods.drew), by rw [List.length_drop]; omega⟩
                case measure => omega
              · have hpp : (((ByteArray.mk rest.toArray).extract 0 b.length).toList == b) = false := by rw [ext_list, List.drop_zero]; simpa using hp
                go_wp2_with (first | (go_at_call 19; go_loud (refine ret_use (has_M _ F (.slice Aw s.whole.length cw) s.whole j (Hhrep.out.whole.same (HhsF.out _ (by repeat (first | exact Hd1.out | apply Mods.drew)))) (by omega) true Hdec.out) ?_; rintro v w2 ⟨rfl, hm⟩; have HM2 := Lib.hid (Mods.trans (S := fun g => g = nb) (T := No) (by repeat (first | exact Hd1.out | apply Mods.drew)) hm (fun _ _ e => e.elim)); have Hmk2 := Lib.hid (Marks.keep (w' := w2) Hm1.out (Mods.trans (T := No) (by repeat (first | exact Mods.refl _ _ | apply Mods.drew)) hm (fun _ _ e => e))); clear hm; have u0 := (Hk0.out.mods HM2.out hkd).at_ 0 rfl; have u2 := (World.cell?_of_block (a := ⟨gc, oc + i * 2 + 1, none⟩) (HM2.out.block gc (by have := HhzW.out; omega) hgcl.2)).trans Hd1c.out; have u3 := HhLk.out w2 HM2.out; have Hb2 := Lib.hid (Hbr.out.same (HhsF.out w2 HM2.out)); have hcvb := run_convert_rd (P := Tryd.prog) w2 30 9 5 Tryd.underlying30 Tryd.underlying5 Tryd.underlying9 Hb2.out; have hcvd := run_convert_rd (P := Tryd.prog) w2.drew 30 9 5 Tryd.underlying30 Tryd.underlying5 Tryd.underlying9 (Hb2.out.same (Same.drew _ _)))) | ((with_reducible refine wp_region_por ?_ ?_ ?_ ?_); kernel_rfl; kernel_rfl; (with_reducible repeat (first | exact calm_ret | refine calm_then ?_ | refine calm_in ?_ | refine calm_chk ?_ | refine calm_noGoto ?_))) | ((with_reducible refine chk_end ?_ ?_); kernel_rfl))
                (try simp only [Exit.inBlock, Exit.then])
                refine bodyPost_ret (results_none rfl _ _ _) rfl ?_
                refine ⟨_, Hmk2.out.keep (by repeat (first | exact Mods.refl _ _ | apply Mods.drew)), Hu1.out, fun m hmm => ?_, (Hm0.out.mono fun _ _ e => e.elim).trans (by repeat (first | exact HM2.out | apply Mods.drew)) fun _ _ e => e⟩
                rcases Hf1.out m hmm with e | ⟨e1, e2⟩
                · exact e
                · rcases fits_whole e1 Hhai.out hbne hw with h | ⟨r, h, _⟩
                  · exact absurd h e2
                  · exact absurd (by rw [h, List.take_left]) hp
          · have Hdec := Lib.hid (decide_eq_false hw)
            cases hfl : c.failed with
            | false =>
              have Hfl := Lib.hid hfl
              clear hfl
              go_wp2_with (first | (go_at_call 19; go_loud (refine ret_use (has_M _ F (.slice Aw s.whole.length cw) s.whole j (Hhrep.out.whole.same (HhsF.out _ (by repeat (first | exact Hd1.out | apply Mods.drew)))) (by omega) false Hdec.out) ?_; rintro v w2 ⟨rfl, hm⟩; have HM2 := Lib.hid (Mods.trans (S := fun g => g = nb) (T := No) (by repeat (first | exact Hd1.out | apply Mods.drew)) hm (fun _ _ e => e.elim)); have Hmk2 := Lib.hid (Marks.keep (w' := w2) Hm1.out (Mods.trans (T := No) (by repeat (first | exact Mods.refl _ _ | apply Mods.drew)) hm (fun _ _ e => e))); clear hm; have u0 := (Hk0.out.mods HM2.out hkd).at_ 0 rfl; have u2 := (World.cell?_of_block (a := ⟨gc, oc + i * 2 + 1, none⟩) (HM2.out.block gc (by have := HhzW.out; omega) hgcl.2)).trans Hd1c.out; rw [Hfl.out] at u2; have u3 := HhLk.out w2 HM2.out; have Hb2 := Lib.hid (Hbr.out.same (HhsF.out w2 HM2.out)); have hcvb := run_convert_rd (P := Tryd.prog) w2 30 9 5 Tryd.underlying30 Tryd.underlying5 Tryd.underlying9 Hb2.out; have hcvd := run_convert_rd (P := Tryd.prog) w2.drew 30 9 5 Tryd.underlying30 Tryd.underlying5 Tryd.underlying9 (Hb2.out.same (Same.drew _ _)))) | ((with_reducible refine wp_region_por ?_ ?_ ?_ ?_); kernel_rfl; kernel_rfl; (with_reducible repeat (first | exact calm_ret | refine calm_then ?_ | refine calm_in ?_ | refine calm_chk ?_ | refine calm_noGoto ?_))) | ((with_reducible refine chk_end ?_ ?_); kernel_rfl))
              (try simp only [Exit.inBlock, Exit.then])
              refine bodyPost_ret (results_none rfl _ _ _) rfl ?_
              refine ⟨_, Hmk2.out, Hu1.out, fun m hmm => ?_, (Hm0.out.mono fun _ _ e => e.elim).trans (by repeat (first | exact HM2.out | apply Mods.drew)) fun _ _ e => e⟩
              rcases Hf1.out m hmm with e | ⟨e1, e2⟩
              · exact e
              · rcases fits_lost e1 Hhai.out hbne hw with h | ⟨q1, q2, q3, q4⟩
                · exact absurd h e2
                · rw [Hfl.out] at q1; cases q1
            | true =>
              have Hfl := Lib.hid hfl
              clear hfl
              by_cases hlt : rest.length < b.length
              · have hlt' : decide (rest.length < b.length) = true := decide_eq_true hlt
                by_cases hp : b.take rest.length = rest
                · have hpl : (List.take rest.length b == rest) = true := by rw [hp]; simp
                  have Hp := Lib.hid hp
                  clear hp
                  go_wp2_with (first | (go_at_call 19; go_loud (refine ret_use (has_M _ F (.slice Aw s.whole.length cw) s.whole j (Hhrep.out.whole.same (HhsF.out _ (by repeat (first | exact Hd1.out | apply Mods.drew)))) (by omega) false Hdec.out) ?_; rintro v w2 ⟨rfl, hm⟩; have HM2 := Lib.hid (Mods.trans (S := fun g => g = nb) (T := No) (by repeat (first | exact Hd1.out | apply Mods.drew)) hm (fun _ _ e => e.elim)); have Hmk2 := Lib.hid (Marks.keep (w' := w2) Hm1.out (Mods.trans (T := No) (by repeat (first | exact Mods.refl _ _ | apply Mods.drew)) hm (fun _ _ e => e))); clear hm; have u0 := (Hk0.out.mods HM2.out hkd).at_ 0 rfl; have u2 := (World.cell?_of_block (a := ⟨gc, oc + i * 2 + 1, none⟩) (HM2.out.block gc (by have := HhzW.out; omega) hgcl.2)).trans Hd1c.out; rw [Hfl.out] at u2; have u3 := HhLk.out w2 HM2.out; have Hb2 := Lib.hid (Hbr.out.same (HhsF.out w2 HM2.out)); have hcvb := run_convert_rd (P := Tryd.prog) w2 30 9 5 Tryd.underlying30 Tryd.underlying5 Tryd.underlying9 Hb2.out; have hcvd := run_convert_rd (P := Tryd.prog) w2.drew 30 9 5 Tryd.underlying30 Tryd.underlying5 Tryd.underlying9 (Hb2.out.same (Same.drew _ _)); have hcvt := run_convert_rd (P := Tryd.prog) w2 30 9 5 Tryd.underlying30 Tryd.underlying5 Tryd.underlying9 (l := b.take rest.length) (v := .slice Ax rest.length cx) (by have := Hb2.out.take (l := rest.length) (by omega); simpa [vbs, List.map_take, Nat.min_eq_left (show rest.length ≤ b.length by omega)] using this); have nb2 := Hmk2.out.at_ (show j + 1 ≤ L.length by omega); have nbf2 := Hmk2.out.frozen (j + 1))) | ((with_reducible refine wp_region_por ?_ ?_ ?_ ?_); kernel_rfl; kernel_rfl; (with_reducible repeat (first | exact calm_ret | refine calm_then ?_ | refine calm_in ?_ | refine calm_chk ?_ | refine calm_noGoto ?_))) | ((with_reducible refine chk_end ?_ ?_); kernel_rfl))
                  (try simp only [Exit.inBlock, Exit.then])
                  refine bodyPost_ret (results_none rfl _ _ _) rfl ?_
                  refine ⟨_, Hmk2.out.set_ (j + 1), fun m h => ?_, fun m hmm => ?_, (Hm0.out.mono fun _ _ e => e.elim).trans (HM2.out.setCell ⟨nb, j + 1, none⟩ (.bool true) fun _ => rfl) fun _ _ e => e⟩
                  · have h9 := Hu1.out m h
                    show (if m = j + 1 then true else _) = true
                    split
                    · rfl
                    · exact h9
                  · show (if m = j + 1 then true else _) = true
                    rcases Hf1.out m hmm with e | ⟨e1, e2⟩
                    · split
                      · rfl
                      · exact e
                    · rcases fits_lost e1 Hhai.out hbne hw with h | ⟨q1, q2, q3, q4⟩
                      · exact absurd h e2
                      · rw [if_pos q4]
                · have hpl : (List.take rest.length b == rest) = false := by simpa using hp
                  go_wp2_with (first | (go_at_call 19; go_loud (refine ret_use (has_M _ F (.slice Aw s.whole.length cw) s.whole j (Hhrep.out.whole.same (HhsF.out _ (by repeat (first | exact Hd1.out | apply Mods.drew)))) (by omega) false Hdec.out) ?_; rintro v w2 ⟨rfl, hm⟩; have HM2 := Lib.hid (Mods.trans (S := fun g => g = nb) (T := No) (by repeat (first | exact Hd1.out | apply Mods.drew)) hm (fun _ _ e => e.elim)); have Hmk2 := Lib.hid (Marks.keep (w' := w2) Hm1.out (Mods.trans (T := No) (by repeat (first | exact Mods.refl _ _ | apply Mods.drew)) hm (fun _ _ e => e))); clear hm; have u0 := (Hk0.out.mods HM2.out hkd).at_ 0 rfl; have u2 := (World.cell?_of_block (a := ⟨gc, oc + i * 2 + 1, none⟩) (HM2.out.block gc (by have := HhzW.out; omega) hgcl.2)).trans Hd1c.out; rw [Hfl.out] at u2; have u3 := HhLk.out w2 HM2.out; have Hb2 := Lib.hid (Hbr.out.same (HhsF.out w2 HM2.out)); have hcvb := run_convert_rd (P := Tryd.prog) w2 30 9 5 Tryd.underlying30 Tryd.underlying5 Tryd.underlying9 Hb2.out; have hcvd := run_convert_rd (P := Tryd.prog) w2.drew 30 9 5 Tryd.underlying30 Tryd.underlying5 Tryd.underlying9 (Hb2.out.same (Same.drew _ _)); have hcvt := run_convert_rd (P := Tryd.prog) w2 30 9 5 Tryd.underlying30 Tryd.underlying5 Tryd.underlying9 (l := b.take rest.length) (v := .slice Ax rest.length cx) (by have := Hb2.out.take (l := rest.length) (by omega); simpa [vbs, List.map_take, Nat.min_eq_left (show rest.length ≤ b.length by omega)] using this); have nb2 := Hmk2.out.at_ (show j + 1 ≤ L.length by omega); have nbf2 := Hmk2.out.frozen (j + 1))) | ((with_reducible refine wp_region_por ?_ ?_ ?_ ?_); kernel_rfl; kernel_rfl; (with_reducible repeat (first | exact calm_ret | refine calm_then ?_ | refine calm_in ?_ | refine calm_chk ?_ | refine calm_noGoto ?_))) | ((with_reducible refine chk_end ?_ ?_); kernel_rfl))
                  (try simp only [Exit.inBlock, Exit.then])
                  refine bodyPost_ret (results_none rfl _ _ _) rfl ?_
                  refine ⟨_, Hmk2.out, Hu1.out, fun m hmm => ?_, (Hm0.out.mono fun _ _ e => e.elim).trans (by repeat (first | exact HM2.out | apply Mods.drew)) fun _ _ e => e⟩
                  rcases Hf1.out m hmm with e | ⟨e1, e2⟩
                  · exact e
                  · rcases fits_lost e1 Hhai.out hbne hw with h | ⟨q1, q2, q3, q4⟩
                    · exact absurd h e2
                    · exact absurd q3 hp
              · have hlt' : decide (rest.length < b.length) = false := decide_eq_false hlt
                go_wp2_with (first | (go_at_call 19; go_loud (refine ret_use (has_M _ F (.slice Aw s.whole.length cw) s.whole j (Hhrep.out.whole.same (HhsF.out _ (by repeat (first | exact Hd1.out | apply Mods.drew)))) (by omega) false Hdec.out) ?_; rintro v w2 ⟨rfl, hm⟩; have HM2 := Lib.hid (Mods.trans (S := fun g => g = nb) (T := No) (by repeat (first | exact Hd1.out | apply Mods.drew)) hm (fun _ _ e => e.elim)); have Hmk2 := Lib.hid (Marks.keep (w' := w2) Hm1.out (Mods.trans (T := No) (by repeat (first | exact Mods.refl _ _ | apply Mods.drew)) hm (fun _ _ e => e))); clear hm; have u0 := (Hk0.out.mods HM2.out hkd).at_ 0 rfl; have u2 := (World.cell?_of_block (a := ⟨gc, oc + i * 2 + 1, none⟩) (HM2.out.block gc (by have := HhzW.out; omega) hgcl.2)).trans Hd1c.out; rw [Hfl.out] at u2; have u3 := HhLk.out w2 HM2.out; have Hb2 := Lib.hid (Hbr.out.same (HhsF.out w2 HM2.out)); have hcvb := run_convert_rd (P := Tryd.prog) w2 30 9 5 Tryd.underlying30 Tryd.underlying5 Tryd.underlying9 Hb2.out; have hcvd := run_convert_rd (P := Tryd.prog) w2.drew 30 9 5 Tryd.underlying30 Tryd.underlying5 Tryd.underlying9 (Hb2.out.same (Same.drew _ _)))) | ((with_reducible refine wp_region_por ?_ ?_ ?_ ?_); kernel_rfl; kernel_rfl; (with_reducible repeat (first | exact calm_ret | refine calm_then ?_ | refine calm_in ?_ | refine calm_chk ?_ | refine calm_noGoto ?_))) | ((with_reducible refine chk_end ?_ ?_); kernel_rfl))
                (try simp only [Exit.inBlock, Exit.then])
                refine bodyPost_ret (results_none rfl _ _ _) rfl ?_
                refine ⟨_, Hmk2.out, Hu1.out, fun m hmm => ?_, (Hm0.out.mono fun _ _ e => e.elim).trans (by repeat (first | exact HM2.out | apply Mods.drew)) fun _ _ e => e⟩
                rcases Hf1.out m hmm with e | ⟨e1, e2⟩
                · exact e
                · rcases fits_lost e1 Hhai.out hbne hw with h | ⟨q1, q2, q3, q4⟩
                  · exact absurd h e2
                  · exact absurd q2 hlt
    · have hs0 : rest.isEmpty = false := by simpa using hre
      have Hf1 := Lib.hid (show ∀ m, Fits (L.map (·.2)) s.whole c.failed c.bytes k m → g m = true ∨ (Fits (L.map (·.2)) s.whole c.failed rest j m ∧ ¬(rest = [] ∧ m = j)) from fun m hmm => by rcases hfit m hmm with h | h; exact .inl h; exact .inr ⟨h, fun e => hre e.1⟩)
      have Hm1 := Lib.hid hmk
      have Hd1 := Lib.hid hmod
      have Hu1 := Lib.hid Hhup.out
      clear hmk hmod hfit
      by_cases hje : j = L.length
      · have hje' : ((j : Int) == L.length) = true := by rw [hje]; simp
        have Hje := Lib.hid hje
        clear hje
        go_wp2_with (first | ((with_reducible refine wp_region_por ?_ ?_ ?_ ?_); kernel_rfl; kernel_rfl; (with_reducible repeat (first | exact calm_ret | refine calm_then ?_ | refine calm_in ?_ | refine calm_chk ?_ | refine calm_noGoto ?_))) | ((with_reducible refine chk_end ?_ ?_); kernel_rfl))
        (try simp only [Exit.inBlock, Exit.then])
        refine bodyPost_ret (results_none rfl _ _ _) rfl ?_
        refine ⟨_, Hm1.out, Hu1.out, fun m hmm => ?_, ?_⟩
        · rcases Hf1.out m hmm with e | ⟨e1, e2⟩
          · exact e
          · exact absurd (fits_end e1 (by simpa using Hje.out)) e2
        · exact (Hm0.out.mono fun _ _ e => e.elim).trans Hd1.out fun _ _ e => e
      · have hje' : ((j : Int) == L.length) = false := by rw [beq_eq_false_iff_ne]; omega
        have hjlt : j < L.length := by omega
        obtain ⟨⟨bv, b⟩, ha⟩ : ∃ a, L[j]? = some a := ⟨_, List.getElem?_eq_getElem hjlt⟩
        have hai : (L.map (·.2))[j]? = some b := by simp [ha]
        obtain ⟨Ax, cx, hbf, hcx, _⟩ := (Hhr.out _ (List.mem_of_getElem? ha)).form
        dsimp only at hbf
        subst hbf
        obtain ⟨g0, o0, y0, e0, hg0, hx⟩ := Hhl.out.at1 (i := j) hjlt
        injection e0 with e0 _ e0'
        subst e0 e0'
        have hg0l := HhF.out g0 hg0
        have hLk : ∀ W, Mods (fun g => g = nb) W0 W → W.cell? ⟨g0, o0 + j, none⟩ = some (.slice Ax b.length cx) := fun W hW => (World.cell?_of_block (a := ⟨g0, o0 + j, none⟩) (HhsF.out W hW g0 hg0)).trans (by rw [hx]; simp [ha])
        have q0 := hLk wr Hr0.out
        have hg0n : g0 ≠ nb := hg0l.2
        have hg0n' : nb ≠ g0 := fun e => hg0l.2 e.symm
        have Hbr := Lib.hid (Hhr.out _ (List.mem_of_getElem? ha))
        clear hx ha hg0l
        have HhLk := Lib.hid hLk
        clear hLk
        have Hhai := Lib.hid hai
        clear hai
        by_cases hz : b = []
        · have hz' : ((b.length : Int) == 0) = true := by rw [hz]; rfl
          have Hz := Lib.hid hz
          clear hz
          go_wp2_with (first | ((with_reducible refine wp_region_por ?_ ?_ ?_ ?_); kernel_rfl; kernel_rfl; (with_reducible repeat (first | exact calm_ret | refine calm_then ?_ | refine calm_in ?_ | refine calm_chk ?_ | refine calm_noGoto ?_))) | ((with_reducible refine chk_end ?_ ?_); kernel_rfl))
          go_roundg (L.length + k - j)
          case rel => exact ⟨rest, j + 1, _, rfl, by go_num, by omega, by omega, Hu1.out, fun m hmm => by rcases Hf1.out m hmm with e | ⟨e1, e2⟩; exact .inl e; (rcases fits_skip e1 (by rw [Hhai.out, Hz.out]) with h | h; exact absurd h e2; exact .inr h), Hm1.out, Hd1.out, hrl⟩
          case measure => omega
        · have hz' : ((b.length : Int) == 0) = false := by rw [beq_eq_false_iff_ne]; intro e; exact hz (List.eq_nil_of_length_eq_zero (by omega))
          have hbne := hz
          by_cases hw : (j : Int) ∈ s.whole
          · have Hdec := Lib.hid (decide_eq_true hw)
            by_cases hlt : rest.length < b.length
            · have hlt' : decide (rest.length < b.length) = true := decide_eq_true hlt
              go_wp2_with (first | (go_at_call 19; go_loud (refine ret_use (has_M _ F (.slice Aw s.whole.length cw) s.whole j (Hhrep.out.whole.same (HhsF.out _ (by repeat (first | exact Hd1.out | apply Mods.drew)))) (by omega) true Hdec.out) ?_; rintro v w2 ⟨rfl, hm⟩; have HM2 := Lib.hid (Mods.trans (S := fun g => g = nb) (T := No) (by repeat (first | exact Hd1.out | apply Mods.drew)) hm (fun _ _ e => e.elim)); have Hmk2 := Lib.hid (Marks.keep (w' := w2) Hm1.out (Mods.trans (T := No) (by repeat (first | exact Mods.refl _ _ | apply Mods.drew)) hm (fun _ _ e => e))); clear hm; have u0 := (Hk0.out.mods HM2.out hkd).at_ 0 rfl; have u2 := (World.cell?_of_block (a := ⟨gc, oc + i * 2 + 1, none⟩) (HM2.out.block gc (by have := HhzW.out; omega) hgcl.2)).trans Hd1c.out; have u3 := HhLk.out w2 HM2.out; have Hb2 := Lib.hid (Hbr.out.same (HhsF.out w2 HM2.out)); have hcvb := run_convert_rd (P := Tryd.prog) w2 30 9 5 Tryd.underlying30 Tryd.underlying5 Tryd.underlying9 Hb2.out; have hcvd := run_convert_rd (P := Tryd.prog) w2.drew 30 9 5 Tryd.underlying30 Tryd.underlying5 Tryd.underlying9 (Hb2.out.same (Same.drew _ _)))) | ((with_reducible refine wp_region_por ?_ ?_ ?_ ?_); kernel_rfl; kernel_rfl; (with_reducible repeat (first | exact calm_ret | refine calm_then ?_ | refine calm_in ?_ | refine calm_chk ?_ | refine calm_noGoto ?_))) | ((with_reducible refine chk_end ?_ ?_); kernel_rfl))
              (try simp only [Exit.inBlock, Exit.then])
              refine bodyPost_ret (results_none rfl _ _ _) rfl ?_
              refine ⟨_, Hmk2.out, Hu1.out, fun m hmm => ?_, (Hm0.out.mono fun _ _ e => e.elim).trans (by repeat (first | exact HM2.out | apply Mods.drew)) fun _ _ e => e⟩
              rcases Hf1.out m hmm with e | ⟨e1, e2⟩
              · exact e
              · rcases fits_whole e1 Hhai.out hbne hw with h | ⟨r, h, _⟩
                · exact absurd h e2
                · rw [h, List.length_append] at hlt; omega
            · have hlt' : decide (rest.length < b.length) = false := decide_eq_false hlt
              have hle : b.length ≤ rest.length := by omega
              by_cases hp : rest.take b.length = b
              · have hpp : (((ByteArray.mk rest.toArray).extract 0 b.length).toList == b) = true := by rw [ext_list, List.drop_zero, hp]; simp
                have Hp := Lib.hid hp
                clear hp
                go_wp2_with (first | (go_at_call 19; go_loud (refine ret_use (has_M _ F (.slice Aw s.whole.length cw) s.whole j (Hhrep.out.whole.same (HhsF.out _ (by repeat (first | exact Hd1.out | apply Mods.drew)))) (by omega) true Hdec.out) ?_; rintro v w2 ⟨rfl, hm⟩; have HM2 := Lib.hid (Mods.trans (S := fun g => g = nb) (T := No) (by repeat (first | exact Hd1.out | apply Mods.drew)) hm (fun _ _ e => e.elim)); have Hmk2 := Lib.hid (Marks.keep (w' := w2) Hm1.out (Mods.trans (T := No) (by repeat (first | exact Mods.refl _ _ | apply Mods.drew)) hm (fun _ _ e => e))); clear hm; have u0 := (Hk0.out.mods HM2.out hkd).at_ 0 rfl; have u2 := (World.cell?_of_block (a := ⟨gc, oc + i * 2 + 1, none⟩) (HM2.out.block gc (by have := HhzW.out; omega) hgcl.2)).trans Hd1c.out; have u3 := HhLk.out w2 HM2.out; have Hb2 := Lib.hid (Hbr.out.same (HhsF.out w2 HM2.out)); have hcvb := run_convert_rd (P := Tryd.prog) w2 30 9 5 Tryd.underlying30 Tryd.underlying5 Tryd.underlying9 Hb2.out; have hcvd := run_convert_rd (P := Tryd.prog) w2.drew 30 9 5 Tryd.underlying30 Tryd.underlying5 Tryd.underlying9 (Hb2.out.same (Same.drew _ _)))) | ((with_reducible refine wp_region_por ?_ ?_ ?_ ?_); kernel_rfl; kernel_rfl; (with_reducible repeat (first | exact calm_ret | refine calm_then ?_ | refine calm_in ?_ | refine calm_chk ?_ | refine calm_noGoto ?_))) | ((with_reducible refine chk_end ?_ ?_); kernel_rfl))
                go_roundg (L.length + k - j)
                case rel => exact ⟨rest.drop b.length, j + 1, _, by rw [ext_drop], by go_num, by omega, by omega, Hu1.out, fun m hmm => by rcases Hf1.out m hmm with e | ⟨e1, e2⟩; exact .inl e; (rcases fits_whole e1 Hhai.out hbne hw with h | ⟨r, h, h'⟩; exact absurd h e2; (right; rw [h, List.drop_left]; exact h')), Hmk2.out.keep (by repeat (first | exact Mods.refl _ _ | apply Mods.drew)), by repeat (first | exact HM2.out | apply Mods.drew), by rw [List.length_drop]; omega⟩
                case measure => omega
              · have hpp : (((ByteArray.mk rest.toArray).extract 0 b.length).toList == b) = false := by rw [ext_list, List.drop_zero]; simpa using hp
                go_wp2_with (first | (go_at_call 19; go_loud (refine ret_use (has_M _ F (.slice Aw s.whole.length cw) s.whole j (Hhrep.out.whole.same (HhsF.out _ (by repeat (first | exact Hd1.out | apply Mods.drew)))) (by omega) true Hdec.out) ?_; rintro v w2 ⟨rfl, hm⟩; have HM2 := Lib.hid (Mods.trans (S := fun g => g = nb) (T := No) (by repeat (first | exact Hd1.out | apply Mods.drew)) hm (fun _ _ e => e.elim)); have Hmk2 := Lib.hid (Marks.keep (w' := w2) Hm1.out (Mods.trans (T := No) (by repeat (first | exact Mods.refl _ _ | apply Mods.drew)) hm (fun _ _ e => e))); clear hm; have u0 := (Hk0.out.mods HM2.out hkd).at_ 0 rfl; have u2 := (World.cell?_of_block (a := ⟨gc, oc + i * 2 + 1, none⟩) (HM2.out.block gc (by have := HhzW.out; omega) hgcl.2)).trans Hd1c.out; have u3 := HhLk.out w2 HM2.out; have Hb2 := Lib.hid (Hbr.out.same (HhsF.out w2 HM2.out)); have hcvb := run_convert_rd (P := Tryd.prog) w2 30 9 5 Tryd.underlying30 Tryd.underlying5 Tryd.underlying9 Hb2.out; have hcvd := run_convert_rd (P := Tryd.prog) w2.drew 30 9 5 Tryd.underlying30 Tryd.underlying5 Tryd.underlying9 (Hb2.out.same (Same.drew _ _)))) | ((with_reducible refine wp_region_por ?_ ?_ ?_ ?_); kernel_rfl; kernel_rfl; (with_reducible repeat (first | exact calm_ret | refine calm_then ?_ | refine calm_in ?_ | refine calm_chk ?_ | refine calm_noGoto ?_))) | ((with_reducible refine chk_end ?_ ?_); kernel_rfl))
                (try simp only [Exit.inBlock, Exit.then])
                refine bodyPost_ret (results_none rfl _ _ _) rfl ?_
                refine ⟨_, Hmk2.out.keep (by repeat (first | exact Mods.refl _ _ | apply Mods.drew)), Hu1.out, fun m hmm => ?_, (Hm0.out.mono fun _ _ e => e.elim).trans (by repeat (first | exact HM2.out | apply Mods.drew)) fun _ _ e => e⟩
                rcases Hf1.out m hmm with e | ⟨e1, e2⟩
                · exact e
                · rcases fits_whole e1 Hhai.out hbne hw with h | ⟨r, h, _⟩
                  · exact absurd h e2
                  · exact absurd (by rw [h, List.take_left]) hp
          · have Hdec := Lib.hid (decide_eq_false hw)
            cases hfl : c.failed with
            | false =>
              have Hfl := Lib.hid hfl
              clear hfl
              go_wp2_with (first | (go_at_call 19; go_loud (refine ret_use (has_M _ F (.slice Aw s.whole.length cw) s.whole j (Hhrep.out.whole.same (HhsF.out _ (by repeat (first | exact Hd1.out | apply Mods.drew)))) (by omega) false Hdec.out) ?_; rintro v w2 ⟨rfl, hm⟩; have HM2 := Lib.hid (Mods.trans (S := fun g => g = nb) (T := No) (by repeat (first | exact Hd1.out | apply Mods.drew)) hm (fun _ _ e => e.elim)); have Hmk2 := Lib.hid (Marks.keep (w' := w2) Hm1.out (Mods.trans (T := No) (by repeat (first | exact Mods.refl _ _ | apply Mods.drew)) hm (fun _ _ e => e))); clear hm; have u0 := (Hk0.out.mods HM2.out hkd).at_ 0 rfl; have u2 := (World.cell?_of_block (a := ⟨gc, oc + i * 2 + 1, none⟩) (HM2.out.block gc (by have := HhzW.out; omega) hgcl.2)).trans Hd1c.out; rw [Hfl.out] at u2; have u3 := HhLk.out w2 HM2.out; have Hb2 := Lib.hid (Hbr.out.same (HhsF.out w2 HM2.out)); have hcvb := run_convert_rd (P := Tryd.prog) w2 30 9 5 Tryd.underlying30 Tryd.underlying5 Tryd.underlying9 Hb2.out; have hcvd := run_convert_rd (P := Tryd.prog) w2.drew 30 9 5 Tryd.underlying30 Tryd.underlying5 Tryd.underlying9 (Hb2.out.same (Same.drew _ _)))) | ((with_reducible refine wp_region_por ?_ ?_ ?_ ?_); kernel_rfl; kernel_rfl; (with_reducible repeat (first | exact calm_ret | refine calm_then ?_ | refine calm_in ?_ | refine calm_chk ?_ | refine calm_noGoto ?_))) | ((with_reducible refine chk_end ?_ ?_); kernel_rfl))
              (try simp only [Exit.inBlock, Exit.then])
              refine bodyPost_ret (results_none rfl _ _ _) rfl ?_
              refine ⟨_, Hmk2.out, Hu1.out, fun m hmm => ?_, (Hm0.out.mono fun _ _ e => e.elim).trans (by repeat (first | exact HM2.out | apply Mods.drew)) fun _ _ e => e⟩
              rcases Hf1.out m hmm with e | ⟨e1, e2⟩
              · exact e
              · rcases fits_lost e1 Hhai.out hbne hw with h | ⟨q1, q2, q3, q4⟩
                · exact absurd h e2
                · rw [Hfl.out] at q1; cases q1
            | true =>
              have Hfl := Lib.hid hfl
              clear hfl
              by_cases hlt : rest.length < b.length
              · have hlt' : decide (rest.length < b.length) = true := decide_eq_true hlt
                by_cases hp : b.take rest.length = rest
                · have hpl : (List.take rest.length b == rest) = true := by rw [hp]; simp
                  have Hp := Lib.hid hp
                  clear hp
                  go_wp2_with (first | (go_at_call 19; go_loud (refine ret_use (has_M _ F (.slice Aw s.whole.length cw) s.whole j (Hhrep.out.whole.same (HhsF.out _ (by repeat (first | exact Hd1.out | apply Mods.drew)))) (by omega) false Hdec.out) ?_; rintro v w2 ⟨rfl, hm⟩; have HM2 := Lib.hid (Mods.trans (S := fun g => g = nb) (T := No) (by repeat (first | exact Hd1.out | apply Mods.drew)) hm (fun _ _ e => e.elim)); have Hmk2 := Lib.hid (Marks.keep (w' := w2) Hm1.out (Mods.trans (T := No) (by repeat (first | exact Mods.refl _ _ | apply Mods.drew)) hm (fun _ _ e => e))); clear hm; have u0 := (Hk0.out.mods HM2.out hkd).at_ 0 rfl; have u2 := (World.cell?_of_block (a := ⟨gc, oc + i * 2 + 1, none⟩) (HM2.out.block gc (by have := HhzW.out; omega) hgcl.2)).trans Hd1c.out; rw [Hfl.out] at u2; have u3 := HhLk.out w2 HM2.out; have Hb2 := Lib.hid (Hbr.out.same (HhsF.out w2 HM2.out)); have hcvb := run_convert_rd (P := Tryd.prog) w2 30 9 5 Tryd.underlying30 Tryd.underlying5 Tryd.underlying9 Hb2.out; have hcvd := run_convert_rd (P := Tryd.prog) w2.drew 30 9 5 Tryd.underlying30 Tryd.underlying5 Tryd.underlying9 (Hb2.out.same (Same.drew _ _)); have hcvt := run_convert_rd (P := Tryd.prog) w2 30 9 5 Tryd.underlying30 Tryd.underlying5 Tryd.underlying9 (l := b.take rest.length) (v := .slice Ax rest.length cx) (by have := Hb2.out.take (l := rest.length) (by omega); simpa [vbs, List.map_take, Nat.min_eq_left (show rest.length ≤ b.length by omega)] using this); have nb2 := Hmk2.out.at_ (show j + 1 ≤ L.length by omega); have nbf2 := Hmk2.out.frozen (j + 1))) | ((with_reducible refine wp_region_por ?_ ?_ ?_ ?_); kernel_rfl; kernel_rfl; (with_reducible repeat (first | exact calm_ret | refine calm_then ?_ | refine calm_in ?_ | refine calm_chk ?_ | refine calm_noGoto ?_))) | ((with_reducible refine chk_end ?_ ?_); kernel_rfl))
                  (try simp only [Exit.inBlock, Exit.then])
                  refine bodyPost_ret (results_none rfl _ _ _) rfl ?_
                  refine ⟨_, Hmk2.out.set_ (j + 1), fun m h => ?_, fun m hmm => ?_, (Hm0.out.mono fun _ _ e => e.elim).trans (HM2.out.setCell ⟨nb, j + 1, none⟩ (.bool true) fun _ => rfl) fun _ _ e => e⟩
                  · have h9 := Hu1.out m h
                    show (if m = j + 1 then true else _) = true
                    split
                    · rfl
                    · exact h9
                  · show (if m = j + 1 then true else _) = true
                    rcases Hf1.out m hmm with e | ⟨e1, e2⟩
                    · split
                      · rfl
                      · exact e
                    · rcases fits_lost e1 Hhai.out hbne hw with h | ⟨q1, q2, q3, q4⟩
                      · exact absurd h e2
                      · rw [if_pos q4]
                · have hpl : (List.take rest.length b == rest) = false := by simpa using hp
                  go_wp2_with (first | (go_at_call 19; go_loud (refine ret_use (has_M _ F (.slice Aw s.whole.length cw) s.whole j (Hhrep.out.whole.same (HhsF.out _ (by repeat (first | exact Hd1.out | apply Mods.drew)))) (by omega) false Hdec.out) ?_; rintro v w2 ⟨rfl, hm⟩; have HM2 := Lib.hid (Mods.trans (S := fun g => g = nb) (T := No) (by repeat (first | exact Hd1.out | apply Mods.drew)) hm (fun _ _ e => e.elim)); have Hmk2 := Lib.hid (Marks.keep (w' := w2) Hm1.out (Mods.trans (T := No) (by repeat (first | exact Mods.refl _ _ | apply Mods.drew)) hm (fun _ _ e => e))); clear hm; have u0 := (Hk0.out.mods HM2.out hkd).at_ 0 rfl; have u2 := (World.cell?_of_block (a := ⟨gc, oc + i * 2 + 1, none⟩) (HM2.out.block gc (by have := HhzW.out; omega) hgcl.2)).trans Hd1c.out; rw [Hfl.out] at u2; have u3 := HhLk.out w2 HM2.out; have Hb2 := Lib.hid (Hbr.out.same (HhsF.out w2 HM2.out)); have hcvb := run_convert_rd (P := Tryd.prog) w2 30 9 5 Tryd.underlying30 Tryd.underlying5 Tryd.underlying9 Hb2.out; have hcvd := run_convert_rd (P := Tryd.prog) w2.drew 30 9 5 Tryd.underlying30 Tryd.underlying5 Tryd.underlying9 (Hb2.out.same (Same.drew _ _)); have hcvt := run_convert_rd (P := Tryd.prog) w2 30 9 5 Tryd.underlying30 Tryd.underlying5 Tryd.underlying9 (l := b.take rest.length) (v := .slice Ax rest.length cx) (by have := Hb2.out.take (l := rest.length) (by omega); simpa [vbs, List.map_take, Nat.min_eq_left (show rest.length ≤ b.length by omega)] using this); have nb2 := Hmk2.out.at_ (show j + 1 ≤ L.length by omega); have nbf2 := Hmk2.out.frozen (j + 1))) | ((with_reducible refine wp_region_por ?_ ?_ ?_ ?_); kernel_rfl; kernel_rfl; (with_reducible repeat (first | exact calm_ret | refine calm_then ?_ | refine calm_in ?_ | refine calm_chk ?_ | refine calm_noGoto ?_))) | ((with_reducible refine chk_end ?_ ?_); kernel_rfl))
                  (try simp only [Exit.inBlock, Exit.then])
                  refine bodyPost_ret (results_none rfl _ _ _) rfl ?_
                  refine ⟨_, Hmk2.out, Hu1.out, fun m hmm => ?_, (Hm0.out.mono fun _ _ e => e.elim).trans (by repeat (first | exact HM2.out | apply Mods.drew)) fun _ _ e => e⟩
                  rcases Hf1.out m hmm with e | ⟨e1, e2⟩
                  · exact e
                  · rcases fits_lost e1 Hhai.out hbne hw with h | ⟨q1, q2, q3, q4⟩
                    · exact absurd h e2
                    · exact absurd q3 hp
              · have hlt' : decide (rest.length < b.length) = false := decide_eq_false hlt
                go_wp2_with (first | (go_at_call 19; go_loud (refine ret_use (has_M _ F (.slice Aw s.whole.length cw) s.whole j (Hhrep.out.whole.same (HhsF.out _ (by repeat (first | exact Hd1.out | apply Mods.drew)))) (by omega) false Hdec.out) ?_; rintro v w2 ⟨rfl, hm⟩; have HM2 := Lib.hid (Mods.trans (S := fun g => g = nb) (T := No) (by repeat (first | exact Hd1.out | apply Mods.drew)) hm (fun _ _ e => e.elim)); have Hmk2 := Lib.hid (Marks.keep (w' := w2) Hm1.out (Mods.trans (T := No) (by repeat (first | exact Mods.refl _ _ | apply Mods.drew)) hm (fun _ _ e => e))); clear hm; have u0 := (Hk0.out.mods HM2.out hkd).at_ 0 rfl; have u2 := (World.cell?_of_block (a := ⟨gc, oc + i * 2 + 1, none⟩) (HM2.out.block gc (by have := HhzW.out; omega) hgcl.2)).trans Hd1c.out; rw [Hfl.out] at u2; have u3 := HhLk.out w2 HM2.out; have Hb2 := Lib.hid (Hbr.out.same (HhsF.out w2 HM2.out)); have hcvb := run_convert_rd (P := Tryd.prog) w2 30 9 5 Tryd.underlying30 Tryd.underlying5 Tryd.underlying9 Hb2.out; have hcvd := run_convert_rd (P := Tryd.prog) w2.drew 30 9 5 Tryd.underlying30 Tryd.underlying5 Tryd.underlying9 (Hb2.out.same (Same.drew _ _)))) | ((with_reducible refine wp_region_por ?_ ?_ ?_ ?_); kernel_rfl; kernel_rfl; (with_reducible repeat (first | exact calm_ret | refine calm_then ?_ | refine calm_in ?_ | refine calm_chk ?_ | refine calm_noGoto ?_))) | ((with_reducible refine chk_end ?_ ?_); kernel_rfl))
                (try simp only [Exit.inBlock, Exit.then])
                refine bodyPost_ret (results_none rfl _ _ _) rfl ?_
                refine ⟨_, Hmk2.out, Hu1.out, fun m hmm => ?_, (Hm0.out.mono fun _ _ e => e.elim).trans (by repeat (first | exact HM2.out | apply Mods.drew)) fun _ _ e => e⟩
                rcases Hf1.out m hmm with e | ⟨e1, e2⟩
                · exact e
                · rcases fits_lost e1 Hhai.out hbne hw with h | ⟨q1, q2, q3, q4⟩
                  · exact absurd h e2
                  · exact absurd q2 hlt
end Go.Proofs.YtmfpgghpnkmkpaaDoor
