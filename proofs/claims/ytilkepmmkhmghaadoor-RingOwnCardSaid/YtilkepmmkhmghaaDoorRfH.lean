/- A ring and the reference's ring, call by call. -/
import Derived.Test.YtilkepmmkhmghaaDoorRfG
namespace Go.Proofs.YtilkepmmkhmghaaDoor
open Go.RowKit Go.Tum Go.Lib Go.Sort
set_option maxRecDepth 100000
/-- The ring at q with nodes N, the reference's at r with nodes M; no block is of both. -/
structure Pair (w : World) (n0 q r c : Nat) (N M : List Tx) (F G : Nat → Prop) : Prop where
  ring : RingK w q c N F
  ref : RefK w r c M G
  dis : ∀ g, F g → ¬ G g
  fb : ∀ g, F g → n0 ≤ g ∧ g < w.heap.size
  gb : ∀ g, G g → n0 ≤ g ∧ g < w.heap.size
  tab : Tab w
  tn : 1 < n0
theorem Pair.no {w w' : World} {n0 q r c : Nat} {N M : List Tx} {F G : Nat → Prop} (h : Pair w n0 q r c N M F G) (hm : Mods No w w') : Pair w' n0 q r c N M F G :=
  ⟨h.ring.no hm, h.ref.no hm, h.dis, fun g hg => ⟨(h.fb g hg).1, Nat.lt_of_lt_of_le (h.fb g hg).2 hm.size⟩, fun g hg => ⟨(h.gb g hg).1, Nat.lt_of_lt_of_le (h.gb g hg).2 hm.size⟩, h.tab.no hm, h.tn⟩
theorem Pair.fq {w : World} {n0 q r c : Nat} {N M : List Tx} {F G : Nat → Prop} (h : Pair w n0 q r c N M F G) : F q := by
  obtain ⟨_, _, _, h⟩ := h.ring
  exact h.fq
theorem Pair.gr {w : World} {n0 q r c : Nat} {N M : List Tx} {F G : Nat → Prop} (h : Pair w n0 q r c N M F G) : G r := by
  obtain ⟨_, _, _, _, h, _⟩ := h.ref
  exact h
theorem Pair.modF {w a b : World} {n0 q r c : Nat} {N M : List Tx} {F G : Nat → Prop} (h : Pair w n0 q r c N M F G) (hm : Mods F a b) : Mods (fun g => n0 ≤ g) a b := hm.mono fun g _ hg => (h.fb g hg).1
theorem Pair.modr {w a b : World} {n0 q r c : Nat} {N M : List Tx} {F G : Nat → Prop} (h : Pair w n0 q r c N M F G) (hm : Mods (fun k => k = r) a b) : Mods (fun g => n0 ≤ g) a b := hm.mono fun _ _ hg => hg ▸ (h.gb r h.gr).1
theorem Pair.next {w : World} {n0 q r c : Nat} {N M : List Tx} {F G : Nat → Prop} (h : Pair w n0 q r c N M F G) : ¬ Ext F w.heap.size 1 := fun e => by
  have h1 := h.tn
  have h2 := h.tab.lt
  rcases e with e | e
  · have := (h.fb _ e).1; omega
  · omega
theorem Pair.ringOp {w w' : World} {n0 q r c : Nat} {N N' M : List Tx} {F G : Nat → Prop} (h : Pair w n0 q r c N M F G) (hR : RingK w' q c N' (Ext F w.heap.size)) (hm : Mods F w w') :
    ∃ F', Pair w' n0 q r c N' M F' G := by
  have hsz := hm.size
  have ht := h.tn
  have hlt := h.tab.lt
  have h0 : n0 ≤ w.heap.size := Nat.le_of_lt (Nat.lt_of_le_of_lt (h.fb q h.fq).1 (h.fb q h.fq).2)
  refine ⟨fun g => F g ∨ w.heap.size ≤ g ∧ g < w'.heap.size, hR.bound (fun g hg e => ?_) (fun e => ?_), h.ref.mods hm fun g _ hg hf => h.dis g hf hg, fun g hg hG => ?_, fun g hg => ?_, fun g hg => ⟨(h.gb g hg).1, Nat.lt_of_lt_of_le (h.gb g hg).2 hsz⟩, h.tab.mods hm fun e => ?_, ht⟩
  · rcases e with e | e
    · exact .inl e
    · exact .inr ⟨e, hg⟩
  · rcases e with e | e
    · have := (h.fb _ e).1; omega
    · omega
  · rcases hg with e | e
    · exact h.dis g e hG
    · have := (h.gb g hG).2; omega
  · rcases hg with e | e
    · have := h.fb g e; omega
    · omega
  · have := (h.fb _ e).1; omega
theorem Pair.refOp {w w' : World} {n0 q r c : Nat} {N M' M : List Tx} {F G : Nat → Prop} (h : Pair w n0 q r c N M F G) (hR : RefK w' r c M' (Ext G w.heap.size)) (hm : Mods (fun k => k = r) w w') :
    ∃ G', Pair w' n0 q r c N M' F G' := by
  have hsz := hm.size
  have hgr := h.gr
  have h0 : n0 ≤ w.heap.size := Nat.le_of_lt (Nat.lt_of_le_of_lt (h.fb q h.fq).1 (h.fb q h.fq).2)
  refine ⟨fun g => G g ∨ w.heap.size ≤ g ∧ g < w'.heap.size, h.ring.mods hm fun g _ hg e => h.dis g hg (e ▸ hgr), hR.more (fun g hg e => ?_), fun g hg hG => ?_, fun g hg => ⟨(h.fb g hg).1, Nat.lt_of_lt_of_le (h.fb g hg).2 hsz⟩, fun g hg => ?_, h.tab.mods hm fun e => ?_, h.tn⟩
  · rcases e with e | e
    · exact .inl e
    · exact .inr ⟨e, hg⟩
  · rcases hG with e | e
    · exact h.dis g hg e
    · have := (h.fb g hg).2; omega
  · rcases hg with e | e
    · have := h.gb g e; omega
    · omega
  · have := (h.gb r hgr).1; have := h.tn; omega
/-- Both with the same nodes, somewhere. -/
def PairE (w : World) (n0 q r c : Nat) (N : List Tx) : Prop := ∃ F G, Pair w n0 q r c N N F G
set_option maxHeartbeats 6400000 in
theorem step_K (w : World) (n0 q r c : Nat) (N : List Tx) (kind : Int) (s : Tx) (n : Int) (h : PairE w n0 q r c N) (hl : s.length ≤ 281474976710656) :
    Calls Tryd.prog 27 #[(.pointer (some ⟨q, 0, none⟩)), (.pointer (some ⟨r, 0, none⟩)), .agg #[.int .i64 kind, ks s, .int .i64 n]] w (Ret fun v w' => v = .bool true ∧ Mods (fun g => n0 ≤ g) w w' ∧ ∃ N', PairE w' n0 q r c N') := by
  obtain ⟨F, G, h⟩ := h
  have hmx : s.length ≤ maxLen := by unfold maxLen; omega
  have hMS : Mods No w (w.alloc (.cells #[.int .i64 kind, ks s, .int .i64 n] 57)) := (Mods.refl No w).alloc _
  have hB := Cells.new w 57 #[.int .i64 kind, ks s, .int .i64 n]
  have h' := h.no hMS
  have hnb : ¬ F w.heap.size := fun e => by have := (h.fb _ e).2; omega
  have hnr : w.heap.size ≠ r := fun e => by have := (h.gb _ h.gr).2; omega
  have Hh := Lib.hid h
  clear h
  have Hh' := Lib.hid h'
  clear h'
  have HhMS := Lib.hid hMS
  clear hMS
  have HhB := Lib.hid hB
  clear hB
  have Hhnb := Lib.hid hnb
  clear hnb
  unfold ks at *
  go_enter Tryd.func27, Tryd.ntmps27
  by_cases hk1 : kind = 1
  · subst hk1
    go_wp2_with (first | ((with_reducible refine wp_region_one 3 (fun g => g = w.heap.size) [6] 3 ?_ ?_ ?_ ?_ ?_); kernel_rfl; kernel_rfl; kernel_rfl; (with_reducible repeat (first | exact calm_ret | refine calm_then ?_ | refine calm_in ?_ | refine calm_chk ?_ | refine calm_noGoto ?_)); simp only [List.drop_succ_cons, List.drop_zero, List.take_succ_cons, List.take_zero]) | (with_reducible refine segEnd ?_) | (refine And.intro (Keep.one HM2.out HhB.out.drew Hhnb.out) ?_) | ((with_reducible refine chkM_end (fun g => g = w.heap.size) ?_ [.pointer (some ⟨w.heap.size, 1, none⟩)] ?_ ?_ ?_); kernel_rfl; kernel_rfl; (intro v hv x hx; simp only [List.mem_cons, List.not_mem_nil, or_false] at hv; subst hv; (injection hx with hx; injection hx with hx; subst hx; simp))) | (go_at_call 29; (refine ret_use (add_K _ q c N s F (Hh'.out.no ((Mods.refl No _).drew)).ring (Hh'.out.no ((Mods.refl No _).drew)).tab hl) ?_; rintro u w2 ⟨rfl, hr2, hm2⟩; have HM2 := Lib.hid hm2; obtain ⟨F2, h2⟩ := (Hh'.out.no ((Mods.refl No _).drew)).ringOp hr2 hm2; have HH2 := Lib.hid h2; have HB2 := Lib.hid (HhB.out.drew.mods hm2 Hhnb.out); have k1 := HB2.out.at_ 1 rfl; clear hm2 hr2 h2)) | (go_at_call 39; (refine ret_use (radd_K w2 r c N s G HH2.out.ref) ?_; rintro u w3 ⟨rfl, hr3, hm3⟩; have HM3 := Lib.hid hm3; obtain ⟨G3, h3⟩ := HH2.out.refOp hr3 hm3; have HH3 := Lib.hid h3; clear hm3 hr3 h3)) | ((with_reducible refine wp_region_por ?_ ?_ ?_ ?_); kernel_rfl; kernel_rfl; (with_reducible repeat (first | exact calm_ret | refine calm_then ?_ | refine calm_in ?_ | refine calm_chk ?_ | refine calm_noGoto ?_))) | ((with_reducible refine chk_end ?_ ?_); kernel_rfl))
    go_ret
    exact ⟨by simp, ((HhMS.out.drew.mono (T := fun g => n0 ≤ g) fun _ _ e => e.elim).trans (Hh'.out.modF HM2.out) fun _ _ e => e).trans (HH2.out.modr HM3.out) fun _ _ e => e, _, _, _, HH3.out⟩
  · have hk1' : (kind == 1) = false := by simpa using hk1
    by_cases hk2 : kind = 2
    · subst hk2
      go_wp2_with (first | ((with_reducible refine wp_region_one 5 (fun g => g = w.heap.size) [6] 3 ?_ ?_ ?_ ?_ ?_); kernel_rfl; kernel_rfl; kernel_rfl; (with_reducible repeat (first | exact calm_ret | refine calm_then ?_ | refine calm_in ?_ | refine calm_chk ?_ | refine calm_noGoto ?_)); simp only [List.drop_succ_cons, List.drop_zero, List.take_succ_cons, List.take_zero]) | (with_reducible refine segEnd ?_) | (refine And.intro (Keep.one HM2.out HhB.out.drew Hhnb.out) ?_) | ((with_reducible refine chkM_end (fun g => g = w.heap.size) ?_ [.pointer (some ⟨w.heap.size, 1, none⟩)] ?_ ?_ ?_); kernel_rfl; kernel_rfl; (intro v hv x hx; simp only [List.mem_cons, List.not_mem_nil, or_false] at hv; subst hv; (injection hx with hx; injection hx with hx; subst hx; simp))) | (go_at_call 28; (refine ret_use (remove_K _ q c N s F (Hh'.out.no ((Mods.refl No _).drew)).ring) ?_; rintro u w2 ⟨rfl, hr2, hm2⟩; have HM2 := Lib.hid hm2; obtain ⟨F2, h2⟩ := (Hh'.out.no ((Mods.refl No _).drew)).ringOp (hr2.more (fun _ e => .inl e) (Hh'.out.next)) hm2; have HH2 := Lib.hid h2; have HB2 := Lib.hid (HhB.out.drew.mods hm2 Hhnb.out); have k1 := HB2.out.at_ 1 rfl; clear hm2 hr2 h2)) | (go_at_call 40; (refine ret_use (rremove_K w2 r c N s G HH2.out.ref) ?_; rintro u w3 ⟨rfl, hr3, hm3⟩; have HM3 := Lib.hid hm3; obtain ⟨G3, h3⟩ := HH2.out.refOp hr3 hm3; have HH3 := Lib.hid h3; clear hm3 hr3 h3)) | ((with_reducible refine wp_region_por ?_ ?_ ?_ ?_); kernel_rfl; kernel_rfl; (with_reducible repeat (first | exact calm_ret | refine calm_then ?_ | refine calm_in ?_ | refine calm_chk ?_ | refine calm_noGoto ?_))) | ((with_reducible refine chk_end ?_ ?_); kernel_rfl))
      go_ret
      exact ⟨by simp, ((HhMS.out.drew.mono (T := fun g => n0 ≤ g) fun _ _ e => e.elim).trans (Hh'.out.modF HM2.out) fun _ _ e => e).trans (HH2.out.modr HM3.out) fun _ _ e => e, _, _, _, HH3.out⟩
    · have hk2' : (kind == 2) = false := by simpa using hk2
      by_cases hk3 : kind = 3
      · subst hk3
        have hget := fun w' (hm : Mods No w w') => get_K w' q c N s F (Hh.out.no hm).ring hmx
        have hrget := fun w' (hm : Mods No w w') => rget_K w' r c N s G (Hh.out.no hm).ref hmx
        obtain ⟨z, hzz⟩ : ∃ z, getV (placesOf c N) (fnv64 s) = z := ⟨_, rfl⟩
        simp only [hzz] at hget hrget
        obtain ⟨p, ok⟩ := z
        dsimp only at hget hrget
        clear hzz
        unfold ks at *
        have Hhget := Lib.hid hget
        clear hget
        have Hhrget := Lib.hid hrget
        clear hrget
        go_wp2_with (first | (go_at_call 22; (refine ret_use (Hhget.out _ HhMS.out) ?_; rintro u w2 ⟨rfl, hm2⟩; have HM2 := Lib.hid (HhMS.out.trans hm2 fun _ _ e => e); have HB2 := Lib.hid (HhB.out.mods hm2 fun e => e); have k1 := HB2.out.at_ 1 rfl; clear hm2)) | (go_at_call 41; (refine ret_use (Hhrget.out _ HM2.out) ?_; rintro u w3 ⟨rfl, hm3⟩; have HM3 := Lib.hid (HM2.out.trans hm3 fun _ _ e => e); clear hm3)) | ((with_reducible refine wp_region_por ?_ ?_ ?_ ?_); kernel_rfl; kernel_rfl; (with_reducible repeat (first | exact calm_ret | refine calm_then ?_ | refine calm_in ?_ | refine calm_chk ?_ | refine calm_noGoto ?_))) | ((with_reducible refine chk_end ?_ ?_); kernel_rfl))
        go_ret
        exact ⟨by simp, HM3.out.mono fun _ _ e => e.elim, _, _, _, Hh.out.no HM3.out⟩
      · have hk3' : (kind == 3) = false := by simpa using hk3
        by_cases hk4 : kind = 4
        · subst hk4
          have hpk := fun w' (hm : Mods No w w') => pick_K w' q c N s n F (Hh.out.no hm).ring hmx
          have hrpk := fun w' (hm : Mods No w w') => rpick_K w' r c N s n G (Hh.out.no hm).ref hmx
          obtain ⟨P, hP⟩ : ∃ P, P = pickV (placesOf c N) (fnv64 s) n := ⟨_, rfl⟩
          simp only [← hP] at hpk hrpk
          clear hP
          unfold ks at hpk hrpk
          have Hhpk := Lib.hid hpk
          clear hpk
          have Hhrpk := Lib.hid hrpk
          clear hrpk
          go_wp2_with (first | ((with_reducible refine wp_region_one 11 (fun g => g = w.heap.size) [8, 10] 5 ?_ ?_ ?_ ?_ ?_); kernel_rfl; kernel_rfl; kernel_rfl; (with_reducible repeat (first | exact calm_ret | refine calm_then ?_ | refine calm_in ?_ | refine calm_chk ?_ | refine calm_noGoto ?_)); simp only [List.drop_succ_cons, List.drop_zero, List.take_succ_cons, List.take_zero]) | (with_reducible refine segEnd ?_) | (refine And.intro (Keep.one HM2.out HhB.out.drew (fun e => e)) ?_) | ((with_reducible refine chkM_end (fun g => g = w.heap.size) ?_ [.pointer (some ⟨w.heap.size, 1, none⟩), .pointer (some ⟨w.heap.size, 2, none⟩)] ?_ ?_ ?_); kernel_rfl; kernel_rfl; (intro v hv x hx; simp only [List.mem_cons, List.not_mem_nil, or_false] at hv; rcases hv with rfl | rfl <;> (injection hx with hx; injection hx with hx; subst hx; simp))) | (go_at_call 16; (refine ret_use (Hhpk.out _ HhMS.out.drew) ?_; rintro u w2 ⟨ho2, hm2⟩; have HM2 := Lib.hid hm2; have HO2 := Lib.hid ho2; have HA2 := Lib.hid (HhMS.out.drew.trans hm2 fun _ _ e => e); have HB2 := Lib.hid (HhB.out.drew.mods hm2 fun e => e); have k1 := HB2.out.at_ 1 rfl; have k2 := HB2.out.at_ 2 rfl; obtain ⟨A2, c2, rfl, _, _⟩ := ho2.form; clear ho2 hm2)) | (go_at_call 18; (refine ret_use (Hhrpk.out _ HA2.out) ?_; rintro u w3 ⟨ho3, hm3⟩; have HO3 := Lib.hid ho3; have HA3 := Lib.hid (HA2.out.trans hm3 fun _ _ e => e); have HP3 := Lib.hid (HO2.out.mods hm3 fun _ _ e => e); obtain ⟨A3, c3, rfl, _, _⟩ := ho3.form; clear ho3 hm3)) | (go_at_call 12; (refine ret_use (sameT_K _ _ _ _ _ P P HP3.out.rdlt HO3.out.rdlt (fun _ e => e) (fun _ e => e)) ?_; rintro u w4 ⟨rfl, hm4⟩; have HA4 := Lib.hid (HA3.out.trans hm4 fun _ _ e => e); clear hm4)) | ((with_reducible refine wp_region_por ?_ ?_ ?_ ?_); kernel_rfl; kernel_rfl; (with_reducible repeat (first | exact calm_ret | refine calm_then ?_ | refine calm_in ?_ | refine calm_chk ?_ | refine calm_noGoto ?_))) | ((with_reducible refine chk_end ?_ ?_); kernel_rfl))
          go_ret
          exact ⟨by simp, HA4.out.mono fun _ _ e => e.elim, _, _, _, Hh.out.no HA4.out⟩
        · have hk4' : (kind == 4) = false := by simpa using hk4
          by_cases hk5 : kind = 5
          · subst hk5
            have hno := fun w' (hm : Mods No w w') => nodes_K w' q c N F (Hh.out.no hm).ring
            obtain ⟨_, nv, pv, hrf, _, _, _⟩ := Hh'.out.ref
            have HF := Lib.hid hrf
            obtain ⟨A1, c1, rfl, _, _⟩ := hrf.nown.form
            clear hrf
            have Hhno := Lib.hid hno
            clear hno
            go_wp2_with (first | ((with_reducible refine wp_region_one 13 (fun g => g = r) [5] 1 ?_ ?_ ?_ ?_ ?_); kernel_rfl; kernel_rfl; kernel_rfl; (with_reducible repeat (first | exact calm_ret | refine calm_then ?_ | refine calm_in ?_ | refine calm_chk ?_ | refine calm_noGoto ?_)); simp only [List.drop_succ_cons, List.drop_zero, List.take_succ_cons, List.take_zero]) | (with_reducible refine segEnd ?_) | (refine And.intro (Keep.one HM2.out HF.out.cells.drew (fun e => e)) ?_) | ((with_reducible refine chkM_end (fun g => g = r) ?_ [.pointer (some ⟨r, 1, none⟩)] ?_ ?_ ?_); kernel_rfl; kernel_rfl; (intro v hv x hx; simp only [List.mem_cons, List.not_mem_nil, or_false] at hv; subst hv; (injection hx with hx; injection hx with hx; subst hx; simp))) | (go_at_call 14; (refine ret_use (Hhno.out _ HhMS.out.drew) ?_; rintro u w2 ⟨ho2, hm2⟩; have HM2 := Lib.hid hm2; have HO2 := Lib.hid ho2; have HA2 := Lib.hid (HhMS.out.drew.trans hm2 fun _ _ e => e); have HF2 := Lib.hid (HF.out.no ((Mods.refl No _).drew.trans hm2 fun _ _ e => e)); have k1 := HF2.out.cells.at_ 1 rfl; have kl := HF2.out.cells.lt; obtain ⟨A2, c2, rfl, _, _⟩ := ho2.form; clear ho2 hm2)) | (go_at_call 12; (refine ret_use (sameT_K _ _ _ _ _ N N HO2.out.rdlt HF2.out.nown.rdlt (fun _ e => e) (fun _ e => e)) ?_; rintro u w4 ⟨rfl, hm4⟩; have HA4 := Lib.hid (HA2.out.trans hm4 fun _ _ e => e); clear hm4)) | ((with_reducible refine wp_region_por ?_ ?_ ?_ ?_); kernel_rfl; kernel_rfl; (with_reducible repeat (first | exact calm_ret | refine calm_then ?_ | refine calm_in ?_ | refine calm_chk ?_ | refine calm_noGoto ?_))) | ((with_reducible refine chk_end ?_ ?_); kernel_rfl))
            go_ret
            exact ⟨by simp, HA4.out.mono fun _ _ e => e.elim, _, _, _, Hh.out.no HA4.out⟩
          · have hk5' : (kind == 5) = false := by simpa using hk5
            by_cases hk6 : kind = 6
            · subst hk6
              have hno := fun w' (hm : Mods No w w') => places_K w' q c N F (Hh.out.no hm).ring
              obtain ⟨_, nv, pv, hrf, _, _, _⟩ := Hh'.out.ref
              obtain ⟨L, hL⟩ : ∃ L, L = placesOf c N := ⟨_, rfl⟩
              rw [← hL] at hno hrf
              clear hL
              have HF := Lib.hid hrf
              obtain ⟨A1, c1, rfl, _, _⟩ := hrf.pown.form
              clear hrf
              have Hhno := Lib.hid hno
              clear hno
              go_wp2_with (first | ((with_reducible refine wp_region_one 15 (fun g => g = r) [5] 1 ?_ ?_ ?_ ?_ ?_); kernel_rfl; kernel_rfl; kernel_rfl; (with_reducible repeat (first | exact calm_ret | refine calm_then ?_ | refine calm_in ?_ | refine calm_chk ?_ | refine calm_noGoto ?_)); simp only [List.drop_succ_cons, List.drop_zero, List.take_succ_cons, List.take_zero]) | (with_reducible refine segEnd ?_) | (refine And.intro (Keep.one HM2.out HF.out.cells.drew (fun e => e)) ?_) | ((with_reducible refine chkM_end (fun g => g = r) ?_ [.pointer (some ⟨r, 2, none⟩)] ?_ ?_ ?_); kernel_rfl; kernel_rfl; (intro v hv x hx; simp only [List.mem_cons, List.not_mem_nil, or_false] at hv; subst hv; (injection hx with hx; injection hx with hx; subst hx; simp))) | (go_at_call 15; (refine ret_use (Hhno.out _ HhMS.out.drew) ?_; rintro u w2 ⟨ho2, hm2⟩; have HM2 := Lib.hid hm2; have HO2 := Lib.hid ho2; have HA2 := Lib.hid (HhMS.out.drew.trans hm2 fun _ _ e => e); have HF2 := Lib.hid (HF.out.no ((Mods.refl No _).drew.trans hm2 fun _ _ e => e)); have k1 := HF2.out.cells.at_ 2 rfl; have kl := HF2.out.cells.lt; obtain ⟨A2, c2, rfl, _, _⟩ := ho2.form; clear ho2 hm2)) | (go_at_call 17; (refine ret_use (sameP_K _ _ _ _ _ L L HO2.out.rdlt HF2.out.pown.rdlt (fun _ e => e) (fun _ e => e)) ?_; rintro u w4 ⟨rfl, hm4⟩; have HA4 := Lib.hid (HA2.out.trans hm4 fun _ _ e => e); clear hm4)) | ((with_reducible refine wp_region_por ?_ ?_ ?_ ?_); kernel_rfl; kernel_rfl; (with_reducible repeat (first | exact calm_ret | refine calm_then ?_ | refine calm_in ?_ | refine calm_chk ?_ | refine calm_noGoto ?_))) | ((with_reducible refine chk_end ?_ ?_); kernel_rfl))
              go_ret
              exact ⟨by simp, HA4.out.mono fun _ _ e => e.elim, _, _, _, Hh.out.no HA4.out⟩
            · have hk6' : (kind == 6) = false := by simpa using hk6
              go_wp2_with (first | ((with_reducible refine wp_region_por ?_ ?_ ?_ ?_); kernel_rfl; kernel_rfl; (with_reducible repeat (first | exact calm_ret | refine calm_then ?_ | refine calm_in ?_ | refine calm_chk ?_ | refine calm_noGoto ?_))) | ((with_reducible refine chk_end ?_ ?_); kernel_rfl))
              go_ret
              exact ⟨rfl, HhMS.out.mono fun _ _ e => e.elim, _, _, _, Hh.out.no HhMS.out⟩
end Go.Proofs.YtilkepmmkhmghaaDoor
