/- Ring.Add. -/
import Derived.Test.YtcifajfmdpjfiaaDoorRgK
import Derived.Lib.ItoaLen
namespace Go.Proofs.YtcifajfmdpjfiaaDoor
open Go.RowKit Go.Tum Go.Lib Go.Sort
set_option maxRecDepth 100000
theorem addV_bad {N : List Tx} {s : Tx} (h : fitB s = false) : addV N s = (N, 130) := by
  unfold addV
  rw [show decide (1 ≤ s.length ∧ s.length ≤ 200) = false from h]; rfl
theorem addV_there {N : List Tx} {s : Tx} (h : fitB s = true) (hm : s ∈ N) (hl : N.length < 64) : addV N s = (N, 132) := by
  unfold addV
  rw [show decide (1 ≤ s.length ∧ s.length ≤ 200) = true from h, if_neg (by decide), if_pos ⟨hm, hl⟩]
theorem addV_full {N : List Tx} {s : Tx} (h : fitB s = true) (hl : 64 ≤ N.length) : addV N s = (N, 130) := by
  unfold addV
  rw [show decide (1 ≤ s.length ∧ s.length ≤ 200) = true from h, if_neg (by decide), if_neg (by omega), if_pos hl]
theorem addV_new {N : List Tx} {s : Tx} (h : fitB s = true) (hm : s ∉ N) (hl : N.length < 64) : addV N s = (insT N s, 0) := by
  unfold addV
  rw [show decide (1 ≤ s.length ∧ s.length ≤ 200) = true from h, if_neg (by decide), if_neg (fun e => hm e.1), if_neg (by omega)]
theorem ringI_ins {N : List Tx} {c : Nat} (h : RingI N c) {s : Tx} (hf : fitB s = true) (hs : s ∉ N) (hl : N.length < 64) : RingI (insT N s) c :=
  ⟨insT_strict h.strict hs, fun x hx => by rcases (insT_mem N s x).1 hx with rfl | hx; exact hf; exact h.fit x hx, by rw [insT_len]; omega, h.c1, h.c2⟩
/-- Between two rounds of Add's loop. -/
structure AdI (w wr : World) (q c : Nat) (N : List Tx) (s : Tx) (F : Nat → Prop) (u pv : Value) (i : Nat) : Prop where
  rg : RgK wr q c u pv (insT N s) (placesOf c N ++ news i s) (Ext F w.heap.size)
  hm : Mods F w wr
theorem ext_no {w : World} {F : Nat → Prop} {g : Nat} (h : g < w.heap.size) (hF : ¬ F g) : ¬ Ext F w.heap.size g := fun e => by
  rcases e with e | e
  · exact hF e
  · omega
theorem ad_start {w w2 wb w3 : World} {q c ps : Nat} {nv u pv : Value} {N : List Tx} {s : Tx} {F : Nat → Prop} (hr : RgK w2 q c nv pv N (placesOf c N) F) (ht : Tab w) (h2 : Mods No w w2) (hb : Mods No w2 wb)
    (h3 : Own w3 (fun k => nv.ownBlock = some k ∨ wb.heap.size ≤ k) 9 1 u (N.length + 1) ((N.take ps ++ s :: N.drop ps).map ks)) (hm3 : Mods (fun k => nv.ownBlock = some k) wb w3) (hin : insT N s = N.take ps ++ s :: N.drop ps) :
    AdI w (w3.setCell ⟨q, 1, none⟩ u) q c N s F u pv 0 := by
  have hq := (hr.cells.mods hb fun e => e).mods hm3 hr.nq.1
  have hlt := ht.lt
  have hno := ext_no hlt hr.f1
  have hsz := Nat.le_trans h2.size hb.size
  have hu : u.ownBlock ≠ some q := h3.ne_cells hq (by decide)
  rw [← hin, ← insT_len N s] at h3
  refine ⟨⟨hq.set_ 1 u, (h3.far hu u).more fun g hg => ?_, ?_, .inl hr.fq, hno⟩, ((h2.mono fun _ _ e => e.elim).trans (hb.mono fun _ _ e => e.elim) (fun _ _ e => e) |>.trans hm3 fun k _ e => ?_).setCell _ _ fun _ => hr.fq⟩
  · rcases hg with e | e
    · exact .inl (hr.nown.2 g e)
    · exact .inr (Nat.le_trans hsz e)
  · rw [show news 0 s = [] from rfl, List.append_nil]
    exact (((hr.pown.mods hb fun _ _ e => e).mods hm3 fun g hg e => hr.np g e hg).far hr.nq.2 u).more fun g e => .inl e
  · exact hr.nown.2 k e
theorem plcs_snoc (L : List Plc) (p : Plc) : plcs (L ++ [p]) = plcs L ++ [.int .u64 (p.1 : Int), ks p.2] := by simp [plcs, pl]
theorem ad_round {w wr wb w3 : World} {q c i : Nat} {u pv v : Value} {N : List Tx} {s : Tx} {F : Nat → Prop} {y : Int} (h : AdI w wr q c N s F u pv i) (hb : Mods No wr wb) {L : List Plc} (hL : L = placesOf c N ++ news i s)
    (h3 : Own w3 (fun k => pv.ownBlock = some k ∨ k = wb.heap.size) 103 2 v (L.length + 1) (plcs L ++ [.int .u64 y, ks s])) (hm3 : Mods (fun k => pv.ownBlock = some k) wb w3) (hy : y = (fnv64 (s ++ [58] ++ Lib.itoa (i : Int)) : Int)) :
    AdI w (w3.setCell ⟨q, 2, none⟩ v) q c N s F u v (i + 1) := by
  subst hy
  subst hL
  have hr := h.rg
  have hq := (hr.cells.mods hb fun e => e).mods hm3 hr.nq.2
  have hu : v.ownBlock ≠ some q := h3.ne_cells hq (by decide)
  have e : placesOf c N ++ news (i + 1) s = placesOf c N ++ news i s ++ [newP s i] := by rw [news_next, List.append_assoc]
  have hm := (h.hm.trans (hb.mono (T := No) fun _ _ e => e) fun _ _ e => e.elim).trans hm3 fun k hk e => by
    rcases hr.pown.2 k e with e | e
    · exact e
    · omega
  have hsz := Nat.le_trans h.hm.size hb.size
  refine ⟨⟨hq.set_ 2 v, ((hr.nown.mods hb fun _ _ e => e).mods hm3 fun g hg e => hr.np g hg e).far hr.nq.1 v, ?_, hr.fq, hr.f1⟩, hm.setCell _ _ fun hlt => ?_⟩
  · rw [e, plcs_snoc, List.length_append, List.length_singleton]
    refine (h3.far hu v).more fun g hg => ?_
    rcases hg with e | e
    · exact hr.pown.2 g e
    · exact .inr (by omega)
  · rcases hr.fq with e | e
    · exact e
    · exact absurd hlt (Nat.not_lt.2 e)
theorem ad_end {w wr w3 : World} {q c : Nat} {u pv : Value} {N : List Tx} {s : Tx} {F : Nat → Prop} (h : AdI w wr q c N s F u pv c) {L : List Plc} (hL : L = placesOf c N ++ news c s)
    (h3 : Own w3 (fun k => pv.ownBlock = some k) 103 2 pv L.length (plcs (sortL ltP L))) (hm3 : Mods (fun k => pv.ownBlock = some k) wr w3) :
    RgK w3 q c u pv (insT N s) (placesOf c (insT N s)) (Ext F w.heap.size) ∧ Mods F w w3 := by
  have hl : (sortL ltP L).length = L.length := (sortL_perm _ _).length_eq
  rw [← hl] at h3
  subst hL
  rw [placesOf_ins] at h3
  have hr := h.rg
  refine ⟨⟨hr.cells.mods hm3 hr.nq.2, hr.nown.mods hm3 fun g hg e => hr.np g hg e, h3.more hr.pown.2, hr.fq, hr.f1⟩, h.hm.trans hm3 fun k hk e => ?_⟩
  rcases hr.pown.2 k e with e | e
  · exact e
  · exact absurd hk (Nat.not_lt.2 e)
theorem ba_cat (a b : List UInt8) : (ByteArray.mk a.toArray ++ ByteArray.mk b.toArray) = ByteArray.mk (a ++ b).toArray := by
  rw [ByteArray.ext_iff]; simp
theorem hash_cat (w : World) (s : Tx) (i : Nat) (t : Tx) (ht : t = Lib.itoa (i : Int)) (hs : s.length ≤ 200) (hi : i ≤ 65536) (y : Int) (hy : y = (fnv64 (s ++ [58] ++ t) : Int)) : Calls Tryd.prog 46 #[.string (⟨s.toArray⟩ ++ ⟨#[58]⟩ ++ ⟨t.toArray⟩)] w (Ret fun v w' => v = .int .u64 y ∧ w = w') := by
  rw [show (⟨#[58]⟩ : ByteArray) = ⟨([58] : Tx).toArray⟩ from rfl, ba_cat s [58], ba_cat (s ++ [58]) t, hy]
  exact hash64_K w (s ++ [58] ++ t) (by
    have := Lib.itoa_length_le (i : Int) (by omega) (by omega)
    subst ht
    unfold maxLen
    simp only [List.length_append, List.length_cons, List.length_nil]
    omega)
theorem plc_one (y : Int) (s : Tx) : ∀ u ∈ [Value.int .u64 y, ks s], u.oneCell' = true := by
  intro u hu
  rcases List.mem_cons.1 hu with rfl | hu
  · rfl
  · rcases List.mem_cons.1 hu with rfl | hu
    · rfl
    · cases hu
set_option maxHeartbeats 6400000 in
theorem add_K (w : World) (q c : Nat) (N : List Tx) (s : Tx) (F : Nat → Prop) (h : RingK w q c N F) (ht : Tab w) (hsl : s.length ≤ 281474976710656) :
    Calls Tryd.prog 40 #[(.pointer (some ⟨q, 0, none⟩)), ks s] w (Ret fun v w' => v = .int .i64 (addV N s).2 ∧ RingK w' q c (addV N s).1 (Ext F w.heap.size) ∧ Mods F w w') := by
  obtain ⟨hI, nv, pv, h⟩ := h
  have hlt1 := ht.lt
  have hno1 : ¬ Ext F w.heap.size 1 := fun e => by
    rcases e with e | e
    · exact h.f1 e
    · omega
  have hold : RingK w q c N (Ext F w.heap.size) := ⟨hI, nv, pv, h.more (fun g e => .inl e) hno1⟩
  obtain ⟨A, cp, rfl, hac, _⟩ := h.nown.form
  have hbs := bsearch_K w F _ N s h.nown.rd (by have := hI.small; omega) hI.strict
  have hnode := node_K w s
  have hmade := made_some w q (c : Int) (h.cells.at_ 0 rfl) true (decide_eq_true (by have := hI.c1; omega))
  have c1 := h.cells.at_ 1 rfl
  have hs64 := hI.small
  have hc1 := hI.c1
  have hc2 := hI.c2
  cases hf : fitB s with
  | false =>
    have He := Lib.hid (addV_bad (N := N) hf)
    rw [hf] at hnode
    obtain ⟨b, hb⟩ : ∃ b, b = decide (s ∈ N) := ⟨_, rfl⟩
    rw [← hb] at hbs
    clear hb hf
    have Hhbs := Lib.hid hbs
    clear hbs
    have Hhnode := Lib.hid hnode
    clear hnode
    have Hhmade := Lib.hid hmade
    clear hmade
    have Hh := Lib.hid h
    clear h
    have Hhold := Lib.hid hold
    clear hold
    have Hht := Lib.hid ht
    clear ht
    have Hhno1 := Lib.hid hno1
    clear hno1
    unfold ks at *
    go_enter Tryd.func40, Tryd.ntmps40
    go_wp2_with (first | (go_at_call 41; (refine ret_use (Hhmade.out) ?_; rintro v w2 ⟨rfl, rfl⟩)) | (go_at_call 49; (refine ret_use (Hhbs.out) ?_; rintro v w2 ⟨rfl, rfl⟩)) | (go_at_call 39; (refine ret_use (Hhnode.out) ?_; rintro v w2 ⟨rfl, rfl⟩)) | ((with_reducible refine wp_region_por ?_ ?_ ?_ ?_); kernel_rfl; kernel_rfl; (with_reducible repeat (first | exact calm_ret | refine calm_then ?_ | refine calm_in ?_ | refine calm_chk ?_ | refine calm_noGoto ?_))) | ((with_reducible refine chk_end ?_ ?_); kernel_rfl))
    go_ret
    rw [He.out]
    exact ⟨rfl, Hhold.out, Mods.refl _ _⟩
  | true =>
    rw [hf] at hnode
    have hss : s.length ≤ 200 := (of_decide_eq_true (show decide (1 ≤ s.length ∧ s.length ≤ 200) = true from hf)).2
    by_cases hm : s ∈ N
    · rw [decide_eq_true hm] at hbs
      rcases Nat.lt_or_ge N.length 64 with hl | hl
      · have He := Lib.hid (addV_there hf hm hl)
        have hl' : decide ((N.length : Int) < 64) = true := decide_eq_true (by omega)
        clear hm hf
        have Hhbs := Lib.hid hbs
        clear hbs
        have Hhnode := Lib.hid hnode
        clear hnode
        have Hhmade := Lib.hid hmade
        clear hmade
        have Hh := Lib.hid h
        clear h
        have Hhold := Lib.hid hold
        clear hold
        have Hht := Lib.hid ht
        clear ht
        have Hhno1 := Lib.hid hno1
        clear hno1
        unfold ks at *
        go_enter Tryd.func40, Tryd.ntmps40
        go_wp2_with (first | (go_at_call 41; (refine ret_use (Hhmade.out) ?_; rintro v w2 ⟨rfl, rfl⟩)) | (go_at_call 49; (refine ret_use (Hhbs.out) ?_; rintro v w2 ⟨rfl, rfl⟩)) | (go_at_call 39; (refine ret_use (Hhnode.out) ?_; rintro v w2 ⟨rfl, rfl⟩)) | ((with_reducible refine wp_region_por ?_ ?_ ?_ ?_); kernel_rfl; kernel_rfl; (with_reducible repeat (first | exact calm_ret | refine calm_then ?_ | refine calm_in ?_ | refine calm_chk ?_ | refine calm_noGoto ?_))) | ((with_reducible refine chk_end ?_ ?_); kernel_rfl))
        go_ret
        rw [He.out]
        exact ⟨rfl, Hhold.out, Mods.refl _ _⟩
      · have He := Lib.hid (addV_full hf hl)
        have hl' : decide ((N.length : Int) < 64) = false := decide_eq_false (by omega)
        have hl2 : decide (64 ≤ (N.length : Int)) = true := decide_eq_true (by omega)
        clear hm hf
        have Hhbs := Lib.hid hbs
        clear hbs
        have Hhnode := Lib.hid hnode
        clear hnode
        have Hhmade := Lib.hid hmade
        clear hmade
        have Hh := Lib.hid h
        clear h
        have Hhold := Lib.hid hold
        clear hold
        have Hht := Lib.hid ht
        clear ht
        have Hhno1 := Lib.hid hno1
        clear hno1
        unfold ks at *
        go_enter Tryd.func40, Tryd.ntmps40
        go_wp2_with (first | (go_at_call 41; (refine ret_use (Hhmade.out) ?_; rintro v w2 ⟨rfl, rfl⟩)) | (go_at_call 49; (refine ret_use (Hhbs.out) ?_; rintro v w2 ⟨rfl, rfl⟩)) | (go_at_call 39; (refine ret_use (Hhnode.out) ?_; rintro v w2 ⟨rfl, rfl⟩)) | ((with_reducible refine wp_region_por ?_ ?_ ?_ ?_); kernel_rfl; kernel_rfl; (with_reducible repeat (first | exact calm_ret | refine calm_then ?_ | refine calm_in ?_ | refine calm_chk ?_ | refine calm_noGoto ?_))) | ((with_reducible refine chk_end ?_ ?_); kernel_rfl))
        go_ret
        rw [He.out]
        exact ⟨rfl, Hhold.out, Mods.refl _ _⟩
    · rw [decide_eq_false hm] at hbs
      rcases Nat.lt_or_ge N.length 64 with hl | hl
      · have He := Lib.hid (addV_new hf hm hl)
        have hl' : decide (64 ≤ (N.length : Int)) = false := decide_eq_false (by omega)
        have HI2 := Lib.hid (ringI_ins hI hf hm hl)
        have hpos := posT_le N s
        have HIN := Lib.hid (insT_at N s)
        obtain ⟨ps, hps⟩ : ∃ ps, ps = posT N s := ⟨_, rfl⟩
        rw [← hps] at hbs hpos HIN
        have hcl := clone_K w s (by omega)
        clear hm hf hps
        have Hhbs := Lib.hid hbs
        clear hbs
        have Hhnode := Lib.hid hnode
        clear hnode
        have Hhmade := Lib.hid hmade
        clear hmade
        have Hh := Lib.hid h
        clear h
        have Hhold := Lib.hid hold
        clear hold
        have Hht := Lib.hid ht
        clear ht
        have Hhno1 := Lib.hid hno1
        clear hno1
        have Hhcl := Lib.hid hcl
        clear hcl
        unfold ks at Hhbs Hhnode Hhcl ⊢
        go_enter Tryd.func40, Tryd.ntmps40
        go_wp2_with (first | (go_at_call 41; (refine ret_use (Hhmade.out) ?_; rintro v w2 ⟨rfl, rfl⟩)) | (go_at_call 49; (refine ret_use (Hhbs.out) ?_; rintro v w2 ⟨rfl, rfl⟩)) | (go_at_call 39; (refine ret_use (Hhnode.out) ?_; rintro v w2 ⟨rfl, rfl⟩)) | (go_at_call 53; (refine ret_use (Hhcl.out) ?_; rintro v w2 ⟨rfl, hm2⟩; have HM2 := Lib.hid hm2; have HR2 := Lib.hid (Hh.out.no hm2); have d1 := HR2.out.cells.at_ 1 rfl; clear hm2)) | (go_at_call 54; (refine ret_use (insert_K (w2.alloc (.cells #[ks s] 9)) F _ N s ps w2.heap.size (HR2.out.no ((Mods.refl No w2).alloc _)).nown hpos (by omega) (Cells.new w2 _ _) (fun e => absurd (HR2.out.nown.lt _ e) (Nat.lt_irrefl _))) ?_; rintro u w3 ⟨ho3, hm3⟩; have HO3 := Lib.hid ho3; have HM3 := Lib.hid hm3; have HC3 := Lib.hid ((HR2.out.no ((Mods.refl No w2).alloc (.cells #[ks s] 9))).cells.mods hm3 Hh.out.nq.1); have e1 := HC3.out.at_ 1 rfl; have e0 := HC3.out.at_ 0 rfl; have ef := HC3.out.frozen 1; have el := HC3.out.lt; obtain ⟨A3, cp3, rfl, _, _⟩ := ho3.form; clear ho3 hm3)) | ((with_reducible refine wp_region_por ?_ ?_ ?_ ?_); kernel_rfl; kernel_rfl; (with_reducible repeat (first | exact calm_ret | refine calm_then ?_ | refine calm_in ?_ | refine calm_chk ?_ | refine calm_noGoto ?_))) | ((with_reducible refine chk_end ?_ ?_); kernel_rfl))
        have HA0 := Lib.hid (ad_start (wb := w2.alloc (.cells #[ks s] 9)) HR2.out Hht.out HM2.out ((Mods.refl No w2).alloc _) HO3.out HM3.out HIN.out)
        clear e1 e0 ef el d1
        go_loopg [58] c (fun k v58 wr => ∃ (i : Nat) (pv' : Value), v58 = .int .i64 i ∧ i ≤ c ∧ k + i = c ∧ AdI w wr q c N s F (.slice A3 (N.length + 1) cp3) pv' i)
        case atStart => exact ⟨0, pv, rfl, Nat.zero_le _, rfl, HA0.out⟩
        case round =>
          obtain ⟨i, pv', rfl, hic, hki, had⟩ := hrel
          have Hin := Lib.hid had
          have Hki := Lib.hid hki
          have HT := Lib.hid (Hht.out.mods had.hm Hh.out.f1)
          have k0 := had.rg.cells.at_ 0 rfl
          have k2 := had.rg.cells.at_ 2 rfl
          have kl := had.rg.cells.lt
          have hrg := had.rg
          have hpl : (placesOf c N ++ news i s).length ≤ 65536 := by
            rw [List.length_append, news_len]; have := hI.psmall; omega
          obtain ⟨L, hL⟩ : ∃ L, L = placesOf c N ++ news i s := ⟨_, rfl⟩
          rw [← hL] at hrg hpl
          have HL := Lib.hid hL
          have HRG := Lib.hid hrg
          obtain ⟨Ap, cpp, rfl, _, _⟩ := hrg.pown.form
          clear had hki hrg hL
          rcases Nat.lt_or_ge i c with h1 | h1
          · obtain ⟨y, hy⟩ : ∃ y : Int, y = (fnv64 (s ++ [58] ++ Lib.itoa (i : Int)) : Int) := ⟨_, rfl⟩
            have Hy := Lib.hid hy
            have hit := Lib.itoa_length_le (i : Int) (by omega) (by omega)
            clear hy
            go_wp2_with (first | (go_at_call 55; (refine ret_use (itoa_K _ i (by omega) (by exact HT.out)) ?_; rintro v w4 ⟨rfl, hm4⟩; (unfold ks); have HM4 := Lib.hid hm4; have HR4 := Lib.hid ((Mods.refl No wr).drew.trans hm4 fun _ _ e => e); clear hm4)) | (go_at_call 46; (refine ret_use (hash_cat w4 s i (Lib.itoa i) rfl hss (by omega) y Hy.out) ?_; rintro v w5 ⟨rfl, rfl⟩)) | ((with_reducible refine wp_region_three 15 (fun g => g = q) [4] 8 10 13 ?_ ?_ ?_ ?_ ?_); kernel_rfl; kernel_rfl; kernel_rfl; (with_reducible repeat (first | exact calm_ret | refine calm_then ?_ | refine calm_in ?_ | refine calm_chk ?_ | refine calm_noGoto ?_)); simp only [List.drop_succ_cons, List.drop_zero, List.take_succ_cons, List.take_zero]) | (with_reducible refine segEnd ?_) | (refine And.intro (Keep.one HM4.out (HRG.out.cells.drew) (fun e => e)) ?_) | (refine And.intro (Keep.one (Mods.refl No _) (HRG.out.cells.drew.mods HM4.out fun e => e) (fun e => e)) ?_) | (refine And.intro (Keep.one ((Mods.refl No _).alloc _) ((HRG.out.cells.drew.mods HM4.out fun e => e)) (fun e => e)) ?_) | ((with_reducible refine chkM_end (fun g => g = q) ?_ [.pointer (some ⟨q, 2, none⟩)] ?_ ?_ ?_); kernel_rfl; kernel_rfl; (intro v hv x hx; simp only [List.mem_cons, List.not_mem_nil, or_false] at hv; subst hv; (injection hx with hx; injection hx with hx; subst hx; simp))) | (at_builtin; ((refine wpList_append _ rfl (.tmp 65) (.tmp 74) 31 rfl 103 (.agg #[.int .u64 0, .string ⟨#[]⟩]) 2 24 Tryd.underlying31 infoPl rfl (by decide) (F := fun k => (Value.slice Ap L.length cpp).ownBlock = some k) (n := L.length) (xs := plcs L) (by rfl) ((HRG.out.pown.tight.mods HR4.out fun _ _ e => e).mods ((Mods.refl No w4).alloc (.cells #[.int .u64 y, ks s] 103)) fun _ _ e => e) (G := fun g => g = w4.heap.size) (y := .slice (some ⟨w4.heap.size, 0, none⟩) 1 1) (m := 1) (news := [.int .u64 y, ks s]) (by rfl) (Rd.box _ #[.int .u64 y, ks s] _ rfl rfl (by decide)) (plc_one y s) (by omega) (by decide) ?_); intro v6 w6 hown6 hm6 _; have HQ6 := Lib.hid ((HRG.out.cells.mods (HR4.out.alloc (.cells #[.int .u64 y, ks s] 103)) fun e => e).mods hm6 HRG.out.nq.2); have j0 := HQ6.out.at_ 0 rfl; have j2 := HQ6.out.at_ 2 rfl; have jf := HQ6.out.frozen 2; have jl := HQ6.out.lt; have HA6 := Lib.hid (ad_round Hin.out (HR4.out.alloc (.cells #[.int .u64 y, ks s] 103)) HL.out hown6 hm6 Hy.out); obtain ⟨A6, c6, rfl, _, _⟩ := hown6.form; clear hown6 hm6)) | ((with_reducible refine wp_region_por ?_ ?_ ?_ ?_); kernel_rfl; kernel_rfl; (with_reducible repeat (first | exact calm_ret | refine calm_then ?_ | refine calm_in ?_ | refine calm_chk ?_ | refine calm_noGoto ?_))) | ((with_reducible refine chk_end ?_ ?_); kernel_rfl))
            go_roundg (gk - 1)
            case rel => exact ⟨i + 1, _, by go_num, h1, by have := Hki.out; omega, HA6.out⟩
            case measure => have := Hki.out; omega
          · obtain rfl : i = c := by omega
            have hso := fun w' (hm' : Mods No wr w') => sort_K w' _ _ _ (HRG.out.pown.tight.mods hm' fun _ _ e => e) hpl
            have Hhso := Lib.hid hso
            clear hso
            go_wp2_with (first | (go_at_call 56; (refine ret_use (Hhso.out wr (Mods.refl No wr)) ?_; rintro v w7 ⟨ho7, hm7⟩; have HO7 := Lib.hid ho7; have HM7 := Lib.hid hm7; clear ho7 hm7)) | ((with_reducible refine wp_region_por ?_ ?_ ?_ ?_); kernel_rfl; kernel_rfl; (with_reducible repeat (first | exact calm_ret | refine calm_then ?_ | refine calm_in ?_ | refine calm_chk ?_ | refine calm_noGoto ?_))) | ((with_reducible refine chk_end ?_ ?_); kernel_rfl))
            go_ret
            rw [He.out]
            have hE := ad_end Hin.out HL.out HO7.out HM7.out
            exact ⟨rfl, ⟨HI2.out, _, _, hE.1⟩, hE.2⟩
      · have He := Lib.hid (addV_full hf hl)
        have hl2 : decide (64 ≤ (N.length : Int)) = true := decide_eq_true (by omega)
        clear hm hf
        have Hhbs := Lib.hid hbs
        clear hbs
        have Hhnode := Lib.hid hnode
        clear hnode
        have Hhmade := Lib.hid hmade
        clear hmade
        have Hh := Lib.hid h
        clear h
        have Hhold := Lib.hid hold
        clear hold
        have Hht := Lib.hid ht
        clear ht
        have Hhno1 := Lib.hid hno1
        clear hno1
        unfold ks at *
        go_enter Tryd.func40, Tryd.ntmps40
        go_wp2_with (first | (go_at_call 41; (refine ret_use (Hhmade.out) ?_; rintro v w2 ⟨rfl, rfl⟩)) | (go_at_call 49; (refine ret_use (Hhbs.out) ?_; rintro v w2 ⟨rfl, rfl⟩)) | (go_at_call 39; (refine ret_use (Hhnode.out) ?_; rintro v w2 ⟨rfl, rfl⟩)) | ((with_reducible refine wp_region_por ?_ ?_ ?_ ?_); kernel_rfl; kernel_rfl; (with_reducible repeat (first | exact calm_ret | refine calm_then ?_ | refine calm_in ?_ | refine calm_chk ?_ | refine calm_noGoto ?_))) | ((with_reducible refine chk_end ?_ ?_); kernel_rfl))
        go_ret
        rw [He.out]
        exact ⟨rfl, Hhold.out, Mods.refl _ _⟩
end Go.Proofs.YtcifajfmdpjfiaaDoor
