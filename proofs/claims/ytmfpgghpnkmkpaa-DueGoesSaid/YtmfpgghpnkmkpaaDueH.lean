/- The queue's methods: New, Set, Len, At, Next. -/
import Derived.Test.YtmfpgghpnkmkpaaDueG
import Derived.Shelf.Pu.Clone
namespace Go.Proofs.Ytmfpgghpnkmkpaa
open Go.RowKit Go.Tum
set_option maxRecDepth 100000
def cloneL_ren : Go.Shelf.Ren := ⟨fun | 25 => 41 | n => n, fun | 9 => 9 | 3 => 3 | 4 => 4 | 37 => 87 | 0 => 0 | 47 => 88 | 5 => 5 | n => n, fun | n => n⟩
set_option maxRecDepth 100000 in
theorem cloneL : Go.Proofs.LaysPu.n25 Try.prog cloneL_ren := {
  mixed := by kernel_rfl,
  f25 := Try.func41.trans (congrArg some (by kernel_rfl)),
  t0 := Try.underlying0,
  a0 := Try.isAgg0,
  z0 := Try.sizeOf0,
  v0 := Try.zeroValue0,
  i0 := by kernel_rfl,
  t3 := Try.underlying3,
  a3 := Try.isAgg3,
  z3 := Try.sizeOf3,
  v3 := Try.zeroValue3,
  i3 := by kernel_rfl,
  t4 := Try.underlying4,
  a4 := Try.isAgg4,
  z4 := Try.sizeOf4,
  v4 := Try.zeroValue4,
  i4 := by kernel_rfl,
  t5 := Try.underlying5,
  a5 := Try.isAgg5,
  z5 := Try.sizeOf5,
  v5 := Try.zeroValue5,
  i5 := by kernel_rfl,
  t9 := Try.underlying9,
  a9 := Try.isAgg9,
  z9 := Try.sizeOf9,
  v9 := Try.zeroValue9,
  i9 := by kernel_rfl,
  t37 := Try.underlying87,
  a37 := Try.isAgg87,
  z37 := Try.sizeOf87,
  v37 := Try.zeroValue87,
  i37 := by kernel_rfl,
  t47 := Try.underlying88,
  a47 := Try.isAgg88,
  z47 := Try.sizeOf88,
  v47 := Try.zeroValue88,
  i47 := by kernel_rfl }
theorem clone_K (w : World) (s : List UInt8) (h : s.length ≤ 281474976710656) : Calls Try.prog 28 #[ks s] w (Ret fun v w' => v = ks s ∧ Mods No w w') := by
  have hc : Calls Try.prog 41 #[.string ⟨s.toArray⟩] w (Ret fun v w' => v = ks s ∧ Mods No w w') := (AnyPu.stringslite_Clone cloneL ⟨s.toArray⟩ w h).mono fun e w' he => by
    obtain ⟨rfl, hb⟩ := he
    exact ⟨rfl, Mods.of_below hb⟩
  have Hhc := Lib.hid hc
  clear hc
  have Hh := Lib.hid h
  clear h
  unfold ks
  go_enter Try.func28, Try.ntmps28
  go_wp2_with (first | (go_at_call 41; (refine ret_use (Hhc.out) ?_; rintro v w2 ⟨rfl, hm2⟩; (unfold ks); have HM2 := Lib.hid hm2; clear hm2)) | ((with_reducible refine wp_region_por ?_ ?_ ?_ ?_); kernel_rfl; kernel_rfl; (with_reducible repeat (first | exact calm_ret | refine calm_then ?_ | refine calm_in ?_ | refine calm_chk ?_ | refine calm_noGoto ?_))) | ((with_reducible refine chk_end ?_ ?_); kernel_rfl))
  go_ret
  exact ⟨rfl, HM2.out⟩
def d0 : Nat → Ent := fun _ => ([], 0)
theorem new_bad (w : World) (lim : Int) (h : lim < 1 ∨ 65536 < lim) : Calls Try.prog 8 #[.int .i64 lim] w (Ret fun v w' => v = .tuple #[.pointer none, .int .i64 1] ∧ Mods No w w') := by
  go_enter Try.func8, Try.ntmps8
  by_cases h1 : lim < 1
  · have h1' : decide (lim < 1) = true := decide_eq_true h1
    clear h
    go_wp2_with (first | ((with_reducible refine wp_region_por ?_ ?_ ?_ ?_); kernel_rfl; kernel_rfl; (with_reducible repeat (first | exact calm_ret | refine calm_then ?_ | refine calm_in ?_ | refine calm_chk ?_ | refine calm_noGoto ?_))) | ((with_reducible refine chk_end ?_ ?_); kernel_rfl))
    go_ret2
    exact ⟨rfl, Mods.refl _ _⟩
  · have h1' : decide (lim < 1) = false := decide_eq_false h1
    have h2' : decide (65536 < lim) = true := decide_eq_true (by omega)
    clear h
    go_wp2_with (first | ((with_reducible refine wp_region_por ?_ ?_ ?_ ?_); kernel_rfl; kernel_rfl; (with_reducible repeat (first | exact calm_ret | refine calm_then ?_ | refine calm_in ?_ | refine calm_chk ?_ | refine calm_noGoto ?_))) | ((with_reducible refine chk_end ?_ ?_); kernel_rfl))
    go_ret2
    exact ⟨rfl, Mods.refl _ _⟩
theorem new_ok (w : World) (lim : Int) (h1 : 1 ≤ lim) (h2 : lim ≤ 65536) : Calls Try.prog 8 #[.int .i64 lim] w
    (Ret fun v w' => v = .tuple #[(.pointer (some ⟨w.heap.size + 1, 0, none⟩)), .int .i64 0] ∧ QueueK w' (w.heap.size + 1) lim d0 0 (fun g => w.heap.size ≤ g ∧ g < w'.heap.size) ∧ Mods No w w') := by
  have hmm := @run_makeMap Try.prog
  have h1' : decide (lim < 1) = false := decide_eq_false (by omega)
  have h2' : decide (65536 < lim) = false := decide_eq_false (by omega)
  go_enter Try.func8, Try.ntmps8
  go_wp2_with (first | ((with_reducible refine wp_region_por ?_ ?_ ?_ ?_); kernel_rfl; kernel_rfl; (with_reducible repeat (first | exact calm_ret | refine calm_then ?_ | refine calm_in ?_ | refine calm_chk ?_ | refine calm_noGoto ?_))) | ((with_reducible refine chk_end ?_ ?_); kernel_rfl))
  go_ret2
  have hc := Cells.new (w.alloc (.map #[] 0)) 61 #[.int .i64 lim, .slice none 0 0, .map (some w.heap.size)]
  rw [World.size_alloc] at hc
  refine ⟨rfl, ⟨_, _, hc, Own.nil _ _ _ _, ((SMap.made _ _ _ _).alloc _).congr fun _ => rfl, fun i j hi => absurd hi (Nat.not_lt_zero _), fun i hi => absurd hi (Nat.not_lt_zero _), by decide, ?_, ?_⟩, ((Mods.refl No w).alloc _).alloc _⟩
  · simp
  · simp only [World.size_alloc]; omega
theorem set_at {w : World} {q gm n g c i : Nat} {lim : Int} {d : Nat → Ent} {F : Nat → Prop} (h : QK w q lim (.slice (some ⟨g, 0, none⟩) n c) gm d n F) (hg : F g) (hi : i < n) (t : Int) :
    QueueK (w.setCell ⟨g, i * 2 + 1, none⟩ (.int .i64 t)) q lim (fun k => if k = i then ((d i).1, t) else d k) n F ∧ Mods F w (w.setCell ⟨g, i * 2 + 1, none⟩ (.int .i64 t)) := by
  have nq : q ≠ g := fun e => h.nq.1 (by rw [e]; rfl)
  have nm : gm ≠ g := fun e => h.nm (by rw [e]; rfl)
  have hkey : ∀ k, ((fun k => if k = i then ((d i).1, t) else d k) k).1 = (d k).1 := fun k => by
    dsimp only
    split
    · rename_i e; rw [e]
    · rfl
  have ho := h.own.set (g := g) rfl (i * 2 + 1) (.int .i64 t)
  have he : (ents d n).set (i * 2 + 1) (.int .i64 t) = ents (fun k => if k = i then ((d i).1, t) else d k) n := by
    refine ents_ext (by simp [ents_length]) fun k hk => ?_
    have h1 := ents_at d hk
    have hl := ents_length d n
    simp only [List.getElem?_set]
    by_cases e : k = i
    · subst e
      rw [if_pos rfl]
      constructor
      · rw [if_neg (by omega)]; exact h1.1
      · rw [if_pos rfl, if_pos (by omega)]
    · rw [if_neg e]
      constructor
      · rw [if_neg (by omega)]; exact h1.1
      · rw [if_neg (by omega)]; exact h1.2
  rw [he] at ho
  refine ⟨⟨_, gm, h.cells.far nq _, ho, (h.map.far nm _).congr fun key => ?_, fun a b ha hb e => ?_, fun a ha => ?_, h.small, h.fq, h.fm⟩, (Mods.refl F w).setCell _ _ fun _ => hg⟩
  · unfold look spot
    congr 1
    exact congrArg (fun p => List.find? p (List.range n)) (funext fun k => by rw [hkey k])
  · rw [hkey, hkey] at e; exact h.keys a b ha hb e
  · rw [hkey]; exact h.wf a ha
theorem fix_Z {w : World} {q : Nat} {lim : Int} {d : Nat → Ent} {n i : Nat} {F : Nat → Prop} (h : QueueK w q lim d n F) (hi : i < n) :
    Calls Try.prog 26 #[.iface 65 (.pointer (some ⟨q, 1, none⟩)), .int .i64 i] w (Ret fun _ w' => QueueK w' q lim (fixed before d n i) n F ∧ Mods F w w') := fix_K w q lim d n i F h hi
abbrev QS := (Nat → Ent) × Nat
/-- What Set does. -/
def setQ (lim : Int) (s : QS) (key : List UInt8) (t : Int) : QS × Int :=
  match spot s.1 s.2 key with
  | some i => ((fixed before (fun k => if k = i then ((s.1 i).1, t) else s.1 k) s.2 i, s.2), 0)
  | none => if lim ≤ s.2 then (s, 70) else ((pushed before s.1 s.2 (key, t), s.2 + 1), 0)
set_option maxHeartbeats 1600000 in
theorem set_K (w : World) (q : Nat) (lim : Int) (s : QS) (F : Nat → Prop) (key : List UInt8) (t : Int) (h : QueueK w q lim s.1 s.2 F) (h0 : 0 < lim) (h1 : lim ≤ 65536) (hl : key.length ≤ 281474976710656) :
    Calls Try.prog 9 #[(.pointer (some ⟨q, 0, none⟩)), ks key, .int .i64 t] w (Ret fun v w' => v = .int .i64 (setQ lim s key t).2 ∧ QueueK w' q lim (setQ lim s key t).1.1 (setQ lim s key t).1.2 (Ext F w.heap.size) ∧ Mods F w w') := by
  obtain ⟨d, n⟩ := s
  dsimp only at h ⊢
  have hmx : key.length ≤ maxLen := by unfold maxLen; omega
  have h' := h
  obtain ⟨v, gm, hq⟩ := h
  have c0 := hq.cells.at_ 0 rfl
  have c2 := hq.cells.at_ 2 rfl
  have hmade := made_some w q lim (hq.cells.at_ 0 rfl) true (decide_eq_true h0)
  have Hhmade := Lib.hid hmade
  clear hmade
  cases hs : spot d n key with
  | some i =>
    obtain ⟨hi, hik⟩ := spot_some hs
    obtain ⟨g, c, rfl, hg, hc, hx⟩ := hq.own.cells (by omega)
    have c1 := hq.cells.at_ 1 rfl
    have x1 := (hx (i * 2 + 1) (by omega)).1
    have f1 := (hx (i * 2 + 1) (by omega)).2
    rw [(ents_at d hi).2] at x1
    have HS := Lib.hid (set_at hq hg hi t)
    have hL : look d n key = some (i : Int) := by unfold look; rw [hs]; rfl
    have hsm := hq.small
    clear hx
    have HhL := Lib.hid hL
    clear hL
    have Hhs := Lib.hid hs
    clear hs
    have Hhq := Lib.hid hq
    clear hq
    have Hh' := Lib.hid h'
    clear h'
    have Hhik := Lib.hid hik
    clear hik
    unfold ks at *
    go_enter Try.func9, Try.ntmps9
    go_wp2_with (first | (go_at_call 25; (refine ret_use (Hhmade.out) ?_; rintro v w2 ⟨rfl, rfl⟩)) | (at_lookup; ((refine wpList_smap_some _ rfl _ _ rfl Try.underlying9 Try.underlying57 Try.underlying3 zeroI rfl key rfl Hhq.out.map hmx (i : Int) HhL.out ?_))) | (go_at_call 26; (refine ret_use (fix_Z HS.out.1 hi) ?_; rintro v w3 ⟨hq3, hm3⟩; have HQ3 := Lib.hid hq3; have HM3 := Lib.hid hm3; clear hq3 hm3)) | ((with_reducible refine wp_region_por ?_ ?_ ?_ ?_); kernel_rfl; kernel_rfl; (with_reducible repeat (first | exact calm_ret | refine calm_then ?_ | refine calm_in ?_ | refine calm_chk ?_ | refine calm_noGoto ?_))) | ((with_reducible refine chk_end ?_ ?_); kernel_rfl))
    go_ret
    have e : setQ lim (d, n) key t = ((fixed before (fun k => if k = i then ((d i).1, t) else d k) n i, n), 0) := by unfold setQ; rw [Hhs.out]
    rw [e]
    exact ⟨rfl, HQ3.out.more fun _ e => .inl e, HS.out.2.trans HM3.out fun _ _ e => e⟩
  | none =>
    have hL : look d n key = none := by unfold look; rw [hs]; rfl
    obtain ⟨A, c, rfl, hnc, _⟩ := hq.own.form
    have c1 := hq.cells.at_ 1 rfl
    have hsm := hq.small
    by_cases hf : lim ≤ n
    · have hf' : decide (lim ≤ (n : Int)) = true := decide_eq_true hf
      have HhL := Lib.hid hL
      clear hL
      have Hhs := Lib.hid hs
      clear hs
      have Hhq := Lib.hid hq
      clear hq
      have Hh' := Lib.hid h'
      clear h'
      unfold ks at *
      go_enter Try.func9, Try.ntmps9
      go_wp2_with (first | (go_at_call 25; (refine ret_use (Hhmade.out) ?_; rintro v w2 ⟨rfl, rfl⟩)) | (at_lookup; ((refine wpList_smap_none _ rfl _ _ rfl Try.underlying9 Try.underlying57 Try.underlying3 zeroI rfl key rfl Hhq.out.map hmx HhL.out ?_))) | ((with_reducible refine wp_region_por ?_ ?_ ?_ ?_); kernel_rfl; kernel_rfl; (with_reducible repeat (first | exact calm_ret | refine calm_then ?_ | refine calm_in ?_ | refine calm_chk ?_ | refine calm_noGoto ?_))) | ((with_reducible refine chk_end ?_ ?_); kernel_rfl))
      go_ret
      have e : setQ lim (d, n) key t = ((d, n), 70) := by unfold setQ; rw [Hhs.out]; exact if_pos hf
      rw [e]
      exact ⟨rfl, (Hh'.out.no (Mods.refl No w).drew).more fun _ e => .inl e, (Mods.refl F w).drew⟩
    · have hf' : decide (lim ≤ (n : Int)) = false := decide_eq_false hf
      have hk := spot_none hs
      have hcl := fun w => clone_K w key hl
      have hpu := fun w2 (hm : Mods No w w2) => push_K w2 q lim d n F key t (h'.no hm) (by omega) hk hmx
      have HhL := Lib.hid hL
      clear hL
      have Hhs := Lib.hid hs
      clear hs
      have Hhq := Lib.hid hq
      clear hq
      have Hh' := Lib.hid h'
      clear h'
      have Hhk := Lib.hid hk
      clear hk
      have Hhcl := Lib.hid hcl
      clear hcl
      have Hhpu := Lib.hid hpu
      clear hpu
      unfold ks at *
      go_enter Try.func9, Try.ntmps9
      go_wp2_with (first | (go_at_call 25; (refine ret_use (Hhmade.out) ?_; rintro v w2 ⟨rfl, rfl⟩)) | (at_lookup; ((refine wpList_smap_none _ rfl _ _ rfl Try.underlying9 Try.underlying57 Try.underlying3 zeroI rfl key rfl Hhq.out.map hmx HhL.out ?_))) | (go_at_call 28; (refine ret_use (Hhcl.out _) ?_; rintro v w2 ⟨rfl, hm2⟩; have HM2 := Lib.hid ((Mods.refl No w).drew.drew.trans hm2 fun _ _ e => e); clear hm2)) | (go_at_call 27; (refine ret_use (Hhpu.out _ HM2.out) ?_; rintro v w3 ⟨hq3, hm3⟩; have HQ3 := Lib.hid hq3; have HM3 := Lib.hid hm3; clear hq3 hm3)) | ((with_reducible refine wp_region_por ?_ ?_ ?_ ?_); kernel_rfl; kernel_rfl; (with_reducible repeat (first | exact calm_ret | refine calm_then ?_ | refine calm_in ?_ | refine calm_chk ?_ | refine calm_noGoto ?_))) | ((with_reducible refine chk_end ?_ ?_); kernel_rfl))
      go_ret
      have e : setQ lim (d, n) key t = ((pushed before d n (key, t), n + 1), 0) := by unfold setQ; rw [Hhs.out]; exact if_neg (by omega)
      rw [e]
      have hz := HM2.out.size
      exact ⟨rfl, HQ3.out.more fun g e => by rcases e with e | e; exact .inl e; exact .inr (Nat.le_trans hz e), (HM2.out.mono no_sub).trans HM3.out fun _ _ e => e⟩
def atQ (s : QS) (key : List UInt8) : Int × Bool := match spot s.1 s.2 key with | some i => ((s.1 i).2, true) | none => (0, false)
set_option maxHeartbeats 1600000 in
theorem at_K (w : World) (q : Nat) (lim : Int) (s : QS) (F : Nat → Prop) (key : List UInt8) (h : QueueK w q lim s.1 s.2 F) (h0 : 0 < lim) (hmx : key.length ≤ maxLen) :
    Calls Try.prog 13 #[(.pointer (some ⟨q, 0, none⟩)), ks key] w (Ret fun v w' => v = .tuple #[.int .i64 (atQ s key).1, .bool (atQ s key).2] ∧ Mods No w w') := by
  obtain ⟨d, n⟩ := s
  dsimp only at h ⊢
  obtain ⟨v, gm, hq⟩ := h
  have c0 := hq.cells.at_ 0 rfl
  have c2 := hq.cells.at_ 2 rfl
  have hmade := made_some w q lim (hq.cells.at_ 0 rfl) true (decide_eq_true h0)
  have hsm := hq.small
  have Hhmade := Lib.hid hmade
  clear hmade
  cases hs : spot d n key with
  | some i =>
    obtain ⟨hi, hik⟩ := spot_some hs
    obtain ⟨g, c, rfl, hg, hc, hx⟩ := hq.own.cells (by omega)
    have c1 := hq.cells.at_ 1 rfl
    have x1 := (hx (i * 2 + 1) (by omega)).1
    rw [(ents_at d hi).2] at x1
    have hL : look d n key = some (i : Int) := by unfold look; rw [hs]; rfl
    clear hx
    have HhL := Lib.hid hL
    clear hL
    have Hhs := Lib.hid hs
    clear hs
    have Hhq := Lib.hid hq
    clear hq
    have Hhik := Lib.hid hik
    clear hik
    unfold ks at *
    go_enter Try.func13, Try.ntmps13
    go_wp2_with (first | (go_at_call 25; (refine ret_use (Hhmade.out) ?_; rintro v w2 ⟨rfl, rfl⟩)) | (at_lookup; ((refine wpList_smap_some _ rfl _ _ rfl Try.underlying9 Try.underlying57 Try.underlying3 zeroI rfl key rfl Hhq.out.map hmx (i : Int) HhL.out ?_))) | ((with_reducible refine wp_region_por ?_ ?_ ?_ ?_); kernel_rfl; kernel_rfl; (with_reducible repeat (first | exact calm_ret | refine calm_then ?_ | refine calm_in ?_ | refine calm_chk ?_ | refine calm_noGoto ?_))) | ((with_reducible refine chk_end ?_ ?_); kernel_rfl))
    go_ret2
    have e : atQ (d, n) key = ((d i).2, true) := by unfold atQ; rw [Hhs.out]
    rw [e]
    exact ⟨rfl, by repeat (first | exact Mods.refl _ _ | apply Mods.drew)⟩
  | none =>
    have hL : look d n key = none := by unfold look; rw [hs]; rfl
    have HhL := Lib.hid hL
    clear hL
    have Hhs := Lib.hid hs
    clear hs
    have Hhq := Lib.hid hq
    clear hq
    unfold ks at *
    go_enter Try.func13, Try.ntmps13
    go_wp2_with (first | (go_at_call 25; (refine ret_use (Hhmade.out) ?_; rintro v w2 ⟨rfl, rfl⟩)) | (at_lookup; ((refine wpList_smap_none _ rfl _ _ rfl Try.underlying9 Try.underlying57 Try.underlying3 zeroI rfl key rfl Hhq.out.map hmx HhL.out ?_))) | ((with_reducible refine wp_region_por ?_ ?_ ?_ ?_); kernel_rfl; kernel_rfl; (with_reducible repeat (first | exact calm_ret | refine calm_then ?_ | refine calm_in ?_ | refine calm_chk ?_ | refine calm_noGoto ?_))) | ((with_reducible refine chk_end ?_ ?_); kernel_rfl))
    go_ret2
    have e : atQ (d, n) key = (0, false) := by unfold atQ; rw [Hhs.out]
    rw [e]
    exact ⟨rfl, by repeat (first | exact Mods.refl _ _ | apply Mods.drew)⟩
theorem qlen_K (w : World) (q : Nat) (lim : Int) (s : QS) (F : Nat → Prop) (h : QueueK w q lim s.1 s.2 F) (h0 : 0 < lim) :
    Calls Try.prog 10 #[(.pointer (some ⟨q, 0, none⟩))] w (Ret fun v w' => v = .int .i64 s.2 ∧ w = w') := by
  obtain ⟨d, n⟩ := s
  dsimp only at h ⊢
  obtain ⟨v, gm, hq⟩ := h
  obtain ⟨A, c, rfl, hnc, _⟩ := hq.own.form
  have c1 := hq.cells.at_ 1 rfl
  have hmade := made_some w q lim (hq.cells.at_ 0 rfl) true (decide_eq_true h0)
  have hsm := hq.small
  have Hhmade := Lib.hid hmade
  clear hmade
  have Hhq := Lib.hid hq
  clear hq
  go_enter Try.func10, Try.ntmps10
  go_wp2_with (first | (go_at_call 25; (refine ret_use (Hhmade.out) ?_; rintro v w2 ⟨rfl, rfl⟩)) | ((with_reducible refine wp_region_por ?_ ?_ ?_ ?_); kernel_rfl; kernel_rfl; (with_reducible repeat (first | exact calm_ret | refine calm_then ?_ | refine calm_in ?_ | refine calm_chk ?_ | refine calm_noGoto ?_))) | ((with_reducible refine chk_end ?_ ?_); kernel_rfl))
  go_ret
  exact ⟨rfl, rfl⟩
def nextQ (s : QS) : Ent × Bool := if s.2 = 0 then (([], 0), false) else (s.1 0, true)
theorem infoDue2 : (Try.prog.info? 29).map (·.size) = some 2 := by kernel_rfl
set_option maxHeartbeats 1600000 in
theorem next_K (w : World) (q : Nat) (lim : Int) (s : QS) (F : Nat → Prop) (h : QueueK w q lim s.1 s.2 F) (h0 : 0 < lim) :
    Calls Try.prog 14 #[(.pointer (some ⟨q, 0, none⟩))] w (Ret fun v w' => v = .tuple #[.agg #[ks (nextQ s).1.1, .int .i64 (nextQ s).1.2], .bool (nextQ s).2] ∧ Mods No w w') := by
  obtain ⟨d, n⟩ := s
  dsimp only at h ⊢
  obtain ⟨v, gm, hq⟩ := h
  have lq := hq.cells.lt
  have hsm := hq.small
  have hmade := fun w' (h : Cells w' q 61 #[.int .i64 lim, v, .map (some gm)]) => made_some w' q lim (h.at_ 0 rfl) true (decide_eq_true h0)
  have Hhmade := Lib.hid hmade
  clear hmade
  rcases Nat.eq_zero_or_pos n with hz | hz
  · subst hz
    obtain ⟨A, c, rfl, hnc, _⟩ := hq.own.form
    have c1 := hq.cells.at_ 1 rfl
    have Hhq := Lib.hid hq
    clear hq
    go_enter Try.func14, Try.ntmps14
    go_wp2_with (first | (go_at_call 25; (refine ret_use (Hhmade.out _ (Hhq.out.cells.alloc _)) ?_; rintro v w2 ⟨rfl, rfl⟩)) | ((with_reducible refine wp_region_por ?_ ?_ ?_ ?_); kernel_rfl; kernel_rfl; (with_reducible repeat (first | exact calm_ret | refine calm_then ?_ | refine calm_in ?_ | refine calm_chk ?_ | refine calm_noGoto ?_))) | ((with_reducible refine chk_end ?_ ?_); kernel_rfl))
    refine bodyPost_ret (results_pair rfl _ _ w.heap.size 29 _ (0, 0) _ rfl (Cells.new w _ _) Try.underlying29 rfl infoDue2) rfl ?_
    exact ⟨rfl, (Mods.refl No w).alloc _⟩
  · obtain ⟨g, c, rfl, hg, hnc, hx⟩ := hq.own.cells (by omega)
    have c1 := hq.cells.at_ 1 rfl
    have x0 : w.cell? ⟨g, 0, none⟩ = some (ks (d 0).1) := (hx 0 (by omega)).1.trans (ents_at d hz).1
    have x1 : w.cell? ⟨g, 1, none⟩ = some (.int .i64 (d 0).2) := (hx 1 (by omega)).1.trans (ents_at d hz).2
    obtain ⟨cur, hcur⟩ := hq.own.typed g rfl
    have lg := hcur.lt
    have hz' : ((n : Int) == 0) = false := by simp; omega
    have hp : 0 < (n : Int) := by omega
    clear hx hcur
    have Hhq := Lib.hid hq
    clear hq
    unfold ks at *
    go_enter Try.func14, Try.ntmps14
    go_wp2_with (first | (go_at_call 25; (refine ret_use (Hhmade.out _ (Hhq.out.cells.alloc _)) ?_; rintro v w2 ⟨rfl, rfl⟩)) | ((with_reducible refine wp_region_por ?_ ?_ ?_ ?_); kernel_rfl; kernel_rfl; (with_reducible repeat (first | exact calm_ret | refine calm_then ?_ | refine calm_in ?_ | refine calm_chk ?_ | refine calm_noGoto ?_))) | ((with_reducible refine chk_end ?_ ?_); kernel_rfl))
    refine bodyPost_ret (results_pair rfl _ _ w.heap.size 29 _ (0, 0) _ rfl (Cells.new w _ _) Try.underlying29 rfl infoDue2) rfl ?_
    have e : nextQ (d, n) = (d 0, true) := if_neg (by dsimp only; omega)
    rw [e]
    exact ⟨rfl, (Mods.refl No w).alloc _⟩
end Go.Proofs.Ytmfpgghpnkmkpaa
