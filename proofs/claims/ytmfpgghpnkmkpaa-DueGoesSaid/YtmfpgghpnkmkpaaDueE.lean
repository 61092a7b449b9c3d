/- The pile's Push and Pop. -/
import Derived.Test.YtmfpgghpnkmkpaaDueD
namespace Go.Proofs.Ytmfpgghpnkmkpaa
open Go.RowKit Go.Tum
set_option maxRecDepth 100000
theorem infoDue : (Try.prog.info? 29).map (fun i => (i.zero, i.size, i.bytes)) = some (some (.agg #[.string ⟨#[]⟩, .int .i64 0]), 2, 24) := by kernel_rfl
theorem assert_due (k : ByteArray) (t : Int) (w : World) : (Instr.typeAssert (.iface 29 (.agg #[.string k, .int .i64 t])) 20 29 false).run Try.prog w = .ok (.agg #[.string k, .int .i64 t]) w := by kernel_rfl
theorem ents_push (d : Nat → Ent) (n : Nat) (x : Ent) : ents d n ++ [ks x.1, .int .i64 x.2] = ents (fun k => if k = n then x else d k) (n + 1) := by
  refine ents_ext (by simp [ents_length]; omega) fun i hi => ?_
  have hl := ents_length d n
  by_cases e : i = n
  · subst e
    rw [List.getElem?_append_right (by omega), List.getElem?_append_right (by omega), hl]
    simp
  · rw [List.getElem?_append_left (by omega), List.getElem?_append_left (by omega), if_neg e]
    exact ents_at d (by omega)
theorem look_push {d : Nat → Ent} {n : Nat} {x : Ent} (hk : ∀ i, i < n → (d i).1 ≠ x.1) (key : List UInt8) : look (fun k => if k = n then x else d k) (n + 1) key = if key = x.1 then some (n : Int) else look d n key := by
  have hr : spot (fun k => if k = n then x else d k) (n + 1) key = (spot d n key).or (if key = x.1 then some n else none) := by
    unfold spot
    rw [List.range_succ, List.find?_append]
    congr 1
    · have : ∀ l : List Nat, (∀ i ∈ l, i < n) → l.find? (fun i => decide ((if i = n then x else d i).1 = key)) = l.find? fun i => decide ((d i).1 = key) := fun l => by
        induction l with
        | nil => intro _; rfl
        | cons a l ih =>
          intro h
          have ha := h a (by simp)
          simp only [List.find?_cons]
          rw [if_neg (by omega), ih fun i hi => h i (by simp [hi])]
      exact this _ fun i hi => by simpa using hi
    · by_cases e : key = x.1
      · subst e; simp
      · simp [e, Ne.symm e]
  unfold look
  rw [hr]
  by_cases e : key = x.1
  · rw [if_pos e, spot_no fun i hi e2 => hk i hi (e2.trans e), if_pos e]
    rfl
  · rw [if_neg e, if_neg e]
    simp
theorem Own.alloc' {w : World} {F : Nat → Prop} {e : TypeId} {size n : Nat} {v : Value} {xs : List Value} (h : Own w F e size v n xs) (o : Obj) : Own (w.alloc o) F e size v n xs := by
  have h2 := h.tight.same (w' := w.alloc o) fun k hk => Below.heap_alloc w o k (h.lt k hk)
  exact ⟨h2.1, h.2⟩
theorem push_end {w w1 wa w3 : World} {q gm n : Nat} {lim : Int} {v v3 : Value} {d : Nat → Ent} {f : MF} {F : Nat → Prop} {key : List UInt8} {t : Int} (h0 : QK w q lim v gm d n F) (hn : n < 65536) (hkey : ∀ i, i < n → (d i).1 ≠ key) (hl : key.length ≤ maxLen)
    (h : Mid w w1 q lim v gm d n (n + 1) f F) (hf : ∀ k, f k = if k = key then some (n : Int) else look d n k) (hA : Mods No w1 wa)
    (hown : Own w3 (fun k => v.ownBlock = some k ∨ k = wa.heap.size) 29 2 v3 (n + 1) (ents d n ++ [ks key, .int .i64 t])) (hM : Mods (fun k => v.ownBlock = some k) wa w3) :
    QueueK (w3.setCell ⟨q, 1, none⟩ v3) q lim (fun k => if k = n then (key, t) else d k) (n + 1) (Ext F w.heap.size) ∧ Mods F w (w3.setCell ⟨q, 1, none⟩ v3) := by
  have hMa : Mods F w wa := h.mods.trans hA fun _ _ e => e.elim
  have hM3 : Mods F w w3 := hMa.trans hM fun k _ e => h0.own.2 k e
  have hq := (h.cells.mods hA (fun e => e)).mods hM h0.nq.1
  have hm := (h.map.mods hA (fun e => e)).mods hM h0.nm
  have hne := hown.ne_cells hq (by decide)
  refine ⟨⟨v3, gm, hq.set_ 1 v3, ?_, (hm.far (Ne.symm (fun e => hm.ne_cells hq e.symm)) _).congr fun k => ?_, ?_, ?_, by omega, .inl h0.fq, .inl h0.fm⟩, hM3.setCell _ _ fun _ => h0.fq⟩
  · rw [← ents_push d n (key, t)]
    have h2 := hown.tight.same (w' := w3.setCell ⟨q, 1, none⟩ v3) fun k hk => Below.heap_setCell w3 _ _ k (by rintro rfl; exact hne hk)
    refine ⟨h2.1, fun g hg => ?_⟩
    rcases hown.2 g hg with e | e
    · exact .inl (h0.own.2 g e)
    · exact .inr (by have := hMa.size; omega)
  · rw [look_push hkey, hf]
  · intro i j hi hj e
    by_cases ei : i = n
    · by_cases ej : j = n
      · omega
      · rw [if_pos ei, if_neg ej] at e; exact absurd e.symm (hkey j (by omega))
    · by_cases ej : j = n
      · rw [if_neg ei, if_pos ej] at e; exact absurd e (hkey i (by omega))
      · rw [if_neg ei, if_neg ej] at e; exact h0.keys i j (by omega) (by omega) e
  · intro i hi
    by_cases ei : i = n
    · rw [if_pos ei]; exact hl
    · rw [if_neg ei]; exact h0.wf i (by omega)
theorem look_none {d : Nat → Ent} {n : Nat} {key : List UInt8} (h : ∀ i, i < n → (d i).1 ≠ key) : look d n key = none := by unfold look; rw [spot_no h]; rfl
theorem mid_same {w w' : World} {q gm n : Nat} {lim : Int} {v : Value} {d : Nat → Ent} {F : Nat → Prop} (h : QK w q lim v gm d n F) (hM : Mods No w w') : Mid w w' q lim v gm d n n (look d n) F := by
  refine ⟨h.cells.mods hM fun e => e, ?_, h.map.mods hM fun e => e, hM.mono fun _ _ e => e.elim⟩
  have h2 := h.own.tight.same (w' := w') fun k hk => hM.block k (h.own.lt k hk) fun e => e
  exact ⟨h2.1, h.own.2⟩
theorem two_one' (k : List UInt8) (t : Int) : ∀ u ∈ [ks k, .int .i64 t], u.oneCell' = true := by
  intro u hu
  rcases List.mem_cons.1 hu with rfl | hu
  · rfl
  · rcases List.mem_cons.1 hu with rfl | hu
    · rfl
    · cases hu
set_option maxHeartbeats 1600000 in
theorem pilePush_K (w : World) (q : Nat) (lim : Int) (d : Nat → Ent) (n : Nat) (F : Nat → Prop) (key : List UInt8) (t : Int) (h : QueueK w q lim d n F) (hn : n < 65536) (hkey : ∀ i, i < n → (d i).1 ≠ key) (hl : key.length ≤ maxLen) :
    Calls Try.prog 83 #[.pointer (some ⟨q, 1, none⟩), .iface 29 (.agg #[ks key, .int .i64 t])] w (Ret fun _ w' => QueueK w' q lim (fun k => if k = n then (key, t) else d k) (n + 1) (Ext F w.heap.size) ∧ Mods F w w') := by
  obtain ⟨v, gm, h⟩ := h
  obtain ⟨A, c, rfl, hnc, _⟩ := h.own.form
  have c1 := h.cells.at_ 1 rfl
  have c2 := h.cells.at_ 2 rfl
  have lq := h.cells.lt
  have nq : q ≠ w.heap.size := Nat.ne_of_lt lq
  have ha := assert_due
  have Hh := Lib.hid h
  clear h
  have Hhkey := Lib.hid hkey
  clear hkey
  unfold ks
  have HX := Lib.hid (mid_same Hh.out ((Mods.refl No w).alloc (.cells #[ks key, .int .i64 t] 29))).drew
  have HN := Lib.hid (look_none Hhkey.out)
  go_enter Try.func83, Try.ntmps83
  go_wp2_with (first | (at_mapUpdate; ((refine wpList_smap_put _ rfl _ _ _ rfl Try.underlying9 Try.underlying57 Try.underlying3 rfl key rfl (n : Int) rfl HX.out.map hl (by unfold maxLen; omega) (wf_small n (by omega)) ?_); intro w1 hm1 hM1; have HY := Lib.hid (mid_put HX.out Hh.out.fm (by rw [HN.out]) hm1 hM1); have HB := Lib.hid ((Cells.new w 29 #[ks key, .int .i64 t]).drew.mods hM1 (fun e => (Nat.lt_irrefl _) (e ▸ Hh.out.map.lt))); have k1 := HY.out.cells.at_ 1 rfl; have k2 := HB.out.at_ 0 rfl; have k3 := HB.out.at_ 1 rfl; (unfold ks at k2); have l1 := HY.out.cells.lt; have l2 := HB.out.lt; have HO := Lib.hid (fun o => Own.alloc' HY.out.own o); clear hm1 hM1)) | ((with_reducible refine wp_region_one 2 (fun g => g = q) [4] 6 ?_ ?_ ?_ ?_ ?_); kernel_rfl; kernel_rfl; kernel_rfl; (with_reducible repeat (first | exact calm_ret | refine calm_then ?_ | refine calm_in ?_ | refine calm_chk ?_ | refine calm_noGoto ?_)); simp only [List.drop_succ_cons, List.drop_zero, List.take_succ_cons, List.take_zero]) | (with_reducible refine segEnd ?_) | (refine And.intro (Keep.one ((Mods.refl No _).alloc _) HY.out.cells (fun e => e)) ?_) | ((with_reducible refine chkM_end (fun g => g = q) ?_ [.pointer (some ⟨q, 1, none⟩)] ?_ ?_ ?_); kernel_rfl; kernel_rfl; (intro v hv x hx; simp only [List.mem_cons, List.not_mem_nil, or_false] at hv; subst hv; (injection hx with hx; injection hx with hx; subst hx; simp))) | (at_builtin; ((refine wpList_append _ rfl (.tmp 22) (.tmp 24) 22 rfl 29 (.agg #[.string ⟨#[]⟩, .int .i64 0]) 2 24 Try.underlying22 infoDue rfl (by decide) (F := F) (n := n) (xs := ents d n) (by rfl) (HO.out _) (G := fun g => g = w1.heap.size) (y := .slice (some ⟨w1.heap.size, 0, none⟩) 1 1) (m := 1) (news := [ks key, .int .i64 t]) (by rfl) (Rd.box _ #[ks key, .int .i64 t] _ rfl rfl (by decide)) (two_one' key t) (by omega) (by decide) ?_); intro v3 w3 hown3 hM3 _; have hq := (HY.out.cells.alloc _).drew.mods hM3 Hh.out.nq.1; have k4 := hq.at_ 1 rfl; have k5 := hq.frozen 1; have HE := Lib.hid (push_end Hh.out hn Hhkey.out hl HY.out (fun _ => rfl) ((Mods.refl No w1).alloc _).drew hown3 hM3); obtain ⟨A3, c3, rfl, _, _⟩ := hown3.form; clear hq hown3 hM3)) | ((with_reducible refine wp_region_por ?_ ?_ ?_ ?_); kernel_rfl; kernel_rfl; (with_reducible repeat (first | exact calm_ret | refine calm_then ?_ | refine calm_in ?_ | refine calm_chk ?_ | refine calm_noGoto ?_))) | ((with_reducible refine chk_end ?_ ?_); kernel_rfl))
  go_end0
  exact HE.out
theorem ents_take (d : Nat → Ent) {n m : Nat} (h : m ≤ n) : (ents d n).take (m * 2) = ents d m :=
  ents_ext (by rw [List.length_take, ents_length]; omega) fun i hi => by
    rw [List.getElem?_take_of_lt (by omega), List.getElem?_take_of_lt (by omega)]
    exact ents_at d (by omega)
theorem look_succ {d : Nat → Ent} {n : Nat} (hk : ∀ i, i < n → (d i).1 ≠ (d n).1) (key : List UInt8) : look d (n + 1) key = if key = (d n).1 then some (n : Int) else look d n key := by
  have h := look_push (d := d) (n := n) (x := d n) hk key
  have e : (fun k => if k = n then d n else d k) = d := funext fun k => by split; rename_i e; rw [e]; rfl
  rw [e] at h
  exact h
theorem Cells.boxed (w : World) (p : Addr) (u : Value) (cs : Array Value) (t : TypeId) : Cells ((w.setCell p u).alloc (.cells cs t)) w.heap.size t cs := by
  have h := Cells.new (w.setCell p u) t cs
  have e : (w.setCell p u).heap.size = w.heap.size := by simp [World.setCell]
  rw [e] at h
  exact h
theorem pop_end {w wb w3 : World} {q gm n : Nat} {lim : Int} {A : Option Addr} {c : Nat} {d : Nat → Ent} {F : Nat → Prop} (h0 : QK w q lim (.slice A (n + 1) c) gm d (n + 1) F) (hb : Mods No (w.setCell ⟨q, 1, none⟩ (.slice A n c)) wb)
    {f : MF} {m : Nat} (hm : m = n) (hf : ∀ key, f key = if key = (d n).1 then none else look d (n + 1) key) (hmap : SMap Try.prog 9 3 w3 gm m f) (hM : Mods (fun k => k = gm) wb w3) : QueueK w3 q lim d n F ∧ Mods F w w3 := by
  subst hm
  have hq := (h0.cells.set_ 1 (.slice A m c)).mods hb fun e => e
  have ho := ((h0.own.far (p := ⟨q, 1, none⟩) h0.nq.1 (.slice A m c)).mods hb fun _ _ e => e).take (m := m) (by omega)
  rw [ents_take d (by omega)] at ho
  have hne : ∀ i, i < m → (d i).1 ≠ (d m).1 := fun i hi e => by have := h0.keys i m (by omega) (by omega) e; omega
  refine ⟨⟨.slice A m c, gm, hq.mods hM (Ne.symm h0.nq.2), ho.mods hM fun g hg e => ?_, hmap.congr fun key => ?_, fun i j hi hj => h0.keys i j (by omega) (by omega), fun i hi => h0.wf i (by omega), by have := h0.small; omega, h0.fq, h0.fm⟩,
    (((Mods.refl F w).setCell _ _ fun _ => h0.fq).trans hb fun _ _ e => e.elim).trans hM fun k _ e => e ▸ h0.fm⟩
  · subst e
    exact h0.nm (by cases A <;> exact hg)
  · rw [hf, look_succ hne]
    by_cases e : key = (d m).1
    · rw [if_pos e, e]; unfold look; rw [spot_no hne]; rfl
    · rw [if_neg e, if_neg e]
set_option maxHeartbeats 1600000 in
theorem pilePop_K (w : World) (q : Nat) (lim : Int) (d : Nat → Ent) (n : Nat) (F : Nat → Prop) (h : QueueK w q lim d (n + 1) F) :
    Calls Try.prog 82 #[.pointer (some ⟨q, 1, none⟩)] w (Ret fun v w' => v = .iface 29 (.agg #[ks (d n).1, .int .i64 (d n).2]) ∧ QueueK w' q lim d n F ∧ Mods F w w') := by
  obtain ⟨v, gm, h⟩ := h
  obtain ⟨g, c, rfl, hg, hnc, hx⟩ := h.own.cells (by omega)
  have x0 := (hx (n * 2) (by omega)).1
  have x1 := (hx (n * 2 + 1) (by omega)).1
  rw [(ents_at d (by omega)).1] at x0
  rw [(ents_at d (by omega)).2] at x1
  obtain ⟨cur, hcur⟩ := h.own.typed g rfl
  have lg := hcur.lt
  have c1 := h.cells.at_ 1 rfl
  have c2 := h.cells.at_ 2 rfl
  have f1 := h.cells.frozen 1
  have lq := h.cells.lt
  have nq : q ≠ w.heap.size := Nat.ne_of_lt lq
  have hs := h.small
  have ng := h.nq.1
  have HK := Lib.hid (look_some h.keys (Nat.lt_succ_self n))
  have HL := Lib.hid (h.wf n (Nat.lt_succ_self n))
  clear hx ng
  have e1 : (n : Int) + 1 - 1 = n := by omega
  have He := Lib.hid e1
  clear e1
  have Hh := Lib.hid h
  clear h
  have Hhcur := Lib.hid hcur
  clear hcur
  unfold ks at *
  go_enter Try.func82, Try.ntmps82
  go_wp2_with (first | ((with_reducible refine wp_region_one 1 (fun b => b = q ∨ b = g) [3, 7, 11] 12 ?_ ?_ ?_ ?_ ?_); kernel_rfl; kernel_rfl; kernel_rfl; (with_reducible repeat (first | exact calm_ret | refine calm_then ?_ | refine calm_in ?_ | refine calm_chk ?_ | refine calm_noGoto ?_)); simp only [List.drop_succ_cons, List.drop_zero, List.take_succ_cons, List.take_zero]) | (with_reducible refine segEnd ?_) | (refine And.intro (Keep.two ((Mods.refl No _).alloc _) Hh.out.cells (fun e => e) Hhcur.out (fun e => e)) ?_) | ((with_reducible refine chkM_end (fun b => b = q ∨ b = g) ?_ [.pointer (some ⟨q, 1, none⟩), .pointer (some ⟨q, 1, none⟩), .pointer (some ⟨g, n * 2, none⟩)] ?_ ?_ ?_); kernel_rfl; kernel_rfl; (intro v hv x hx; simp only [List.mem_cons, List.not_mem_nil, or_false] at hv; rcases hv with rfl | rfl | rfl <;> (injection hx with hx; injection hx with hx; subst hx; simp))) | (at_delete; ((refine wpList_smap_del _ rfl _ _ rfl Try.underlying9 Try.underlying57 rfl (d n).1 rfl ((Hh.out.map.far Hh.out.nq.2 _).alloc _) HL.out ?_); intro w3 hm3 hM3; have HE := Lib.hid (pop_end Hh.out ((Mods.refl No _).alloc _).drew.drew.drew (if_pos HK.out) (fun _ => rfl) hm3 hM3); have hB := (Cells.boxed w ⟨q, 1, none⟩ (.slice (some ⟨g, 0, none⟩) n c) #[ks (d n).1, .int .i64 (d n).2] 29).drew.drew.drew.mods hM3 (fun e => (Nat.lt_irrefl _) (e ▸ Hh.out.map.lt)); have k2 := hB.at_ 0 rfl; have k3 := hB.at_ 1 rfl; (unfold ks at k2); clear hm3 hM3 hB)) | ((with_reducible refine wp_region_por ?_ ?_ ?_ ?_); kernel_rfl; kernel_rfl; (with_reducible repeat (first | exact calm_ret | refine calm_then ?_ | refine calm_in ?_ | refine calm_chk ?_ | refine calm_noGoto ?_))) | ((with_reducible refine chk_end ?_ ?_); kernel_rfl))
  go_ret
  exact ⟨rfl, HE.out⟩
end Go.Proofs.Ytmfpgghpnkmkpaa
