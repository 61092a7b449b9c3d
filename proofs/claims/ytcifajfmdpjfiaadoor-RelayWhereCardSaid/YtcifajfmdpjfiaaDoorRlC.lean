/- Package relay: deal, station. -/
import Derived.Test.YtcifajfmdpjfiaaDoorRlB
namespace Go.Proofs.YtcifajfmdpjfiaaDoor
open Go.RowKit Go.Tum Go.Lib Go.Sort
set_option maxRecDepth 100000
/-- A station dealt to. -/
def Dealt (w w' : World) (F : Nat → Prop) (p : Nat) (s' : Stn) : Prop := StK w' (fun b => F b ∨ w.heap.size ≤ b) p s' ∧ Mods (fun g => g = p ∨ F g) w w'
theorem Dealt.put {w w0 w2 : World} {F : Nat → Prop} {p : Nat} {s : Stn} {x : Rcd} {hv hv2 : Value} {n : Nat} {L : List Rcd} (hm0 : Mods (fun g => g = p ∨ F g) w w0) (hF : ∀ g, hv.ownBlock = some g → F g ∨ w.heap.size ≤ g) (hc : Cells w2 p 83 #[hv2, .int .i64 (s.sent : Int), .int .i64 (s.dropped : Int)])
    (ho : Own w2 (fun g => hv.ownBlock = some g ∨ w0.heap.size ≤ g) 45 4 hv2 (n + 1) (rcs L ++ rc x)) (hn : n = L.length) (hL : s.L = L ++ [x]) (hm : Mods (fun g => g = p ∨ hv.ownBlock = some g) w0 w2) : Dealt w w2 F p s := by
  subst hn
  have hs0 := hm0.size
  refine ⟨⟨hv2, hc, ?_⟩, hm0.trans hm fun k hk e => ?_⟩
  · rw [hL, rcs_snoc, List.length_append]
    refine ho.more fun g hg => ?_
    rcases hg with e | e
    · exact hF g e
    · exact .inr (Nat.le_trans hs0 e)
  · rcases e with e | e
    · exact .inl e
    · rcases hF k e with e1 | e1
      · exact .inr e1
      · omega
set_option maxHeartbeats 6400000 in
theorem deal_K (w : World) (F : Nat → Prop) (rb p H : Nat) (nw : Bool) (cs : Array Value) (s : Stn) (x : Rcd) (hc : Cells w rb 74 cs) (c3 : cs[3]? = some (.int .i64 (H : Int))) (c4 : cs[4]? = some (.bool nw)) (h : StK w F p s) (h1 : 1 ≤ H) (hH : H ≤ 65536) (hl : s.L.length ≤ H) (hd : s.dropped ≤ 4611686018427387904) :
    Calls Tryd.prog 32 #[(.pointer (some ⟨rb, 0, none⟩)), (.pointer (some ⟨p, 0, none⟩)), rv x] w (Ret fun _ w' => Dealt w w' F p (deal H nw x s)) := by
  obtain ⟨hv, hk, ho⟩ := h
  have hbx := Cells.new w 45 #[.string ⟨x.1.toArray⟩, .int .i64 x.2.1, .int .u64 x.2.2.1, .int .i64 x.2.2.2]
  have hM0 : Mods No w (w.alloc (.cells #[.string ⟨x.1.toArray⟩, .int .i64 x.2.1, .int .u64 x.2.2.1, .int .i64 x.2.2.2] 45)) := (Mods.refl No w).alloc _
  have b0 := hbx.at_ 0 rfl
  have b1 := hbx.at_ 1 rfl
  have b2 := hbx.at_ 2 rfl
  have b3 := hbx.at_ 3 rfl
  have k0 := hk.at_ 0 rfl
  have k2 := hk.at_ 2 rfl
  have kf := hk.frozen 2
  have kl := hk.lt
  have r3 := hc.at_ 3 c3
  have r4 := hc.at_ 4 c4
  have rl := hc.lt
  have hne : rb ≠ p := hc.ne_ hk (by decide)
  have hvp := ho.ne_cells hk (by decide)
  obtain ⟨A, c, rfl, _, _⟩ := ho.form
  have HBX := Lib.hid hbx
  clear hbx
  rcases Nat.lt_or_ge s.L.length H with hlt | hge
  · have He := Lib.hid (show deal H nw x s = ⟨s.L ++ [x], s.sent, s.dropped⟩ from if_pos hlt)
    have hput := fun w' (hm : Mods No w w') => qput_K w' F p s.L.length _ _ _ (rcs s.L) x (hk.mods hm fun e => e) (ho.mods hm fun _ _ e => e) (by omega)
    have hlt' : decide (s.L.length < H) = true := decide_eq_true hlt
    unfold rv ks at *
    have Hhput := Lib.hid hput
    clear hput
    have Hhk := Lib.hid hk
    clear hk
    have Hho := Lib.hid ho
    clear ho
    have Hhc := Lib.hid hc
    clear hc
    have HhM0 := Lib.hid hM0
    clear hM0
    clear hlt hl hH hd
    go_enter Tryd.func32, Tryd.ntmps32
    go_wp2_with (first | (go_at_call 48; (refine ret_use (Hhput.out _ HhM0.out.drew.drew) ?_; rintro v w2 ⟨hv2, hc2, ho2, hm2⟩; have HC2 := Lib.hid hc2; have HO2 := Lib.hid ho2; have HM2 := Lib.hid hm2; clear hc2 ho2 hm2)) | ((with_reducible refine wp_region_por ?_ ?_ ?_ ?_); kernel_rfl; kernel_rfl; (with_reducible repeat (first | exact calm_ret | refine calm_then ?_ | refine calm_in ?_ | refine calm_chk ?_ | refine calm_noGoto ?_))) | ((with_reducible refine chk_end ?_ ?_); kernel_rfl))
    first | (refine bodyPost_ret (results_none rfl _ _ _) rfl ?_) | go_end0
    rw [He.out]
    exact Dealt.put (s := ⟨s.L ++ [x], s.sent, s.dropped⟩) (HhM0.out.drew.drew.mono fun _ _ e => e.elim) (fun g e => .inl (Hho.out.2 g e)) HC2.out HO2.out rfl rfl HM2.out
  · have hlt' : decide (s.L.length < H) = false := decide_eq_false (by omega)
    cases nw with
    | true =>
      have He := Lib.hid (show deal H true x s = ⟨s.L, s.sent, s.dropped + 1⟩ by unfold deal; rw [if_neg (by omega), if_pos rfl])
      unfold rv ks at *
      have Hhk := Lib.hid hk
      clear hk
      have Hho := Lib.hid ho
      clear ho
      have Hhc := Lib.hid hc
      clear hc
      have HhM0 := Lib.hid hM0
      clear hM0
      go_enter Tryd.func32, Tryd.ntmps32
      go_wp2_with (first | ((with_reducible refine wp_region_por ?_ ?_ ?_ ?_); kernel_rfl; kernel_rfl; (with_reducible repeat (first | exact calm_ret | refine calm_then ?_ | refine calm_in ?_ | refine calm_chk ?_ | refine calm_noGoto ?_))) | ((with_reducible refine chk_end ?_ ?_); kernel_rfl))
      first | (refine bodyPost_ret (results_none rfl _ _ _) rfl ?_) | go_end0
      rw [He.out]
      exact ⟨⟨_, (Hhk.out.set_ 2 (.int .i64 ((s.dropped : Int) + 1))).alloc _, (Tum.Own.mods (Hho.out.far (p := ⟨p, 2, none⟩) hvp (.int .i64 ((s.dropped : Int) + 1))) ((Mods.refl No _).alloc _) fun _ _ e => e).more fun g e => Or.inl e⟩, (((Mods.refl (fun g => g = p ∨ F g) w).setCell ⟨p, 2, none⟩ (.int .i64 ((s.dropped : Int) + 1)) fun _ => Or.inl rfl).alloc _).drew⟩
    | false =>
      have He := Lib.hid (show deal H false x s = ⟨s.L.drop 1 ++ [x], s.sent, s.dropped + 1⟩ by unfold deal; rw [if_neg (by omega), if_neg (by decide)])
      obtain ⟨ws, hws⟩ : ∃ ws, ws = w.setCell ⟨p, 2, none⟩ (.int .i64 ((s.dropped : Int) + 1)) := ⟨_, rfl⟩
      have hzs : ws.heap.size = w.heap.size := by rw [hws]; simp [World.setCell]
      have hks : Cells ws p 83 #[.slice A s.L.length c, .int .i64 (s.sent : Int), .int .i64 ((s.dropped : Int) + 1)] := by rw [hws]; exact hk.set_ 2 _
      have hos : Own ws F 45 4 (.slice A s.L.length c) s.L.length (rcs s.L) := by rw [hws]; exact ho.far (p := ⟨p, 2, none⟩) hvp _
      have hms : Mods (fun g => g = p ∨ F g) w ws := by rw [hws]; exact (Mods.refl _ w).setCell _ _ fun _ => Or.inl rfl
      have hbs : Cells (ws.alloc (.cells #[.string ⟨x.1.toArray⟩, .int .i64 x.2.1, .int .u64 x.2.2.1, .int .i64 x.2.2.2] 45)) w.heap.size 45 #[.string ⟨x.1.toArray⟩, .int .i64 x.2.1, .int .u64 x.2.2.1, .int .i64 x.2.2.2] := by rw [← hzs]; exact Cells.new ws _ _
      have htk := fun w' (hm : Mods No ws w') => qtake_K w' F p 1 _ _ _ s.L 1 (hks.mods hm fun e => e) (Tum.Own.mods hos hm fun _ _ e => e) (by omega) (by decide) (.inl ⟨rfl, by omega⟩)
      have hma : Mods No ws (ws.alloc (.cells #[.string ⟨x.1.toArray⟩, .int .i64 x.2.1, .int .u64 x.2.2.1, .int .i64 x.2.2.2] 45)) := (Mods.refl No ws).alloc _
      rw [hws] at htk hma hbs
      have Hws := Lib.hid hws
      have Hms := Lib.hid hms
      have HBS := Lib.hid hbs
      clear hws hks hos hms hbs
      have hput := fun w' hv2 mid (h1 : Cells w' p 83 #[hv2, .int .i64 (s.sent : Int), .int .i64 ((s.dropped : Int) + 1)]) (h2 : Own w' (fun g => mid ≤ g) 45 4 hv2 (s.L.length - 1) (rcs (s.L.drop 1))) => qput_K w'.drew (fun g => mid ≤ g) p _ _ _ _ _ x h1.drew (Tum.Own.mods h2 (Mods.refl No w').drew fun _ _ e => e) (by omega)
      unfold rv ks at *
      have Hhk := Lib.hid hk
      clear hk
      have Hho := Lib.hid ho
      clear ho
      have Hhc := Lib.hid hc
      clear hc
      have HhM0 := Lib.hid hM0
      clear hM0
      have Hhtk := Lib.hid htk
      clear htk
      have Hhma := Lib.hid hma
      clear hma
      have Hhput := Lib.hid hput
      clear hput
      go_enter Tryd.func32, Tryd.ntmps32
      go_wp2_with (first | (go_at_call 34; (refine ret_use (Hhtk.out _ Hhma.out.drew) ?_; rintro v w2 ⟨hv2, mid, hmid, _, ho2, hc2, hm2⟩; have HC2 := Lib.hid hc2; have HO2 := Lib.hid ho2; have HM2 := Lib.hid hm2; have HMd := Lib.hid hmid; have hb2 := HBS.out.drew.mods hm2 (fun e => Nat.ne_of_gt kl e); have d0 := hb2.at_ 0 rfl; have d1 := hb2.at_ 1 rfl; have d2 := hb2.at_ 2 rfl; have d3 := hb2.at_ 3 rfl; have dl := hb2.lt; clear ho2 hc2 hm2 hmid hb2)) | (go_at_call 48; (refine ret_use (Hhput.out w2 _ mid HC2.out HO2.out) ?_; rintro v w3 ⟨hv3, hc3, ho3, hm3⟩; have HC3 := Lib.hid hc3; have HO3 := Lib.hid ho3; have HM3 := Lib.hid hm3; clear hc3 ho3 hm3)) | ((with_reducible refine wp_region_por ?_ ?_ ?_ ?_); kernel_rfl; kernel_rfl; (with_reducible repeat (first | exact calm_ret | refine calm_then ?_ | refine calm_in ?_ | refine calm_chk ?_ | refine calm_noGoto ?_))) | ((with_reducible refine chk_end ?_ ?_); kernel_rfl))
      first | (refine bodyPost_ret (results_none rfl _ _ _) rfl ?_) | go_end0
      rw [He.out]
      have hms := Hms.out
      rw [Hws.out] at hms
      have hm1 := (hms.alloc (.cells #[.string ⟨x.1.toArray⟩, .int .i64 x.2.1, .int .u64 x.2.2.1, .int .i64 x.2.2.2] 45)).drew
      exact Dealt.put (s := ⟨s.L.drop 1 ++ [x], s.sent, s.dropped + 1⟩) (hm1.trans HM2.out fun _ _ e => Or.inl e).drew (fun g e => .inr (Nat.le_trans hm1.size (Nat.le_trans HMd.out (HO2.out.2 g e)))) HC3.out HO3.out (by rw [List.length_drop]) rfl HM3.out
theorem _root_.Go.Tum.Rd.ptr {w : World} {F : Nat → Prop} {A : Option Addr} {c n : Nat} {l : List Nat} (h : Rd w F 1 (.slice A n c) n (l.map ptr)) (hn : l.length = n) {i x : Nat} (hx : l[i]? = some x) :
    ∃ b off, A = some ⟨b, off, none⟩ ∧ F b ∧ w.cell? ⟨b, off + i, none⟩ = some ((.pointer (some ⟨x, 0, none⟩))) := by
  subst hn
  obtain ⟨hi, _⟩ := List.getElem?_eq_some_iff.1 hx
  obtain ⟨b, off, c', e, hF, hc⟩ := h.cells (by omega)
  injection e with e
  refine ⟨b, off, e, hF, ?_⟩
  rw [hc _ (by omega), List.getElem?_map, hx]; rfl
set_option maxHeartbeats 1600000 in
theorem station_some {w : World} {rb g mb C R H : Nat} {nw : Bool} {N : List Tx} {S : List Stn} {dn : List Tx} {col : Nat → Nat} {ps : List Nat} {nv sv : Value} (h : RlP w rb g mb C R H nw N S dn col ps nv sv) {i p : Nat} {s : Tx} (hi : N[i]? = some s) (hp : ps[i]? = some p) :
    Calls Tryd.prog 33 #[(.pointer (some ⟨rb, 0, none⟩)), ks s] w (Ret fun v w' => v = (.pointer (some ⟨p, 0, none⟩)) ∧ w = w') := by
  obtain ⟨A, cp, rfl, _, _⟩ := h.names.form
  obtain ⟨B, cb, rfl, _, _⟩ := h.sta.form
  have hbs := bsearch_K w _ _ N s h.names.rd (by have := h.ring.1.small; omega) h.ring.1.strict
  have c6 := h.cells.at_ 6 rfl
  have c7 := h.cells.at_ 7 rfl
  have hm : s ∈ N := List.mem_of_getElem? hi
  rw [decide_eq_true hm, pos_at h.ring.1.strict hi] at hbs
  have hiN : i < N.length := (List.getElem?_eq_some_iff.1 hi).1
  obtain ⟨b, off, rfl, _, x0⟩ := h.sta.rd.ptr h.len hp
  clear hm hi hp
  have Hh := Lib.hid h
  clear h
  have Hhbs := Lib.hid hbs
  clear hbs
  unfold ks at Hhbs ⊢
  go_enter Tryd.func33, Tryd.ntmps33
  go_wp2_with (first | (go_at_call 49; (refine ret_use (Hhbs.out) ?_; rintro v w2 ⟨rfl, rfl⟩)) | ((with_reducible refine wp_region_por ?_ ?_ ?_ ?_); kernel_rfl; kernel_rfl; (with_reducible repeat (first | exact calm_ret | refine calm_then ?_ | refine calm_in ?_ | refine calm_chk ?_ | refine calm_noGoto ?_))) | ((with_reducible refine chk_end ?_ ?_); kernel_rfl))
  go_ret
  exact ⟨rfl, rfl⟩
set_option maxHeartbeats 1600000 in
theorem station_none {w : World} {rb g mb C R H : Nat} {nw : Bool} {N : List Tx} {S : List Stn} {dn : List Tx} {col : Nat → Nat} {ps : List Nat} {nv sv : Value} (h : RlP w rb g mb C R H nw N S dn col ps nv sv) {s : Tx} (hm : s ∉ N) :
    Calls Tryd.prog 33 #[(.pointer (some ⟨rb, 0, none⟩)), ks s] w (Ret fun v w' => v = .pointer none ∧ w = w') := by
  obtain ⟨A, cp, rfl, _, _⟩ := h.names.form
  obtain ⟨B, cb, rfl, _, _⟩ := h.sta.form
  have hbs := bsearch_K w _ _ N s h.names.rd (by have := h.ring.1.small; omega) h.ring.1.strict
  have c6 := h.cells.at_ 6 rfl
  have c7 := h.cells.at_ 7 rfl
  rw [decide_eq_false hm] at hbs
  clear hm
  have Hh := Lib.hid h
  clear h
  have Hhbs := Lib.hid hbs
  clear hbs
  unfold ks at Hhbs ⊢
  go_enter Tryd.func33, Tryd.ntmps33
  go_wp2_with (first | (go_at_call 49; (refine ret_use (Hhbs.out) ?_; rintro v w2 ⟨rfl, rfl⟩)) | ((with_reducible refine wp_region_por ?_ ?_ ?_ ?_); kernel_rfl; kernel_rfl; (with_reducible repeat (first | exact calm_ret | refine calm_then ?_ | refine calm_in ?_ | refine calm_chk ?_ | refine calm_noGoto ?_))) | ((with_reducible refine chk_end ?_ ?_); kernel_rfl))
  go_ret
  exact ⟨rfl, rfl⟩
end Go.Proofs.YtcifajfmdpjfiaaDoor
