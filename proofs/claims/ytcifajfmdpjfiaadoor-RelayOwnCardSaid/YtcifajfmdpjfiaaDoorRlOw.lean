/- The law RelayOwn, walked. -/
import Derived.Test.YtcifajfmdpjfiaaDoorRrI
import Derived.Test.YtcifajfmdpjfiaaDoorRrJ
namespace Go.Proofs.YtcifajfmdpjfiaaDoor
open Go.RowKit Go.Tum Go.Lib Go.Sort
set_option maxRecDepth 100000
theorem _root_.Go.Tum.Rd.tx_at2 {w : World} {F : Nat → Prop} {b off c n : Nat} {l : List Tx} (h : Rd w F 1 (.slice (some ⟨b, off, none⟩) n c) n (l.map ks)) (hn : l.length = n) {i : Nat} {x : Tx} (hx : l[i]? = some x) : w.cell? ⟨b, off + i, none⟩ = some (.string ⟨x.toArray⟩) := by
  obtain ⟨_, _, e, _, h1⟩ := h.tx hn hx
  injection e with e
  injection e with e1 e2
  subst e1 e2
  exact h1
theorem _root_.Go.Tum.Rd.rcd_at {w : World} {F : Nat → Prop} {b off c n : Nat} {l : List Rcd} (h : Rd w F 4 (.slice (some ⟨b, off, none⟩) n c) n (rcs l)) (hn : l.length = n) {i : Nat} {x : Rcd} (hx : l[i]? = some x) :
    w.cell? ⟨b, off + i * 4, none⟩ = some (.string ⟨x.1.toArray⟩) ∧ w.cell? ⟨b, off + i * 4 + 1, none⟩ = some (.int .i64 x.2.1) ∧ w.cell? ⟨b, off + i * 4 + 2, none⟩ = some (.int .u64 x.2.2.1) ∧ w.cell? ⟨b, off + i * 4 + 3, none⟩ = some (.int .i64 x.2.2.2) := by
  obtain ⟨_, _, e, _, h1⟩ := h.rcd hn hx
  injection e with e
  injection e with e1 e2
  subst e1 e2
  exact h1
section
variable {W0 W w w' : World} {rb x C R H : Nat} {nw : Bool} {N : List Tx} {S S1 S2 : List Stn} {dn dn2 : List Tx} {F G : Nat → Prop}
theorem Two.base (h : Two W w rb x C R H nw N S dn S2 dn2 F G) (hm : Mods No W0 W) : Two W0 w rb x C R H nw N S dn S2 dn2 F G :=
  ⟨h.rel, h.ref, h.dis, h.fu, h.gu, fun b e => Nat.le_trans hm.size (h.fl b e), fun b e => Nat.le_trans hm.size (h.gl b e), hm.trans h.hm fun _ _ e => e⟩
theorem Two.mods {T : Nat → Prop} (h : Two W w rb x C R H nw N S dn S2 dn2 F G) (hm : Mods T w w') (h1 : ∀ b, T b → W.heap.size ≤ b ∧ ¬ F b ∧ ¬ G b) : Two W w' rb x C R H nw N S dn S2 dn2 F G :=
  ⟨h.rel.mods hm fun b _ hf ht => (h1 b ht).2.1 hf, h.ref.mods hm fun b _ hg ht => (h1 b ht).2.2 hg, h.dis, fun b e => Nat.lt_of_lt_of_le (h.fu b e) hm.size, fun b e => Nat.lt_of_lt_of_le (h.gu b e) hm.size, h.fl, h.gl, h.hm.trans hm fun b hb e => absurd hb (Nat.not_lt.2 (h1 b e).1)⟩
theorem Two.stb (h : Two W w rb x C R H nw N S dn S2 dn2 F G) (hB : tot S ≤ 2305843009213693952) : StB 2305843009213693952 H S := fun t ht => by
  have h2 := tot_mem ht
  unfold sz at h2
  exact ⟨by omega, h.rel.1.held t ht⟩
theorem Two.sent (hB : tot S ≤ 2305843009213693952) : ∀ t ∈ S, t.sent ≤ 2305843009213693952 := fun t ht => by
  have h2 := tot_mem ht
  unfold sz at h2
  omega
theorem put_tot (h : Two W w rb x C R H nw N S dn S2 dn2 F G) (r : Rcd) : tot (dealAll H nw N r (wants dn R (allV (placesOf C N) (fnv64 r.1))) S) ≤ tot S + 8 := by
  have hI := h.rel.1
  have hc1 : 1 ≤ C := by obtain ⟨_, _, _, _, _, _, _, _, hp, _⟩ := h.rel; exact hp.ring.1.c1
  have hpm : (allV (placesOf C N) (fnv64 r.1)).Perm N := allV_perm hc1 (h.rel.strict.nodup sto_T) _
  have hw := wants_le dn R (allV (placesOf C N) (fnv64 r.1))
  rw [tot_deal hI.h1 nw h.rel.strict _ _ S hI.len fun t ht => hpm.mem_iff.1 (wants_mem ht).1]
  have := hI.r2
  omega
theorem two_putL (h : Two W w rb x C R H nw N S dn S2 dn2 F G) (r : Rcd) (hx : r.1.length ≤ maxLen) (hB : tot S ≤ 2305843009213693952) :
    Calls Tryd.prog 13 #[(.pointer (some ⟨rb, 0, none⟩)), rv r] w (Ret fun v w' => (∃ q : Int, v = .int .i64 q) ∧ ∃ F', Two W w' rb x C R H nw N (dealAll H nw N r (wants dn R (allV (placesOf C N) (fnv64 r.1))) S) dn S2 dn2 F' G) :=
  ret_use (relput_K w rb C R H nw N S dn F r h.rel hx (h.stb hB)) fun _ _ ⟨e1, e2, e3⟩ => ⟨⟨_, e1⟩, _, h.left e2 e3⟩
theorem two_putR (h : Two W w rb x C R H nw N S2 dn2 S dn F G) (r : Rcd) (hx : r.1.length ≤ maxLen) (hS : StB 2305843009213693952 H S) :
    Calls Tryd.prog 17 #[(.pointer (some ⟨x, 0, none⟩)), rv r] w (Ret fun v w' => (∃ q : Int, v = .int .i64 q) ∧ ∃ G', Two W w' rb x C R H nw N S2 dn2 (dealAll H nw N r (wants dn R (allV (placesOf C N) (fnv64 r.1))) S) dn F G') :=
  ret_use (rrput_K w x C R H nw N S dn G r h.ref hx hS) fun _ _ ⟨e1, e2, e3⟩ => ⟨⟨_, e1⟩, _, h.right e2 e3⟩
end
theorem Two.left2 {W w w' : World} {rb x C R H : Nat} {nw : Bool} {N : List Tx} {S S' S2 : List Stn} {dn dn' dn2 : List Tx} {F F1 G : Nat → Prop} (h : Two W w rb x C R H nw N S dn S2 dn2 F G) (hr : RelK w' rb C R H nw N S' dn' F1) (hF : ∀ b, F1 b → F b ∨ w.heap.size ≤ b) (hm : Mods F w w') : Two W w' rb x C R H nw N S' dn' S2 dn2 (fun b => F1 b ∧ b < w'.heap.size) G := by
  have h1 := h.left (hr.more fun b _ e => hF b e) hm
  exact ⟨hr.more fun b hb e => ⟨e, hb⟩, h1.ref, fun b e => h1.dis b ⟨hF b e.1, e.2⟩, fun b e => e.2, h1.gu, fun b e => h1.fl b ⟨hF b e.1, e.2⟩, h1.gl, h1.hm⟩
/-- As two_takeL; what is taken lies in no block of the relays. -/
theorem two_takeO {W w w' : World} {rb x C R H : Nat} {nw : Bool} {N : List Tx} {S S2 : List Stn} {dn dn2 : List Tx} {F G : Nat → Prop} {s : Tx} {n : Int} {v : Value} (h : Two W w rb x C R H nw N S dn S2 dn2 F G) (ht : TakeIs w w' rb C R H nw N S dn F s n v) :
    ∃ A c F', v = .tuple #[.slice A (tkV N S dn s n).1.length c, .int .i64 (takeE N dn s n)] ∧ Own w' (fun g => W.heap.size ≤ g ∧ ¬ F' g ∧ ¬ G g) 45 4 (.slice A (tkV N S dn s n).1.length c) (tkV N S dn s n).1.length (rcs (tkV N S dn s n).1) ∧
      Two W w' rb x C R H nw N (tkV N S dn s n).2 dn S2 dn2 F' G ∧ Mods F w w' := by
  have hs := h.hm.size
  rcases ht with ⟨h0, rfl, hr, hm⟩ | ⟨h0, k, m, mid, st, A, c, hk, hst, hm, rfl, hmid, ho, hr, hmm⟩
  · have e : tkV N S dn s n = ([], S) := if_neg h0
    rw [e]
    exact ⟨none, 0, _, rfl, Own.nil _ _ _ _, h.left2 hr (fun b e => .inl e) (hm.mono fun _ _ e => e.elim), hm.mono fun _ _ e => e.elim⟩
  · rw [tkV_at h.rel.strict h0 hk hst hm]
    have hl : (st.L.take m).length = m := by rw [List.length_take]; omega
    dsimp only
    rw [hl, h0]
    refine ⟨A, c, fun b => (F b ∨ mid ≤ b) ∧ b < w'.heap.size, rfl, ho.more fun g e => ⟨Nat.le_trans hs e.1, fun e2 => ?_, fun e2 => ?_⟩, h.left2 hr (fun b e => ?_) hmm, hmm⟩
    · rcases e2.1 with e3 | e3
      · have := h.fu g e3; have := e.1; omega
      · have := e.2; omega
    · have := h.gu g e2; have := e.1; omega
    · rcases e with e | e
      · exact .inl e
      · exact .inr (Nat.le_trans hmid e)
theorem tk_len {W w : World} {rb x C R H : Nat} {nw : Bool} {N : List Tx} {S S2 : List Stn} {dn dn2 : List Tx} {F G : Nat → Prop} {s : Tx} {n : Int} (h : Two W w rb x C R H nw N S dn S2 dn2 F G) : (tkV N S dn s n).1.length ≤ 65536 := by
  have hH := h.rel.1.h2
  unfold tkV
  split
  · dsimp only
    rw [List.length_take]
    have h1 : (S.getD (posT N s) stn0).L.length ≤ H := by
      rw [List.getD_eq_getElem?_getD]
      cases hk : S[posT N s]? with
      | none => exact Nat.zero_le _
      | some st => exact h.rel.1.held st (List.mem_of_getElem? hk)
    omega
  · exact Nat.zero_le _
def r0 : Rcd := ([], 0, 0, 0)
set_option maxHeartbeats 6400000 in
theorem relayOwn_K (w : World) (nodes : List Tx) (C R H : Int) (nw : Bool) (l : List Rcd) (vn vl : Value) (ht : Tab w) (hrn : Rd w (fun g => g < w.heap.size) 1 vn nodes.length (nodes.map ks)) (hr : Rd w (fun g => g < w.heap.size) 4 vl l.length (rcs l)) (hp : ∀ x ∈ l, x.1.length ≤ maxLen) (hn : l.length ≤ 144115188075855872) (hnn : nodes.length * 16 ≤ 140737488355328) :
    Calls Tryd.prog 5 #[.agg #[vn, .int .i64 C, .int .i64 R, .int .i64 H, .bool nw], vl] w (Ret fun v w' => v = .bool true ∧ Mods No w w') := by
  obtain ⟨An, cn, rfl, hnc, hnx⟩ := hrn.form
  obtain ⟨A, c, rfl, hac, hmx⟩ := hr.form
  have hM0 : Mods No w (w.alloc (.cells #[.slice An nodes.length cn, .int .i64 C, .int .i64 R, .int .i64 H, .bool nw] 26)) := (Mods.refl No w).alloc _
  have hbx := Cells.new w 26 #[.slice An nodes.length cn, .int .i64 C, .int .i64 R, .int .i64 H, .bool nw]
  have HBX := Lib.hid hbx
  have HM0 := Lib.hid hM0
  have HR := Lib.hid hr
  have HRN := Lib.hid hrn
  have HRN0 := Lib.hid (hrn.keep hM0)
  have Hp := Lib.hid hp
  have b0 := hbx.at_ 0 rfl
  have b1 := hbx.at_ 1 rfl
  have b2 := hbx.at_ 2 rfl
  have b3 := hbx.at_ 3 rfl
  have b4 := hbx.at_ 4 rfl
  have bl := hbx.lt
  unfold maxLen at hnx hmx
  have HKS := Lib.hid (show ∀ u ∈ nodes.map ks, u.oneCell' = true from fun u hu => by
    obtain ⟨s, _, rfl⟩ := List.mem_map.1 hu
    rfl)
  clear hbx hM0 hr hrn hp
  have Hht := Lib.hid ht
  clear ht
  go_enter Tryd.func5, Tryd.ntmps5
  go_upto_region 5 with (first | (at_builtin; ((refine wpList_append _ rfl (.tmp 25) (.tmp 27) 22 rfl 9 (.string ⟨#[]⟩) 1 16 Tryd.underlying22 infoTx rfl (by decide) (F := No) (n := 0) (xs := []) (by rfl) (Own.nil _ _ _ _) (y := .slice An nodes.length cn) (m := nodes.length) (news := nodes.map ks) (by rfl) HRN0.out HKS.out (by omega) (by decide) ?_); intro v1 w1 ho1 hm1 _; (rw [List.nil_append, Nat.zero_add] at ho1); have HO1 := Lib.hid (ho1.more (G := fun g => w.heap.size < g) fun g e => by (rcases e with e | e); cases e; rw [e, World.size_alloc]; exact Nat.lt_succ_self _); have HM1 := Lib.hid (HM0.out.trans hm1 fun _ _ e => by cases e); have HM01 := Lib.hid (hm1.mono (T := No) fun b hb e => by cases e); have hb1 := HBX.out.mods hm1 (fun e => by cases e); have b0 := hb1.at_ 0 rfl; have b1 := hb1.at_ 1 rfl; have b2 := hb1.at_ 2 rfl; have b3 := hb1.at_ 3 rfl; have b4 := hb1.at_ 4 rfl; have bl := hb1.lt; have HB1 := Lib.hid hb1; obtain ⟨Ao, co, rfl, hoc, hox⟩ := ho1.form; clear ho1 hm1 hb1)) | ((with_reducible refine wp_region_por ?_ ?_ ?_ ?_); kernel_rfl; kernel_rfl; (with_reducible repeat (first | exact calm_ret | refine calm_then ?_ | refine calm_in ?_ | refine calm_chk ?_ | refine calm_noGoto ?_))) | ((with_reducible refine chk_end ?_ ?_); kernel_rfl))
  obtain ⟨W, hW⟩ : ∃ W, W = w1.alloc (.cells #[.slice Ao nodes.length co, .int .i64 C, .int .i64 R, .int .i64 H, .bool nw] 26) := ⟨_, rfl⟩
  have hmW : Mods No w W := by rw [hW]; exact HM1.out.alloc _
  have hzW : W.heap.size = w1.heap.size + 1 := by rw [hW, World.size_alloc]
  have hd := Cells.new w1 26 #[.slice Ao nodes.length co, .int .i64 C, .int .i64 R, .int .i64 H, .bool nw]
  rw [← hW] at hd
  have HM1W := Lib.hid (show Mods No w1 W by rw [hW]; exact (Mods.refl No w1).alloc _)
  have hoW := Tum.Own.mods HO1.out (show Mods No w1 W by rw [hW]; exact (Mods.refl No w1).alloc _) fun _ _ e => e
  have hbW := HB1.out.mods (show Mods No w1 W by rw [hW]; exact (Mods.refl No w1).alloc _) fun e => e
  have hn1 := relnew_K W _ nodes C R H nw hoW.rdlt (Hht.out.no hmW)
  have hrn2 := fun w' (hm : Mods No W w') => rrnew_K w' An cn nodes C R H nw (HRN.out.keep (hmW.trans hm fun _ _ e => e))
  have hal := fun w' (hm : Mods No w w') => ralive_K w' (Hht.out.no hm)
  obtain ⟨e, he⟩ : ∃ e, e = relE nodes C R H := ⟨_, rfl⟩
  unfold RrNewIs at hrn2
  rw [← he] at hrn2
  rw [← hW]
  have HMW := Lib.hid hmW
  have HOW := Lib.hid hoW
  have HBW := Lib.hid hbW
  have HZW := Lib.hid hzW
  have d0 := hd.at_ 0 rfl
  have d1 := hd.at_ 1 rfl
  have d2 := hd.at_ 2 rfl
  have d3 := hd.at_ 3 rfl
  have d4 := hd.at_ 4 rfl
  have dl := hd.lt
  clear hd hoW hbW hmW b0 b1 b2 b3 b4 bl hW hzW
  by_cases h0 : e = 0
  · have hz := relE_zero (he.symm.trans h0)
    have hok := fun w' v (h : RelNew W w' nodes C R H nw v) => relnew_ok h (he.symm.trans h0)
    have hn64 := (newE_zero hz.1).2.2.1
    have hc1 := (newE_zero hz.1).1
    have hpos : 0 < nodes.length := by have := hz.2.1; omega
    obtain ⟨C, rfl⟩ : ∃ k : Nat, C = (k : Int) := ⟨C.toNat, by omega⟩
    obtain ⟨R, rfl⟩ : ∃ k : Nat, R = (k : Int) := ⟨R.toNat, by omega⟩
    obtain ⟨H, rfl⟩ : ∃ k : Nat, H = (k : Int) := ⟨H.toNat, by omega⟩
    have hR8 : R ≤ 8 := by omega
    have hH6 : H ≤ 65536 := by omega
    subst h0
    obtain ⟨go, co', e9, hgo, _, _⟩ := HOW.out.cells hpos
    injection e9 with e9 _ e10
    subst e9 e10
    have hgl := HOW.out.lt go rfl
    obtain ⟨W0, hW0⟩ : ∃ W0, W0 = w.alloc (.cells #[.slice An nodes.length cn, .int .i64 (C : Int), .int .i64 (R : Int), .int .i64 (H : Int), .bool nw] 26) := ⟨_, rfl⟩
    have hz0 : W0.heap.size = w.heap.size + 1 := by rw [hW0, World.size_alloc]
    have HB0 := Lib.hid (show Cells W0 w.heap.size 26 #[.slice An nodes.length cn, .int .i64 (C : Int), .int .i64 (R : Int), .int .i64 (H : Int), .bool nw] by rw [hW0]; exact Cells.new w _ _)
    have HM00 := Lib.hid (show Mods No w W0 by rw [hW0]; exact (Mods.refl No w).alloc _)
    have HMW0 := Lib.hid (show Mods No W0 W by rw [hW0]; exact HM01.out.trans HM1W.out fun _ _ e => e)
    have hmade := fun w2 w3 rb (hr2 : RelK w2 rb (C : Int).toNat (R : Int).toNat (H : Int).toNat nw (nodesOf nodes) (List.replicate nodes.length stn0) [] (fun b => W.heap.size ≤ b)) hm2 hm3 A1 n1 c1 A2 n2 c2 A3 n3 c3 h2 h3 => two_made (W := W) (w2 := w2) (w3 := w3) (rb := rb) (A := An) (n := nodes.length) (c := cn) (A1 := A1) (n1 := n1) (c1 := c1) (A2 := A2) (n2 := n2) (c2 := c2) (A3 := A3) (n3 := n3) (c3 := c3) he.symm hr2 hm2 hm3 h2 h3
    have Hhrn := Lib.hid hrn2
    clear hz he hrn2 hc1 hW0
    have Hhn1 := Lib.hid hn1
    clear hn1
    have Hhal := Lib.hid hal
    clear hal
    have Hhok := Lib.hid hok
    clear hok
    have Hhmade := Lib.hid hmade
    clear hmade
    go_wp2_with (first | (go_at_call 10; (refine ret_use (Hhn1.out) ?_; rintro v w2 hn2; obtain ⟨rb, rfl, hr2, hm2⟩ := Hhok.out _ _ hn2; have HR2 := Lib.hid hr2; have HM2 := Lib.hid hm2; have hb2 := HBW.out.mods hm2 fun e => e; have b0 := hb2.at_ 0 rfl; have b1 := hb2.at_ 1 rfl; have b2 := hb2.at_ 2 rfl; have b3 := hb2.at_ 3 rfl; have b4 := hb2.at_ 4 rfl; have bl := hb2.lt; clear hn2 hm2 hb2 hr2)) | (go_at_call 11; (refine ret_use (Hhrn.out _ HM2.out) ?_; rintro v w3 hn3; obtain ⟨A0, n0, c0, C', R', H', nw', cc, A1, n1, c1, A2, n2, c2, A3, n3, c3, rfl, hm3, hn4⟩ := hn3; obtain ⟨rfl, rfl, rfl, rfl, rfl, rfl, rfl, rfl, _, h2, h3⟩ := hn4 (by trivial); have HM3 := Lib.hid hm3; have HTW := Lib.hid (Hhmade.out w2 w3 rb HR2.out HM2.out hm3 A1 n1 c1 A2 n2 c2 A3 n3 c3 h2 h3); clear hm3 h2 h3 hn4)) | ((with_reducible refine wp_region_por ?_ ?_ ?_ ?_); kernel_rfl; kernel_rfl; (with_reducible repeat (first | exact calm_ret | refine calm_then ?_ | refine calm_in ?_ | refine calm_chk ?_ | refine calm_noGoto ?_))) | ((with_reducible refine chk_end ?_ ?_); kernel_rfl))
    clear b0 b1 b2 b3 b4 bl d0 d1 d2 d3 d4 dl
    obtain ⟨F0, G0, htw⟩ := HTW.out
    have hfo : ¬ F0 go := fun e => by have := htw.fl go e; omega
    have hgo2 : ¬ G0 go := fun e => by have := htw.gl go e; omega
    have HFO := Lib.hid (And.intro hfo hgo2)
    have hownX := Tum.Own.mods HOW.out htw.hm fun b hb e => e
    have HT0 := Lib.hid (htw.base HMW0.out)
    have HOX := Lib.hid (show Own _ (fun g => g = go) 9 1 (.slice (some ⟨go, 0, none⟩) nodes.length co) nodes.length (nodes.map ks) from ⟨hownX.1, fun b hb => by injection hb with hb; exact hb.symm⟩)
    clear htw hfo hgo2 hownX
    go_loopg [11] nodes.length (fun k v11 wr => ∃ (i : Nat) (ys : List Tx), v11 = .int .i64 i ∧ i ≤ nodes.length ∧ k + i = nodes.length ∧ ys.length = nodes.length ∧ (∀ j, i ≤ j → ys[j]? = nodes[j]?) ∧ Own wr (fun g => g = go) 9 1 (.slice (some ⟨go, 0, none⟩) nodes.length co) nodes.length (ys.map ks) ∧ Two W0 wr rb w3.heap.size C R H nw' (nodesOf nodes) (List.replicate nodes.length stn0) [] (List.replicate nodes.length stn0) [] F0 G0)
    case atStart => exact ⟨0, nodes, rfl, Nat.zero_le _, rfl, rfl, fun _ _ => rfl, HOX.out, HT0.out⟩
    case round =>
      obtain ⟨i, ys, rfl, hi, hki, hyl, hy, hown, htw⟩ := hrel
      have Hki := Lib.hid hki
      have HY := Lib.hid (And.intro hyl hy)
      have HO := Lib.hid hown
      have HT := Lib.hid htw
      have hbx := HB0.out.mods htw.hm fun e => e
      have b0 := hbx.at_ 0 rfl
      have bl := hbx.lt
      clear hki hyl hy hown htw hbx
      rcases Nat.lt_or_ge i nodes.length with h1 | h1
      · obtain ⟨s, hs⟩ := lt_get h1
        obtain ⟨b1, o1, rfl, _, x0⟩ := (HRN.out.keep (HM00.out.trans HT.out.hm fun _ _ e => e)).tx rfl hs
        obtain ⟨g7, c7, e7, _, _, hc7⟩ := HO.out.cells (by omega)
        injection e7 with e7 _ e8
        injection e7 with e7
        injection e7 with e7
        subst e7 e8
        have z0 : wr.cell? ⟨go, i, none⟩ = some (.string ⟨s.toArray⟩) := by rw [(hc7 i (by omega)).1, List.getElem?_map, HY.out.2 i (Nat.le_refl _), hs]; rfl
        have zf : wr.frozen? ⟨go, i, none⟩ = false := (hc7 i (by omega)).2
        have zl : go < wr.heap.size := HO.out.lt go rfl
        unfold ks at x0
        clear hs hc7
        go_wp2_with (first | ((with_reducible refine wp_region_por ?_ ?_ ?_ ?_); kernel_rfl; kernel_rfl; (with_reducible repeat (first | exact calm_ret | refine calm_then ?_ | refine calm_in ?_ | refine calm_chk ?_ | refine calm_noGoto ?_))) | ((with_reducible refine chk_end ?_ ?_); kernel_rfl))
        go_roundg (gk - 1)
        case rel =>
          have h5 := Tum.Own.mods (S := No) (HO.out.set (g := go) rfl i (ks [116, 117, 114, 110, 101, 100])) (Mods.refl No _).drew fun _ _ e => e
          rw [← List.map_set] at h5
          exact ⟨i + 1, ys.set i [116, 117, 114, 110, 101, 100], by go_num, h1, by have := Hki.out; omega, by rw [List.length_set]; exact HY.out.1, fun j hj => by rw [List.getElem?_set_ne (by omega)]; exact HY.out.2 j (by omega), h5, HT.out.mods (T := fun b => b = go) (((Mods.refl (fun b => b = go) wr).setCell ⟨go, i, none⟩ (ks [116, 117, 114, 110, 101, 100]) fun _ => rfl).drew) fun b e => by rw [e]; exact ⟨by omega, HFO.out.1, HFO.out.2⟩⟩
        case measure => have := Hki.out; omega
      · obtain rfl : i = nodes.length := by omega
        clear b0 bl
        go_wp2_with (first | ((with_reducible refine wp_region_por ?_ ?_ ?_ ?_); kernel_rfl; kernel_rfl; (with_reducible repeat (first | exact calm_ret | refine calm_then ?_ | refine calm_in ?_ | refine calm_chk ?_ | refine calm_noGoto ?_))) | ((with_reducible refine chk_end ?_ ?_); kernel_rfl))
        go_loopg [12] l.length (fun k v12 wr => ∃ (i : Nat) (S : List Stn) (F G : Nat → Prop), v12 = .int .i64 i ∧ i ≤ l.length ∧ k + i = l.length ∧ tot S ≤ 8 * i ∧ Two W0 wr rb w3.heap.size C R H nw' (nodesOf nodes) S [] S [] F G)
        case atStart => exact ⟨0, _, F0, G0, rfl, Nat.zero_le _, rfl, by rw [tot_new]; exact Nat.zero_le _, HT.out⟩
        case round =>
          obtain ⟨i, S, F, G, rfl, hi, hki, htt, htw⟩ := hrel
          have Hki2 := Lib.hid hki
          have HT2 := Lib.hid htw
          have Htt := Lib.hid htt
          clear hki htt
          rcases Nat.lt_or_ge i l.length with h1 | h1
          · obtain ⟨x, hx⟩ := lt_get h1
            obtain ⟨b1, o1, rfl, _, x0, x1, x2, x3⟩ := (HR.out.keep (HM00.out.trans htw.hm fun _ _ e => e)).rcd rfl hx
            have hxl := Hp.out x (List.mem_of_getElem? hx)
            have hrx := fun w' (hm : Mods No W0 w') => (HR.out.keep (HM00.out.trans hm fun _ _ e => e)).rcd_at rfl hx
            have hpl := two_putL htw x hxl (by have := Htt.out; omega)
            have hpr := fun w' F S1 (h : Two W0 w' rb w3.heap.size C R H nw' (nodesOf nodes) S1 [] S [] F G) => two_putR h x hxl (htw.stb (by have := Htt.out; omega))
            have htot := put_tot htw x
            have Htot := Lib.hid htot
            clear htw hx htot
            have Hhpl := Lib.hid hpl
            clear hpl
            have Hhpr := Lib.hid hpr
            clear hpr
            have Hhrx := Lib.hid hrx
            clear hrx
            unfold rv at Hhpl Hhpr
            unfold ks at Hhpl Hhpr x0
            go_wp2_with (first | (go_at_call 13; (refine ret_use (Hhpl.out) ?_; rintro v w5 ⟨⟨q5, rfl⟩, F5, ht5⟩; have HT5 := Lib.hid ht5; obtain ⟨x0, x1, x2, x3⟩ := Hhrx.out _ ht5.hm; clear ht5)) | (go_at_call 17; (refine ret_use (Hhpr.out _ _ _ HT5.out) ?_; rintro v w6 ⟨⟨q6, rfl⟩, G6, ht6⟩; have HT6 := Lib.hid ht6; clear ht6)) | ((with_reducible refine wp_region_por ?_ ?_ ?_ ?_); kernel_rfl; kernel_rfl; (with_reducible repeat (first | exact calm_ret | refine calm_then ?_ | refine calm_in ?_ | refine calm_chk ?_ | refine calm_noGoto ?_))) | ((with_reducible refine chk_end ?_ ?_); kernel_rfl))
            go_roundg (gk - 1)
            case rel => exact ⟨i + 1, _, F5, G6, by go_num, h1, by have := Hki2.out; omega, by have := Htot.out; have := Htt.out; omega, HT6.out⟩
            case measure => have := Hki2.out; omega
          · obtain rfl : i = l.length := by omega
            have hct := counts_K wr rb C R H nw' (nodesOf nodes) S [] F htw.rel
            have HFu := Lib.hid (And.intro htw.fu htw.gu)
            have hs0 := htw.hm.size
            clear htw
            have Hhct := Lib.hid hct
            clear hct
            go_wp2_with (first | (go_at_call 16; (refine ret_use (Hhct.out) ?_; rintro v w5 ⟨ho5, hm5⟩; have hf5 := HFu.out; have HO5 := Lib.hid (ho5.more (G := fun g => W0.heap.size ≤ g ∧ ¬ F g ∧ ¬ G g) fun g e => ⟨Nat.le_trans hs0 e, fun h => Nat.lt_irrefl _ (Nat.lt_of_lt_of_le (hf5.1 g h) e), fun h => Nat.lt_irrefl _ (Nat.lt_of_lt_of_le (hf5.2 g h) e)⟩); have HT5 := Lib.hid (HT2.out.no hm5); obtain ⟨A5, c5, rfl, _, _⟩ := ho5.form; clear ho5 hm5 hf5)) | ((with_reducible refine wp_region_por ?_ ?_ ?_ ?_); kernel_rfl; kernel_rfl; (with_reducible repeat (first | exact calm_ret | refine calm_then ?_ | refine calm_in ?_ | refine calm_chk ?_ | refine calm_noGoto ?_))) | ((with_reducible refine chk_end ?_ ?_); kernel_rfl))
            have hNl : (nodesOf nodes).length = nodes.length := nodesOf_len nodes
            have HNl := Lib.hid hNl
            have hN64 : (nodesOf nodes).length ≤ 64 := by rw [nodesOf_len]; exact hn64
            clear hNl
            go_loopg [14] (nodesOf nodes).length (fun k v14 wr => ∃ (i : Nat) (xs : List Value), v14 = .int .i64 i ∧ i ≤ (nodesOf nodes).length ∧ k + i = (nodesOf nodes).length ∧ Own wr (fun g => W0.heap.size ≤ g ∧ ¬ F g ∧ ¬ G g) 53 5 (.slice A5 (nodesOf nodes).length c5) (nodesOf nodes).length xs ∧ Two W0 wr rb w3.heap.size C R H nw' (nodesOf nodes) S [] S [] F G)
            case atStart => exact ⟨0, _, rfl, Nat.zero_le _, rfl, HO5.out, HT5.out⟩
            case round =>
              obtain ⟨i, xs, rfl, hi, hki, hown, htw⟩ := hrel
              have Hki3 := Lib.hid hki
              have HO6 := Lib.hid hown
              have HT6 := Lib.hid htw
              clear hki hown htw
              rcases Nat.lt_or_ge i (nodesOf nodes).length with h1 | h1
              · obtain ⟨g7, c7, e7, hg7, _, hc7⟩ := HO6.out.cells (by omega)
                injection e7 with e7 _ e8
                subst e7 e8
                have zz : ∀ r, r < 5 → (∃ u, wr.cell? ⟨g7, i * 5 + r, none⟩ = some u) ∧ wr.frozen? ⟨g7, i * 5 + r, none⟩ = false := fun r hr => by
                  have hl := HO6.out.1.1
                  have h5 := hc7 (i * 5 + r) (by omega)
                  exact ⟨⟨_, h5.1.trans (List.getElem?_eq_getElem (by omega))⟩, h5.2⟩
                obtain ⟨⟨u0, z0⟩, f0⟩ := zz 0 (by decide)
                obtain ⟨⟨u1, z1⟩, f1⟩ := zz 1 (by decide)
                obtain ⟨⟨u2, z2⟩, f2⟩ := zz 2 (by decide)
                obtain ⟨⟨u3, z3⟩, f3⟩ := zz 3 (by decide)
                obtain ⟨⟨u4, z4⟩, f4⟩ := zz 4 (by decide)
                rw [Nat.add_zero] at z0 f0
                have zl : g7 < wr.heap.size := HO6.out.lt g7 rfl
                clear zz hc7
                go_wp2_with (first | ((with_reducible refine wp_region_por ?_ ?_ ?_ ?_); kernel_rfl; kernel_rfl; (with_reducible repeat (first | exact calm_ret | refine calm_then ?_ | refine calm_in ?_ | refine calm_chk ?_ | refine calm_noGoto ?_))) | ((with_reducible refine chk_end ?_ ?_); kernel_rfl))
                go_roundg (gk - 1)
                case rel =>
                  have h5 := ((((HO6.out.set (g := g7) rfl (i * 5) (.string ⟨#[]⟩)).set (g := g7) rfl (i * 5 + 1) (.bool false)).set (g := g7) rfl (i * 5 + 2) (.int .i64 0)).set (g := g7) rfl (i * 5 + 3) (.int .i64 0)).set (g := g7) rfl (i * 5 + 4) (.int .i64 0)
                  exact ⟨i + 1, _, by go_num, h1, by have := Hki3.out; omega, h5, HT6.out.mods (T := fun b => b = g7) ((((((Mods.refl (fun b => b = g7) wr).setCell ⟨g7, i * 5, none⟩ (.string ⟨#[]⟩) fun _ => rfl).setCell ⟨g7, i * 5 + 1, none⟩ (.bool false) fun _ => rfl).setCell ⟨g7, i * 5 + 2, none⟩ (.int .i64 0) fun _ => rfl).setCell ⟨g7, i * 5 + 3, none⟩ (.int .i64 0) fun _ => rfl).setCell ⟨g7, i * 5 + 4, none⟩ (.int .i64 0) fun _ => rfl) fun b e => by rw [e]; exact hg7⟩
                case measure => have := Hki3.out; omega
              · obtain rfl : i = (nodesOf nodes).length := by omega
                have Hl8 := Lib.hid (show tot S ≤ 8 * l.length from Htt.out)
                go_wp2_with (first | ((with_reducible refine wp_region_por ?_ ?_ ?_ ?_); kernel_rfl; kernel_rfl; (with_reducible repeat (first | exact calm_ret | refine calm_then ?_ | refine calm_in ?_ | refine calm_chk ?_ | refine calm_noGoto ?_))) | ((with_reducible refine chk_end ?_ ?_); kernel_rfl))
                go_loopg [15] nodes.length (fun k v15 wr => ∃ (i : Nat) (S : List Stn) (F G : Nat → Prop), v15 = .int .i64 i ∧ i ≤ nodes.length ∧ k + i = nodes.length ∧ tot S ≤ 8 * l.length ∧ Two W0 wr rb w3.heap.size C R H nw' (nodesOf nodes) S [] S [] F G)
                case atStart => exact ⟨0, S, F, G, rfl, Nat.zero_le _, rfl, Hl8.out, HT6.out⟩
                case round =>
                  obtain ⟨i, S, F, G, rfl, hi, hki, htt, htw⟩ := hrel
                  have Hki4 := Lib.hid hki
                  have HT7 := Lib.hid htw
                  have hB : tot S ≤ 2305843009213693952 := by omega
                  have HB4 := Lib.hid htt
                  have hbx := HB0.out.mods htw.hm fun e => e
                  have b0 := hbx.at_ 0 rfl
                  have bl := hbx.lt
                  clear hki hbx htt
                  rcases Nat.lt_or_ge i nodes.length with h1 | h1
                  · obtain ⟨s, hs⟩ := lt_get h1
                    obtain ⟨b1, o1, rfl, _, x0⟩ := (HRN.out.keep (HM00.out.trans htw.hm fun _ _ e => e)).tx rfl hs
                    unfold ks at x0
                    have hbk := fun w' (hm : Mods No W0 w') => And.intro ((HB0.out.mods hm fun e => e).at_ 0 rfl) (And.intro ((HRN.out.keep (HM00.out.trans hm fun _ _ e => e)).tx_at2 rfl hs) (HB0.out.mods hm fun e => e).lt)
                    have htk := take_K wr rb C R H nw' (nodesOf nodes) S [] F s 2 htw.rel (Two.sent hB)
                    have htk2 := fun w' S1 F G (h : Two W0 w' rb w3.heap.size C R H nw' (nodesOf nodes) S1 [] S [] F G) => rrtake_K w' w3.heap.size C R H nw' (nodesOf nodes) S [] G s 2 h.ref (Two.sent hB)
                    obtain ⟨T, hT⟩ : ∃ T, T = tkV (nodesOf nodes) S [] s 2 := ⟨_, rfl⟩
                    have hl1 := fun w'' v ht => two_takeO (w' := w'') (v := v) (s := s) (n := 2) htw ht
                    have hl2 := fun w' w'' F G v (h : Two W0 w' rb w3.heap.size C R H nw' (nodesOf nodes) T.2 [] S [] F G) ht => two_takeR (w' := w'') (v := v) (s := s) (n := 2) h ht
                    have htt : tot T.2 = tot S := by rw [hT, tot_tk]
                    rw [← hT] at hl1 hl2
                    obtain ⟨te, hte⟩ : ∃ te, te = takeE (nodesOf nodes) [] s 2 := ⟨_, rfl⟩
                    rw [← hte] at hl1 hl2
                    have Htt9 := Lib.hid htt
                    have HTL := Lib.hid (show T.1.length ≤ 65536 by rw [hT]; exact tk_len htw)
                    have HgF := Lib.hid htw.gu
                    clear hT hte htt hs htw
                    have Hhbk := Lib.hid hbk
                    clear hbk
                    have Hhtk := Lib.hid htk
                    clear htk
                    have Hhtk2 := Lib.hid htk2
                    clear htk2
                    have Hhl1 := Lib.hid hl1
                    clear hl1
                    have Hhl2 := Lib.hid hl2
                    clear hl2
                    unfold ks at Hhtk Hhtk2
                    go_wp2_with (first | (go_at_call 14; (fail_if_success have := TA); (refine ret_use (Hhtk.out) ?_; rintro v w5 ht5; have TA := True.intro; obtain ⟨A5, c5, F5, rfl, ho5, ht6, hm6⟩ := Hhl1.out _ _ ht5; have HO7 := Lib.hid ho5; have HT8 := Lib.hid ht6; obtain ⟨b0, x0, bl⟩ := Hhbk.out _ ht6.hm; clear ht5 ho5 ht6 hm6)) | (go_at_call 18; (fail_if_success have := TB); (refine ret_use (Hhtk2.out _ _ _ _ HT8.out) ?_; rintro v w6 ht6; have TB := True.intro; obtain ⟨A6, c6, rfl, ho6, ht7, hm7⟩ := Hhl2.out _ _ _ _ _ HT8.out ht6; have hlt6 := HT8.out.gu; have ho7 := Tum.Own.mods HO7.out hm7 (fun b hb e => (HO7.out.2 b hb).2.2 e); have HS := Lib.hid (same2 (a := T.1) (b := T.1) rfl rfl rfl ho7.rdlt (ho6.more fun b e => Nat.lt_of_lt_of_le (hlt6 b e) hm7.size) (fun _ e => e) (fun _ e => e)); have HT9 := Lib.hid ht7; have HO8 := Lib.hid ho7; clear ht6 ho6 ht7 hm7 hlt6 ho7)) | (go_at_call 15; (fail_if_success have := TC); (refine ret_use (HS.out) ?_; rintro v w7 ⟨rfl, hm8⟩; have TC := True.intro; have HT10 := Lib.hid (HT9.out.no hm8); have HO9 := Lib.hid (Tum.Own.mods HO8.out hm8 fun _ _ e => e); clear hm8)) | ((with_reducible refine wp_region_por ?_ ?_ ?_ ?_); kernel_rfl; kernel_rfl; (with_reducible repeat (first | exact calm_ret | refine calm_then ?_ | refine calm_in ?_ | refine calm_chk ?_ | refine calm_noGoto ?_))) | ((with_reducible refine chk_end ?_ ?_); kernel_rfl))
                    obtain ⟨Gn, hGn⟩ : ∃ Gn : Nat → Prop, Gn = fun b => (G b ∨ w5.heap.size ≤ b) ∧ b < w6.heap.size := ⟨_, rfl⟩
                    have ht11 := HT10.out
                    rw [← hGn] at ht11
                    have HT11 := Lib.hid ht11
                    have HO10 := Lib.hid (show Own w7 (fun g => W0.heap.size ≤ g ∧ ¬ F5 g ∧ ¬ Gn g) 45 4 (.slice A5 T.1.length c5) T.1.length (rcs T.1) from ⟨HO9.out.1, fun b hb => ⟨(HO9.out.2 b hb).1, (HO9.out.2 b hb).2.1, fun e => by
                      rw [hGn] at e
                      rcases e.1 with e1 | e1
                      · exact (HO9.out.2 b hb).2.2 e1
                      · have := HO7.out.lt b hb; omega⟩⟩)
                    obtain ⟨K4, hK4⟩ : ∃ K4, K4 = gk := ⟨_, rfl⟩
                    have HK4 := Lib.hid hK4
                    have hT5 := HTL.out
                    clear hK4 hGn ht11 b0 bl x0
                    go_loopg [20] T.1.length (fun k v20 wz => ∃ (j : Nat) (xs : List Value), v20 = .int .i64 j ∧ j ≤ T.1.length ∧ k + j = T.1.length ∧ Own wz (fun g => W0.heap.size ≤ g ∧ ¬ F5 g ∧ ¬ Gn g) 45 4 (.slice A5 T.1.length c5) T.1.length xs ∧ Two W0 wz rb w3.heap.size C R H nw' (nodesOf nodes) T.2 [] T.2 [] F5 Gn)
                    case atStart => exact ⟨0, _, rfl, Nat.zero_le _, rfl, HO10.out, HT11.out⟩
                    case round =>
                      obtain ⟨wz, rfl⟩ : ∃ wz, wz = wr := ⟨_, rfl⟩
                      obtain ⟨j, xs, rfl, hj, hkj, hown, htw⟩ := hrel
                      have Hkj := Lib.hid hkj
                      have HO6 := Lib.hid hown
                      have HT6 := Lib.hid htw
                      clear hkj hown htw
                      rcases Nat.lt_or_ge j T.1.length with h2 | h2
                      · obtain ⟨g7, c7, e7, hg7, _, hc7⟩ := HO6.out.cells (by omega)
                        injection e7 with e7 _ e8
                        subst e7 e8
                        have zz : ∀ r, r < 4 → (∃ u, wz.cell? ⟨g7, j * 4 + r, none⟩ = some u) ∧ wz.frozen? ⟨g7, j * 4 + r, none⟩ = false := fun r hr => by
                          have hl := HO6.out.1.1
                          have h5 := hc7 (j * 4 + r) (by omega)
                          exact ⟨⟨_, h5.1.trans (List.getElem?_eq_getElem (by omega))⟩, h5.2⟩
                        obtain ⟨⟨u0, z0⟩, f0⟩ := zz 0 (by decide)
                        obtain ⟨⟨u1, z1⟩, f1⟩ := zz 1 (by decide)
                        obtain ⟨⟨u2, z2⟩, f2⟩ := zz 2 (by decide)
                        obtain ⟨⟨u3, z3⟩, f3⟩ := zz 3 (by decide)
                        rw [Nat.add_zero] at z0 f0
                        have zl : g7 < wz.heap.size := HO6.out.lt g7 rfl
                        clear zz hc7
                        go_wp2_with (first | ((with_reducible refine wp_region_por ?_ ?_ ?_ ?_); kernel_rfl; kernel_rfl; (with_reducible repeat (first | exact calm_ret | refine calm_then ?_ | refine calm_in ?_ | refine calm_chk ?_ | refine calm_noGoto ?_))) | ((with_reducible refine chk_end ?_ ?_); kernel_rfl))
                        go_roundg (gk - 1)
                        case rel =>
                          have h5 := (((HO6.out.set (g := g7) rfl (j * 4) (ks [116, 117, 114, 110, 101, 100])).set (g := g7) rfl (j * 4 + 1) (.int .i64 0)).set (g := g7) rfl (j * 4 + 2) (.int .u64 0)).set (g := g7) rfl (j * 4 + 3) (.int .i64 0)
                          exact ⟨j + 1, _, by go_num, h2, by have := Hkj.out; omega, h5, HT6.out.mods (T := fun b => b = g7) (((((Mods.refl (fun b => b = g7) wz).setCell ⟨g7, j * 4, none⟩ (ks [116, 117, 114, 110, 101, 100]) fun _ => rfl).setCell ⟨g7, j * 4 + 1, none⟩ (.int .i64 0) fun _ => rfl).setCell ⟨g7, j * 4 + 2, none⟩ (.int .u64 0) fun _ => rfl).setCell ⟨g7, j * 4 + 3, none⟩ (.int .i64 0) fun _ => rfl) fun b e => by rw [e]; exact hg7⟩
                        case measure => have := Hkj.out; omega
                      · obtain rfl : j = T.1.length := by omega
                        go_upto_region 37 with (first | (at_builtin; ((refine wpList_append _ rfl (.tmp 146) (.tmp 149) 23 rfl 45 (.agg #[.string ⟨#[]⟩, .int .i64 0, .int .u64 0, .int .i64 0]) 4 40 Tryd.underlying23 infoRc rfl (by decide) (F := fun g => W0.heap.size ≤ g ∧ ¬ F5 g ∧ ¬ Gn g) (n := T.1.length) (xs := xs) (by rfl) (HO6.out.mods ((Mods.refl No wz).alloc (.cells #[.string ⟨#[]⟩, .int .i64 0, .int .u64 0, .int .i64 0, .string ⟨#[]⟩, .int .i64 0, .int .u64 0, .int .i64 0] 45)) fun _ _ e => e) (G := fun g => g = wz.heap.size) (y := .slice (some ⟨wz.heap.size, 0, none⟩) 2 2) (m := 2) (news := rcs [r0, r0]) (by rfl) (Rd.box wz #[.string ⟨#[]⟩, .int .i64 0, .int .u64 0, .int .i64 0, .string ⟨#[]⟩, .int .i64 0, .int .u64 0, .int .i64 0] _ rfl rfl (by decide)) (rcs_one _) (by omega) (by decide) ?_); intro v8 w8 ho8 hm8 _; have HT12 := Lib.hid ((HT6.out.no ((Mods.refl No wz).alloc (.cells #[.string ⟨#[]⟩, .int .i64 0, .int .u64 0, .int .i64 0, .string ⟨#[]⟩, .int .i64 0, .int .u64 0, .int .i64 0] 45))).mods hm8 fun b e => HO6.out.2 b e); obtain ⟨A8, c8, rfl, _, _⟩ := ho8.form; clear ho8 hm8)) | ((with_reducible refine wp_region_por ?_ ?_ ?_ ?_); kernel_rfl; kernel_rfl; (with_reducible repeat (first | exact calm_ret | refine calm_then ?_ | refine calm_in ?_ | refine calm_chk ?_ | refine calm_noGoto ?_))) | ((with_reducible refine chk_end ?_ ?_); kernel_rfl))
                        have hB2 : tot T.2 ≤ 2305843009213693952 := by rw [Htt9.out]; exact hB
                        obtain ⟨b0, x0, bl⟩ := Hhbk.out _ HT12.out.hm
                        have htk3 := take_K w8 rb C R H nw' (nodesOf nodes) T.2 [] F5 s 65536 HT12.out.rel (Two.sent hB2)
                        have htk4 := fun w' S1 F G (h : Two W0 w' rb w3.heap.size C R H nw' (nodesOf nodes) S1 [] T.2 [] F G) => rrtake_K w' w3.heap.size C R H nw' (nodesOf nodes) T.2 [] G s 65536 h.ref (Two.sent hB2)
                        obtain ⟨V, hV⟩ : ∃ V, V = tkV (nodesOf nodes) T.2 [] s 65536 := ⟨_, rfl⟩
                        have hl3 := fun w'' v ht => two_takeO (w' := w'') (v := v) (s := s) (n := 65536) HT12.out ht
                        have hl4 := fun w' w'' F G v (h : Two W0 w' rb w3.heap.size C R H nw' (nodesOf nodes) V.2 [] T.2 [] F G) ht => two_takeR (w' := w'') (v := v) (s := s) (n := 65536) h ht
                        have hvt : tot V.2 ≤ 8 * l.length := by rw [hV, tot_tk, Htt9.out]; exact HB4.out
                        rw [← hV] at hl3 hl4
                        obtain ⟨ve, hve⟩ : ∃ ve, ve = takeE (nodesOf nodes) [] s 65536 := ⟨_, rfl⟩
                        rw [← hve] at hl3 hl4
                        have HVT := Lib.hid hvt
                        clear hV hve hvt hB2
                        have Hhtk3 := Lib.hid htk3
                        clear htk3
                        have Hhtk4 := Lib.hid htk4
                        clear htk4
                        have Hhl3 := Lib.hid hl3
                        clear hl3
                        have Hhl4 := Lib.hid hl4
                        clear hl4
                        unfold ks at Hhtk3 Hhtk4
                        go_wp2_with (first | (go_at_call 14; (refine ret_use (Hhtk3.out) ?_; rintro v w9 ht5; obtain ⟨A9, c9, F9, rfl, ho5, ht6, hm6⟩ := Hhl3.out _ _ ht5; have HP7 := Lib.hid ho5; have HU8 := Lib.hid ht6; obtain ⟨b0, x0, bl⟩ := Hhbk.out _ ht6.hm; clear ht5 ho5 ht6 hm6)) | (go_at_call 18; (refine ret_use (Hhtk4.out _ _ _ _ HU8.out) ?_; rintro v w10 ht6; obtain ⟨A10, c10, rfl, ho6, ht7, hm7⟩ := Hhl4.out _ _ _ _ _ HU8.out ht6; have hlt6 := HU8.out.gu; have ho7 := Tum.Own.mods HP7.out hm7 (fun b hb e => (HP7.out.2 b hb).2.2 e); have HS2 := Lib.hid (same2 (a := V.1) (b := V.1) rfl rfl rfl ho7.rdlt (ho6.more fun b e => Nat.lt_of_lt_of_le (hlt6 b e) hm7.size) (fun _ e => e) (fun _ e => e)); have HU9 := Lib.hid ht7; clear ht6 ho6 ht7 hm7 hlt6 ho7)) | (go_at_call 15; (refine ret_use (HS2.out) ?_; rintro v w11 ⟨rfl, hm8⟩; have HU10 := Lib.hid (HU9.out.no hm8); clear hm8)) | ((with_reducible refine wp_region_por ?_ ?_ ?_ ?_); kernel_rfl; kernel_rfl; (with_reducible repeat (first | exact calm_ret | refine calm_then ?_ | refine calm_in ?_ | refine calm_chk ?_ | refine calm_noGoto ?_))) | ((with_reducible refine chk_end ?_ ?_); kernel_rfl))
                        go_roundg (K4 - 1)
                        case rel => exact ⟨i + 1, V.2, _, _, by go_num, h1, by have := Hki4.out; have := HK4.out; omega, HVT.out, HU10.out⟩
                        case measure => have := Hki4.out; have := HK4.out; omega
                  · obtain rfl : i = nodes.length := by omega
                    have hct := counts_K wr rb C R H nw' (nodesOf nodes) S [] F htw.rel
                    have hct2 := fun w' (hm : Mods No wr w') => rcounts_ref w' w3.heap.size C R H nw' (nodesOf nodes) S [] G (htw.ref.no hm)
                    obtain ⟨L, hL⟩ : ∃ L, L = countsV (nodesOf nodes) S [] := ⟨_, rfl⟩
                    have hLl : L.length = (nodesOf nodes).length := by rw [hL, countsV_len htw.rel.1.len]
                    rw [← hL, ← hLl] at hct hct2
                    clear hL hLl htw
                    have Hhct := Lib.hid hct
                    clear hct
                    have Hhct2 := Lib.hid hct2
                    clear hct2
                    go_wp2_with (first | (go_at_call 16; (refine ret_use (Hhct.out) ?_; rintro v w5 ⟨ho5, hm5⟩; have HO20 := Lib.hid ho5; have HM20 := Lib.hid hm5; clear ho5 hm5)) | (go_at_call 20; (refine ret_use (Hhct2.out _ HM20.out) ?_; rintro v w6 ⟨ho6, hm6⟩; have hs6 := sameC_K w6 _ _ _ _ L L (Tum.Own.mods HO20.out hm6 fun _ _ e => e).rdlt ho6.rdlt (fun _ e => e) (fun _ e => e); rw [decide_eq_true rfl] at hs6; have HS6 := Lib.hid hs6; have HM21 := Lib.hid (HM20.out.trans hm6 fun _ _ e => e); clear ho6 hm6 hs6)) | (go_at_call 19; (refine ret_use (HS6.out) ?_; rintro v w7 ⟨rfl, hm7⟩; have HM22 := Lib.hid (HM00.out.trans (HT7.out.hm.trans (HM21.out.trans hm7 fun _ _ e => e) fun _ _ e => e) fun _ _ e => e); clear hm7)) | (go_at_call 12; (refine ret_use (Hhal.out _ HM22.out) ?_; rintro v w8 ⟨rfl, hm8⟩; have HM23 := Lib.hid (HM22.out.trans hm8 fun _ _ e => e); clear hm8)) | ((with_reducible refine wp_region_por ?_ ?_ ?_ ?_); kernel_rfl; kernel_rfl; (with_reducible repeat (first | exact calm_ret | refine calm_then ?_ | refine calm_in ?_ | refine calm_chk ?_ | refine calm_noGoto ?_))) | ((with_reducible refine chk_end ?_ ?_); kernel_rfl))
                    go_ret
                    exact ⟨rfl, HM23.out⟩
  · have he1 : (e != 0) = true := bne_iff_ne.2 h0
    have hbad := fun w' v (h : RelNew W w' nodes C R H nw v) => relnew_bad h he h0
    have Hhrn := Lib.hid hrn2
    clear he h0 hrn2
    have Hhn1 := Lib.hid hn1
    clear hn1
    have Hhal := Lib.hid hal
    clear hal
    have Hhbad := Lib.hid hbad
    clear hbad
    go_wp2_with (first | (go_at_call 10; (refine ret_use (Hhn1.out) ?_; rintro v w2 hn2; obtain ⟨rfl, hm2⟩ := Hhbad.out _ _ hn2; have HM2 := Lib.hid hm2; have hb2 := HBW.out.mods hm2 fun e => e; have b0 := hb2.at_ 0 rfl; have b1 := hb2.at_ 1 rfl; have b2 := hb2.at_ 2 rfl; have b3 := hb2.at_ 3 rfl; have b4 := hb2.at_ 4 rfl; have bl := hb2.lt; clear hn2 hm2 hb2)) | (go_at_call 11; (refine ret_use (Hhrn.out _ HM2.out) ?_; rintro v w3 hn3; obtain ⟨A0, n0, c0, C', R', H', nw', cc, A1, n1, c1, A2, n2, c2, A3, n3, c3, rfl, hm3, -⟩ := hn3; have HM3 := Lib.hid (HMW.out.trans (HM2.out.trans (hm3.alloc (.cells #[.slice A0 n0 c0, .int .i64 C', .int .i64 R', .int .i64 H', .bool nw', .int .i64 cc, .slice A1 n1 c1, .slice A2 n2 c2, .slice A3 n3 c3] 36)) fun _ _ e => e) fun _ _ e => e); clear hm3)) | (go_at_call 12; (refine ret_use (Hhal.out _ HM3.out) ?_; rintro v w4 ⟨rfl, hm4⟩; have HM4 := Lib.hid hm4; clear hm4)) | ((with_reducible refine wp_region_por ?_ ?_ ?_ ?_); kernel_rfl; kernel_rfl; (with_reducible repeat (first | exact calm_ret | refine calm_then ?_ | refine calm_in ?_ | refine calm_chk ?_ | refine calm_noGoto ?_))) | ((with_reducible refine chk_end ?_ ?_); kernel_rfl))
    go_ret
    exact ⟨rfl, HM3.out.trans HM4.out fun _ _ e => e⟩
end Go.Proofs.YtcifajfmdpjfiaaDoor
