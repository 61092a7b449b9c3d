/- Package relay: Counts. -/
import Derived.Test.YtcifajfmdpjfiaaDoorRlE
namespace Go.Proofs.YtcifajfmdpjfiaaDoor
open Go.RowKit Go.Tum Go.Lib Go.Sort
set_option maxRecDepth 100000
/-- Node, up, held, sent, dropped. -/
abbrev Cnt := Tx × Bool × Nat × Nat × Nat
def cc (x : Cnt) : List Value := [ks x.1, .bool x.2.1, .int .i64 (x.2.2.1 : Int), .int .i64 (x.2.2.2.1 : Int), .int .i64 (x.2.2.2.2 : Int)]
theorem cc_len (x : Cnt) : (cc x).length = 5 := rfl
def ccs (l : List Cnt) : List Value := l.flatMap cc
theorem ccs_snoc (l : List Cnt) (x : Cnt) : ccs (l ++ [x]) = ccs l ++ cc x := by simp [ccs]
theorem cc_one (x : Cnt) : ∀ u ∈ cc x, u.oneCell' = true := by
  intro u hu
  simp only [cc, List.mem_cons, List.not_mem_nil, or_false] at hu
  rcases hu with rfl | rfl | rfl | rfl | rfl <;> rfl
def cntOf (dn : List Tx) (s : Tx) (st : Stn) : Cnt := (s, !decide (s ∈ dn), st.L.length, st.sent, st.dropped)
def countsV (N : List Tx) (S : List Stn) (dn : List Tx) : List Cnt := List.zipWith (cntOf dn) N S
theorem countsV_len {N : List Tx} {S : List Stn} {dn : List Tx} (h : S.length = N.length) : (countsV N S dn).length = N.length := by unfold countsV; rw [List.length_zipWith]; omega
theorem countsV_next {N : List Tx} {S : List Stn} {dn : List Tx} {i : Nat} {s : Tx} {st : Stn} (h1 : N[i]? = some s) (h2 : S[i]? = some st) : (countsV N S dn).take (i + 1) = (countsV N S dn).take i ++ [cntOf dn s st] := by
  refine take_nx ?_
  unfold countsV
  rw [List.getElem?_zipWith, h1, h2]
theorem infoCt : (Tryd.prog.info? 53).map (fun i => (i.zero, i.size, i.bytes)) = some (some (.agg #[.string ⟨#[]⟩, .bool false, .int .i64 0, .int .i64 0, .int .i64 0]), 5, 48) := by kernel_rfl
structure CtI (w wr : World) (l : List Cnt) (i : Nat) (v : Value) : Prop where
  own : Own wr (fun g => w.heap.size ≤ g) 53 5 v i (ccs (l.take i))
  hm : Mods No w wr
theorem CtI.more {w wr wx w3 : World} {l : List Cnt} {i : Nat} {v u : Value} {x : Cnt} (h : CtI w wr l i v) (hx : l.take (i + 1) = l.take i ++ [x]) (hm : Mods No wr wx)
    (h3 : Own w3 (fun k => v.ownBlock = some k ∨ k = wx.heap.size) 53 5 u (i + 1) (ccs (l.take i) ++ cc x)) (hm3 : Mods (fun k => v.ownBlock = some k) wx w3) : CtI w w3 l (i + 1) u := by
  have hsz := Nat.le_trans h.hm.size hm.size
  refine ⟨?_, (h.hm.trans hm fun _ _ e => e).trans hm3 fun k hk e => absurd hk (Nat.not_lt.2 (h.own.2 k e))⟩
  rw [hx, ccs_snoc]
  refine h3.more fun g hg => ?_
  rcases hg with e | e
  · exact h.own.2 g e
  · exact e ▸ hsz
set_option maxHeartbeats 6400000 in
theorem counts_K (w : World) (rb C R H : Nat) (nw : Bool) (N : List Tx) (S : List Stn) (dn : List Tx) (F : Nat → Prop) (h : RelK w rb C R H nw N S dn F) :
    Calls Tryd.prog 16 #[(.pointer (some ⟨rb, 0, none⟩))] w (Ret fun v w' => Own w' (fun g => w.heap.size ≤ g) 53 5 v N.length (ccs (countsV N S dn)) ∧ Mods No w w') := by
  obtain ⟨hI, ht, g, mb, col, ps, nv, sv, hp, hF⟩ := h
  have hmade := rmade_K hp
  have hN64 := hp.ring.1.small
  obtain ⟨l, hl⟩ : ∃ l, l = countsV N S dn := ⟨_, rfl⟩
  have hll : l.length = N.length := by rw [hl]; exact countsV_len hI.len
  rw [← hl]
  have HL := Lib.hid hl
  have c6 := hp.cells.at_ 6 rfl
  obtain ⟨An, cn, rfl, _, _⟩ := hp.names.form
  obtain ⟨As, cs, rfl, _, _⟩ := hp.sta.form
  clear hl
  have Hhp := Lib.hid hp
  clear hp
  have HhI := Lib.hid hI
  clear hI
  have HhF := Lib.hid hF
  clear hF
  have Hhmade := Lib.hid hmade
  clear hmade
  have Hhll := Lib.hid hll
  clear hll
  go_enter Tryd.func16, Tryd.ntmps16
  go_wp2_with (first | (go_at_call 30; (refine ret_use (Hhmade.out) ?_; rintro v w2 ⟨rfl, rfl⟩)) | ((with_reducible refine wp_region_por ?_ ?_ ?_ ?_); kernel_rfl; kernel_rfl; (with_reducible repeat (first | exact calm_ret | refine calm_then ?_ | refine calm_in ?_ | refine calm_chk ?_ | refine calm_noGoto ?_))) | ((with_reducible refine chk_end ?_ ?_); kernel_rfl))
  go_loopg [3, 15] N.length (fun k v3 v15 wr => ∃ i : Nat, v15 = .int .i64 i ∧ i ≤ N.length ∧ k + i = N.length ∧ CtI w wr l i v3)
  case atStart => exact ⟨0, rfl, Nat.zero_le _, rfl, Own.nil _ _ _ _, Mods.refl _ _⟩
  case round =>
    clear c6
    obtain ⟨i, rfl, hi, hki, hin⟩ := hrel
    have Hki := Lib.hid hki
    have Hin := Lib.hid hin
    have HPR := Lib.hid (Hhp.out.no hin.hm)
    have r7 := HPR.out.cells.at_ 7 rfl
    have r8 := HPR.out.cells.at_ 8 rfl
    have rl := HPR.out.cells.lt
    obtain ⟨A3, c3, rfl, _, _⟩ := hin.own.form
    clear hki hin
    rcases Nat.lt_or_ge i N.length with h1 | h1
    · obtain ⟨s, hs⟩ := lt_get h1
      obtain ⟨p, hpk⟩ := lt_get (show i < ps.length by rw [HPR.out.len]; exact h1)
      obtain ⟨st, hst⟩ := lt_get (show i < S.length by rw [HhI.out.len]; exact h1)
      have hmxs : s.length ≤ maxLen := by
        have := (of_decide_eq_true (show decide (1 ≤ s.length ∧ s.length ≤ 200) = true from HPR.out.ring.1.fit s (List.mem_of_getElem? hs))).2
        unfold maxLen; omega
      obtain ⟨_, hv, hc, ho⟩ := HPR.out.each i p st hpk hst
      obtain ⟨bn, on, rfl, _, x0⟩ := HPR.out.names.rd.tx rfl hs
      obtain ⟨bs, os, rfl, _, x1⟩ := HPR.out.sta.rd.ptr HPR.out.len hpk
      obtain ⟨Ah, ch, rfl, _, _⟩ := ho.form
      have k0 := hc.at_ 0 rfl
      have k1 := hc.at_ 1 rfl
      have k2 := hc.at_ 2 rfl
      have kl := hc.lt
      have HC := Lib.hid hc
      have hnx : l.take (i + 1) = l.take i ++ [cntOf dn s st] := by rw [HL.out]; exact countsV_next hs hst
      have hdec : ∃ b : Bool, (!decide (s ∈ dn)) = b := ⟨_, rfl⟩
      obtain ⟨b, hb⟩ := hdec
      have haw : ((awayF dn s).getD 0 == 0) = b := by
        rw [← hb]; unfold awayF
        by_cases hd : s ∈ dn
        · simp [hd]
        · simp [hd]
      unfold cntOf at hnx
      rw [hb] at hnx
      have HNX := Lib.hid hnx
      have hOr := Hin.out.own
      have HO := Lib.hid hOr
      have HX1 := Lib.hid (cc_one (s, b, st.L.length, st.sent, st.dropped))
      unfold ks at x0
      clear hs hpk hst hc ho hb hnx hOr
      go_wp2_with (first | ((with_reducible refine wp_region_one 8 (fun g => g = p) [13, 18, 22] 7 ?_ ?_ ?_ ?_ ?_); kernel_rfl; kernel_rfl; kernel_rfl; (with_reducible repeat (first | exact calm_ret | refine calm_then ?_ | refine calm_in ?_ | refine calm_chk ?_ | refine calm_noGoto ?_)); simp only [List.drop_succ_cons, List.drop_zero, List.take_succ_cons, List.take_zero]) | (with_reducible refine segEnd ?_) | (refine And.intro (Keep.one (Mods.refl No _) HC.out.drew (fun e => e)) ?_) | ((with_reducible refine chkM_end (fun g => g = p) ?_ [.pointer (some ⟨p, 0, none⟩), .pointer (some ⟨p, 1, none⟩), .pointer (some ⟨p, 2, none⟩)] ?_ ?_ ?_); kernel_rfl; kernel_rfl; (intro v hv x hx; simp only [List.mem_cons, List.not_mem_nil, or_false] at hv; rcases hv with rfl | rfl | rfl <;> (injection hx with hx; injection hx with hx; subst hx; simp))) | (at_lookup; ((refine wpList_smap _ rfl _ _ rfl Tryd.underlying9 Tryd.underlying72 Tryd.underlying3 zeroInt rfl s rfl HPR.out.away.drew hmxs ?_))) | (at_builtin; ((refine wpList_append _ rfl (.tmp 27) (.tmp 51) 50 rfl 53 (.agg #[.string ⟨#[]⟩, .bool false, .int .i64 0, .int .i64 0, .int .i64 0]) 5 48 Tryd.underlying50 infoCt rfl (by decide) (F := fun g => w.heap.size ≤ g) (n := i) (xs := ccs (l.take i)) (by rfl) (HO.out.mods ((Mods.refl No wr).alloc (.cells #[.string ⟨s.toArray⟩, .bool b, .int .i64 (st.L.length : Int), .int .i64 (st.sent : Int), .int .i64 (st.dropped : Int)] 53)).drew fun _ _ e => e) (G := fun g => g = wr.heap.size) (y := .slice (some ⟨wr.heap.size, 0, none⟩) 1 1) (m := 1) (news := cc (s, b, st.L.length, st.sent, st.dropped)) (by rfl) (Rd.box wr #[.string ⟨s.toArray⟩, .bool b, .int .i64 (st.L.length : Int), .int .i64 (st.sent : Int), .int .i64 (st.dropped : Int)] _ rfl rfl (by decide)) HX1.out (by omega) (by decide) ?_); intro v8 w8 hown8 hm8 _; have HE8 := Lib.hid (Hin.out.more HNX.out ((Mods.refl No wr).alloc (.cells #[.string ⟨s.toArray⟩, .bool b, .int .i64 (st.L.length : Int), .int .i64 (st.sent : Int), .int .i64 (st.dropped : Int)] 53)).drew hown8 hm8); obtain ⟨A8, c8, rfl, _, _⟩ := hown8.form; clear hown8 hm8)) | ((with_reducible refine wp_region_por ?_ ?_ ?_ ?_); kernel_rfl; kernel_rfl; (with_reducible repeat (first | exact calm_ret | refine calm_then ?_ | refine calm_in ?_ | refine calm_chk ?_ | refine calm_noGoto ?_))) | ((with_reducible refine chk_end ?_ ?_); kernel_rfl))
      go_roundg (gk - 1)
      case rel => exact ⟨i + 1, by go_num, h1, by have := Hki.out; omega, HE8.out⟩
      case measure => have := Hki.out; omega
    · obtain rfl : i = N.length := by omega
      have hto : l.take N.length = l := List.take_of_length_le (by rw [Hhll.out]; exact Nat.le_refl _)
      have hO := Hin.out.own
      rw [hto] at hO
      have HO := Lib.hid hO
      clear hO hto
      go_wp2_with (first | ((with_reducible refine wp_region_por ?_ ?_ ?_ ?_); kernel_rfl; kernel_rfl; (with_reducible repeat (first | exact calm_ret | refine calm_then ?_ | refine calm_in ?_ | refine calm_chk ?_ | refine calm_noGoto ?_))) | ((with_reducible refine chk_end ?_ ?_); kernel_rfl))
      go_ret
      exact ⟨HO.out, Hin.out.hm⟩
end Go.Proofs.YtcifajfmdpjfiaaDoor
