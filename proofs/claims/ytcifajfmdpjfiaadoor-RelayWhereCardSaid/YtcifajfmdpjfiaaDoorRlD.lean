/- Package relay: Put. -/
import Derived.Test.YtcifajfmdpjfiaaDoorRlC
namespace Go.Proofs.YtcifajfmdpjfiaaDoor
open Go.RowKit Go.Tum Go.Lib Go.Sort
set_option maxRecDepth 100000
theorem zeroInt (w : World) : (zeroValue 3).run Tryd.prog w = .ok (.int .i64 0) w := by kernel_rfl
def StB (B H : Nat) (S : List Stn) : Prop := ∀ s ∈ S, s.dropped ≤ B ∧ s.L.length ≤ H
theorem mem_modify {α : Type} {f : α → α} {S : List α} {k : Nat} {s : α} (h : s ∈ S.modify k f) : s ∈ S ∨ ∃ s0 ∈ S, s = f s0 := by
  obtain ⟨i, hi, e⟩ := List.getElem_of_mem h
  have h1 : (S.modify k f)[i]? = some s := by rw [List.getElem?_eq_getElem hi, e]
  rw [List.getElem?_modify] at h1
  cases hS : S[i]? with
  | none => rw [hS] at h1; simp at h1
  | some s0 =>
    rw [hS] at h1
    have hm := List.mem_of_getElem? hS
    by_cases hk : k = i
    · simp [hk] at h1
      exact .inr ⟨s0, hm, h1.symm⟩
    · simp [hk] at h1
      exact .inl (h1 ▸ hm)
theorem modify_set {α : Type} {f : α → α} {S : List α} {k : Nat} {s : α} (h : S[k]? = some s) : S.set k (f s) = S.modify k f := by
  apply List.ext_getElem?
  intro j
  rw [List.getElem?_modify]
  by_cases hj : k = j
  · subst hj
    rw [List.getElem?_set_self (List.getElem?_eq_some_iff.1 h).1, h]
    simp
  · rw [List.getElem?_set_ne hj]
    simp [hj]
theorem deal_ok {B H : Nat} {nw : Bool} {x : Rcd} {s : Stn} (h1 : 1 ≤ H) (h : s.dropped ≤ B ∧ s.L.length ≤ H) : (deal H nw x s).dropped ≤ B + 1 ∧ (deal H nw x s).L.length ≤ H := by
  refine ⟨?_, deal_len h1 h.2⟩
  unfold deal
  split
  · have := h.1; dsimp only; omega
  · split <;> (have := h.1; dsimp only; omega)
theorem dealAll_ok {H : Nat} (nw : Bool) (N : List Tx) (x : Rcd) (h1 : 1 ≤ H) : ∀ (l : List Tx) (B : Nat) (S : List Stn), StB B H S → StB (B + l.length) H (dealAll H nw N x l S)
  | [], _, _, h => h
  | s :: l, B, S, h => by
    have h2 : StB (B + 1) H (S.modify (posT N s) (deal H nw x)) := fun t ht => by
      rcases mem_modify ht with e | ⟨t0, e, rfl⟩
      · have := h t e; exact ⟨by omega, this.2⟩
      · exact deal_ok h1 (h t0 e)
    have h3 := dealAll_ok nw N x h1 l (B + 1) _ h2
    intro t ht
    have := h3 t ht
    rw [List.length_cons]
    exact ⟨by omega, this.2⟩
theorem le_sum_mem {S : List Stn} {t : Stn} (h : t ∈ S) : t.dropped ≤ (S.map (·.dropped)).sum := by
  induction S with
  | nil => cases h
  | cons a S ih =>
    rw [List.map_cons, List.sum_cons]
    rcases List.mem_cons.1 h with rfl | h
    · omega
    · have := ih h; omega
theorem RlI.deal {N : List Tx} {S : List Stn} {dn : List Tx} {R H : Nat} (h : RlI N S dn R H) (nw : Bool) (x : Rcd) (l : List Tx) : RlI N (dealAll H nw N x l S) dn R H :=
  ⟨h.r1, h.r2, h.h1, h.h2, by rw [dealAll_len]; exact h.len, fun s hs => (dealAll_ok nw N x h.h1 l (S.map (·.dropped)).sum S (fun t ht => ⟨le_sum_mem ht, h.held t ht⟩) s hs).2, h.nd, h.sub⟩
section
variable {w w' : World} {rb g mb C R H : Nat} {nw : Bool} {N : List Tx} {S : List Stn} {dn : List Tx} {col : Nat → Nat} {ps : List Nat} {nv sv : Value}
theorem RlP.no (h : RlP w rb g mb C R H nw N S dn col ps nv sv) (hm : Mods No w w') : RlP w' rb g mb C R H nw N S dn col ps nv sv :=
  ⟨h.cells.mods hm fun e => e, h.crb, h.ring.no hm, Tum.Own.mods h.names hm fun _ _ e => e, Tum.Own.mods h.sta hm fun _ _ e => e, h.len, fun i p s h1 h2 => ⟨(h.each i p s h1 h2).1, (h.each i p s h1 h2).2.mods hm (fun e => e) fun _ _ _ e => e⟩, h.cmb, h.away.mods hm fun e => e⟩
theorem rmade_K (h : RlP w rb g mb C R H nw N S dn col ps nv sv) : Calls Tryd.prog 30 #[(.pointer (some ⟨rb, 0, none⟩))] w (Ret fun v w' => v = .bool true ∧ w = w') := by
  have c5 := h.cells.at_ 5 rfl
  clear h
  go_enter Tryd.func30, Tryd.ntmps30
  go_wp2_with (first | ((with_reducible refine wp_region_por ?_ ?_ ?_ ?_); kernel_rfl; kernel_rfl; (with_reducible repeat (first | exact calm_ret | refine calm_then ?_ | refine calm_in ?_ | refine calm_chk ?_ | refine calm_noGoto ?_))) | ((with_reducible refine chk_end ?_ ?_); kernel_rfl))
  go_ret
  exact ⟨rfl, rfl⟩
theorem pickN_K {F : Nat → Prop} (h : RingK w g C N F) (s : Tx) (hsl : s.length ≤ maxLen) {P : List Tx} (hP : P = allV (placesOf C N) (fnv64 s)) :
    Calls Tryd.prog 31 #[(.pointer (some ⟨g, 0, none⟩)), ks s, .int .i64 (N.length : Int)] w (Ret fun v w' => Own w' (fun b => w.heap.size ≤ b) 9 1 v N.length (P.map ks) ∧ Mods No w w') := by
  have h1 := pick_K w g C N s (N.length : Int) F h hsl
  have hl : P.length = N.length := by rw [hP]; exact (allV_perm h.1.c1 (h.1.strict.nodup sto_T) _).length_eq
  rw [pick_take, ← hP, Int.toNat_natCast, ← hl, List.take_length] at h1
  rw [← hl]
  exact h1
end
/-- Between two rounds of Put's loop. -/
structure PuI (W wr : World) (rb g mb C R H : Nat) (nw : Bool) (N : List Tx) (S : List Stn) (dn : List Tx) (c0 : Nat → Nat) (ps : List Nat) (nv sv : Value) (x : Rcd) (P : List Tx) (i : Nat) : Prop where
  rp : ∃ col, RlP wr rb g mb C R H nw N (dealAll H nw N x (wants dn R (P.take i)) S) dn col ps nv sv ∧ ∀ b, b < W.heap.size → col b = c0 b
  hm : Mods (fun b => c0 b ≠ 0) W wr
theorem PuI.skip {W wr : World} {rb g mb C R H i : Nat} {nw : Bool} {N : List Tx} {S : List Stn} {dn : List Tx} {c0 : Nat → Nat} {ps : List Nat} {nv sv : Value} {x : Rcd} {P : List Tx} (h : PuI W wr rb g mb C R H nw N S dn c0 ps nv sv x P i) {s : Tx} (hs : P[i]? = some s) (he : s ∈ dn ∨ (wants dn R (P.take i)).length = R) :
    PuI W wr rb g mb C R H nw N S dn c0 ps nv sv x P (i + 1) ∧ (wants dn R (P.take (i + 1))).length = (wants dn R (P.take i)).length := by
  have e : wants dn R (P.take (i + 1)) = wants dn R (P.take i) := by rw [take_nx hs, wants_snoc, if_pos he]
  exact ⟨⟨by rw [e]; exact h.rp, h.hm⟩, by rw [e]⟩
theorem PuI.next {W wr w0 w' : World} {rb g mb C R H i k p : Nat} {nw : Bool} {N : List Tx} {S : List Stn} {dn : List Tx} {c0 col : Nat → Nat} {ps : List Nat} {nv sv : Value} {x : Rcd} {P : List Tx} {s : Tx} {st : Stn} (hm : Mods (fun b => c0 b ≠ 0) W wr)
    (hp : RlP wr rb g mb C R H nw N (dealAll H nw N x (wants dn R (P.take i)) S) dn col ps nv sv) (hc : ∀ b, b < W.heap.size → col b = c0 b) (hs : P[i]? = some s) (he : ¬ (s ∈ dn ∨ (wants dn R (P.take i)).length = R)) (hk : N[k]? = some s) (hpk : ps[k]? = some p)
    (hst : (dealAll H nw N x (wants dn R (P.take i)) S)[k]? = some st) (ht : 1 < wr.heap.size) (h0 : Mods No wr w0) (hd : Dealt w0 w' (fun b => col b = 3 + k) p (deal H nw x st)) :
    PuI W w' rb g mb C R H nw N S dn c0 ps nv sv x P (i + 1) ∧ (wants dn R (P.take (i + 1))).length = (wants dn R (P.take i)).length + 1 := by
  have e : wants dn R (P.take (i + 1)) = wants dn R (P.take i) ++ [s] := by rw [take_nx hs, wants_snoc, if_neg he]
  have hcp := (hp.each k p st hpk hst).1
  have hsz := h0.size
  have hm2 : Mods (fun b => col b = 3 + k) wr w' := (h0.mono fun _ _ e => e.elim).trans hd.2 fun b _ e => by
    rcases e with e | e
    · rw [e]; exact hcp
    · exact e
  have hki : k < (dealAll H nw N x (wants dn R (P.take i)) S).length := (List.getElem?_eq_some_iff.1 hst).1
  have h1 := hp.step (mid := 0) (s' := deal H nw x st) hpk hki ht (hd.1.more fun b _ e => by
    rcases Nat.lt_or_ge b wr.heap.size with h | h
    · rcases e with e | e
      · exact .inl ⟨h, e⟩
      · omega
    · exact .inr ⟨h, Nat.zero_le _⟩) hm2
  have e2 : (dealAll H nw N x (wants dn R (P.take i)) S).set k (deal H nw x st) = dealAll H nw N x (wants dn R (P.take (i + 1))) S := by
    rw [e, dealAll_snoc, pos_at hp.ring.1.strict hk]
    exact modify_set hst
  rw [e2] at h1
  refine ⟨⟨⟨_, h1, fun b hb => ?_⟩, hm.trans hm2 fun b hb e => ?_⟩, by rw [e, List.length_append, List.length_singleton]⟩
  · rw [recol2_old (Nat.lt_of_lt_of_le hb hm.size)]; exact hc b hb
  · rw [← hc b hb]; omega
set_option maxHeartbeats 6400000 in
theorem relput_K (w : World) (rb C R H : Nat) (nw : Bool) (N : List Tx) (S : List Stn) (dn : List Tx) (F : Nat → Prop) (x : Rcd) (h : RelK w rb C R H nw N S dn F) (hx : x.1.length ≤ maxLen) (hB : StB 2305843009213693952 H S) :
    Calls Tryd.prog 13 #[(.pointer (some ⟨rb, 0, none⟩)), rv x] w (Ret fun v w' => v = .int .i64 ((wants dn R (allV (placesOf C N) (fnv64 x.1))).length : Int) ∧ RelK w' rb C R H nw N (dealAll H nw N x (wants dn R (allV (placesOf C N) (fnv64 x.1))) S) dn (Ext F w.heap.size) ∧ Mods F w w') := by
  obtain ⟨hI, ht, g, mb, col, ps, nv, sv, hp, hF⟩ := h
  obtain ⟨P, hP⟩ : ∃ P, P = allV (placesOf C N) (fnv64 x.1) := ⟨_, rfl⟩
  have hPp : P.Perm N := by rw [hP]; exact allV_perm hp.ring.1.c1 (hp.ring.1.strict.nodup sto_T) _
  have hPl : P.length = N.length := hPp.length_eq
  have hN64 := hp.ring.1.small
  have hM0 : Mods No w (w.alloc (.cells #[.string ⟨x.1.toArray⟩, .int .i64 x.2.1, .int .u64 x.2.2.1, .int .i64 x.2.2.2] 45)) := (Mods.refl No w).alloc _
  have hbx := Cells.new w 45 #[.string ⟨x.1.toArray⟩, .int .i64 x.2.1, .int .u64 x.2.2.1, .int .i64 x.2.2.2]
  have hmade := rmade_K (hp.no hM0)
  have hpick := fun w' (hm : Mods No w w') => pickN_K (hp.ring.no hm) x.1 hx hP
  rw [← hP]
  have b0 := hbx.at_ 0 rfl
  have c5 := hp.cells.at_ 5 rfl
  have c6 := hp.cells.at_ 6 rfl
  have rl := hp.cells.lt
  obtain ⟨An, cn, rfl, _, _⟩ := hp.names.form
  have HBX := Lib.hid hbx
  have HP := Lib.hid hP
  have HPp := Lib.hid hPp
  clear hbx hP hPp
  unfold rv
  have Hhp := Lib.hid hp
  clear hp
  have HhI := Lib.hid hI
  clear hI
  have HhF := Lib.hid hF
  clear hF
  have HhM0 := Lib.hid hM0
  clear hM0
  have Hhmade := Lib.hid hmade
  clear hmade
  have Hhpick := Lib.hid hpick
  clear hpick
  have HhB := Lib.hid hB
  clear hB
  unfold ks at Hhpick ⊢
  go_enter Tryd.func13, Tryd.ntmps13
  go_wp2_with (first | (go_at_call 30; (refine ret_use (Hhmade.out) ?_; rintro v w2 ⟨rfl, rfl⟩)) | (go_at_call 31; (refine ret_use (Hhpick.out _ HhM0.out.drew) ?_; rintro v w3 ⟨ho3, hm3⟩; have HO3 := Lib.hid ho3; have HM3 := Lib.hid (HhM0.out.drew.trans hm3 fun _ _ e => e); have HBX3 := Lib.hid (HBX.out.drew.mods hm3 fun e => e); obtain ⟨A3, c3, rfl, _, _⟩ := ho3.form; clear ho3 hm3)) | ((with_reducible refine wp_region_por ?_ ?_ ?_ ?_); kernel_rfl; kernel_rfl; (with_reducible repeat (first | exact calm_ret | refine calm_then ?_ | refine calm_in ?_ | refine calm_chk ?_ | refine calm_noGoto ?_))) | ((with_reducible refine chk_end ?_ ?_); kernel_rfl))
  obtain ⟨c0, hc0⟩ : ∃ c0, c0 = recol2 w.heap.size w3.heap.size col 0 := ⟨_, rfl⟩
  have hp0 := Hhp.out.mods HM3.out (fun b _ e => e.elim) ht
  rw [← hc0] at hp0
  have HC0 := Lib.hid hc0
  have hz0 : ∀ b, w.heap.size ≤ b → c0 b = 0 := fun b hb => by
    rw [hc0]; unfold recol2; rw [if_neg (by omega)]
    split <;> rfl
  have HZ0 := Lib.hid hz0
  have HP0 := Lib.hid hp0
  have hs3 := HM3.out.size
  have HPU := Lib.hid (show PuI w3 w3 rb g mb C R H nw N S dn c0 ps (.slice An N.length cn) sv x P 0 from ⟨⟨c0, by rw [show wants dn R (P.take 0) = [] by simp [wants]]; exact hp0, fun _ _ => rfl⟩, Mods.refl _ _⟩)
  clear hc0 hz0 hp0 b0 c5 c6
  go_loopg [5, 24] P.length (fun k v5 v24 wr => ∃ i c : Nat, v24 = .int .i64 i ∧ v5 = .int .i64 c ∧ i ≤ P.length ∧ k + i = P.length ∧ c = (wants dn R (P.take i)).length ∧ PuI w3 wr rb g mb C R H nw N S dn c0 ps (.slice An N.length cn) sv x P i)
  case atStart => exact ⟨0, 0, rfl, rfl, Nat.zero_le _, rfl, by simp [wants], HPU.out⟩
  case round =>
    obtain ⟨i, c, rfl, rfl, hi, hki, hc, hin⟩ := hrel
    have Hki := Lib.hid hki
    have HCc := Lib.hid hc
    have HIn := Lib.hid hin
    have hcR : c ≤ R := by rw [hc]; exact wants_le _ _ _
    have hR8 := HhI.out.r2
    obtain ⟨⟨cl, hpr, hcl⟩, hmr⟩ := hin
    have HPR := Lib.hid hpr
    have HCL := Lib.hid hcl
    have HMR := Lib.hid hmr
    have hOr := Tum.Own.mods HO3.out hmr fun b hb e => e (HZ0.out b (Nat.le_trans HhM0.out.drew.size (HO3.out.2 b hb)))
    have HOR := Lib.hid hOr
    have r4 := hpr.cells.at_ 8 rfl
    have r2 := hpr.cells.at_ 2 rfl
    have rrl := hpr.cells.lt
    clear hki hc hpr hcl hmr hOr
    rcases Nat.lt_or_ge i P.length with h1 | h1
    · obtain ⟨s, hs⟩ := lt_get h1
      have hsN : s ∈ N := HPp.out.mem_iff.1 (List.mem_of_getElem? hs)
      have hmxs : s.length ≤ maxLen := by
        have := (of_decide_eq_true (show decide (1 ≤ s.length ∧ s.length ≤ 200) = true from HPR.out.ring.1.fit s hsN)).2
        unfold maxLen; omega
      obtain ⟨bp, op, rfl, _, x0⟩ := HOR.out.rd.tx hPl hs
      unfold ks at x0
      have HS := Lib.hid hs
      by_cases hd : s ∈ dn
      · have haw : (awayF dn s).getD 0 = 1 := by unfold awayF; rw [if_pos hd]; rfl
        have HSK := Lib.hid (HIn.out.skip hs (.inl hd))
        clear hd hs hsN
        go_wp2_with (first | (at_lookup; ((refine wpList_smap _ rfl _ _ rfl Tryd.underlying9 Tryd.underlying72 Tryd.underlying3 zeroInt rfl s rfl HPR.out.away hmxs ?_))) | ((with_reducible refine wp_region_por ?_ ?_ ?_ ?_); kernel_rfl; kernel_rfl; (with_reducible repeat (first | exact calm_ret | refine calm_then ?_ | refine calm_in ?_ | refine calm_chk ?_ | refine calm_noGoto ?_))) | ((with_reducible refine chk_end ?_ ?_); kernel_rfl))
        go_roundg (gk - 1)
        case rel => exact ⟨i + 1, c, by go_num, rfl, h1, by have := Hki.out; omega, by rw [HSK.out.2]; exact HCc.out, HSK.out.1⟩
        case measure => have := Hki.out; omega
      · have haw : (awayF dn s).getD 0 = 0 := by unfold awayF; rw [if_neg hd]; rfl
        by_cases hR : c = R
        · have HSK := Lib.hid (HIn.out.skip hs (.inr (by rw [← HCc.out]; exact hR)))
          have hR' : ((c : Int) == (R : Int)) = true := by simp [hR]
          clear hd hs hsN hR
          go_wp2_with (first | (at_lookup; ((refine wpList_smap _ rfl _ _ rfl Tryd.underlying9 Tryd.underlying72 Tryd.underlying3 zeroInt rfl s rfl HPR.out.away hmxs ?_))) | ((with_reducible refine wp_region_por ?_ ?_ ?_ ?_); kernel_rfl; kernel_rfl; (with_reducible repeat (first | exact calm_ret | refine calm_then ?_ | refine calm_in ?_ | refine calm_chk ?_ | refine calm_noGoto ?_))) | ((with_reducible refine chk_end ?_ ?_); kernel_rfl))
          go_roundg (gk - 1)
          case rel => exact ⟨i + 1, c, by go_num, rfl, h1, by have := Hki.out; omega, by rw [HSK.out.2]; exact HCc.out, HSK.out.1⟩
          case measure => have := Hki.out; omega
        · have hR' : ((c : Int) == (R : Int)) = false := by simp; omega
          have hne := not_or.2 ⟨hd, fun e => hR (by rw [HCc.out]; exact e)⟩
          obtain ⟨k, hk⟩ : ∃ k, N[k]? = some s := List.getElem?_of_mem hsN
          have hkN : k < N.length := (List.getElem?_eq_some_iff.1 hk).1
          obtain ⟨p, hpk⟩ := lt_get (show k < ps.length by rw [HPR.out.len]; exact hkN)
          obtain ⟨st, hst⟩ := lt_get (show k < (dealAll H nw N x (wants dn R (P.take i)) S).length by rw [dealAll_len, HhI.out.len]; exact hkN)
          have hok := dealAll_ok nw N x HhI.out.h1 (wants dn R (P.take i)) _ S HhB.out st (List.mem_of_getElem? hst)
          have hsta := fun w' (hm : Mods No wr w') => station_some (HPR.out.no hm) hk hpk
          have hdl := fun w' (hm : Mods No wr w') => deal_K w' (fun b => cl b = 3 + k) rb p H nw _ st x (HPR.out.no hm).cells rfl rfl (((HPR.out.no hm).each k p st hpk hst).2) HhI.out.h1 HhI.out.h2 hok.2 (by have e1 := hok.1; have e2 := HhI.out.r2; rw [← HCc.out] at e1; omega)
          have HK := Lib.hid (And.intro hk (And.intro hpk hst))
          have HNE := Lib.hid hne
          have hbr := HBX3.out.mods HMR.out (fun e => e (HZ0.out _ (Nat.le_refl _)))
          have HBR := Lib.hid hbr
          have d0 := hbr.at_ 0 rfl
          have d1 := hbr.at_ 1 rfl
          have d2 := hbr.at_ 2 rfl
          have d3 := hbr.at_ 3 rfl
          have dl := hbr.lt
          unfold rv at hdl
          clear hd hs hsN hR hne hk hpk hst hok hbr
          have Hhsta := Lib.hid hsta
          clear hsta
          have Hhdl := Lib.hid hdl
          clear hdl
          unfold ks at Hhsta Hhdl
          go_wp2_with (first | (at_lookup; ((refine wpList_smap _ rfl _ _ rfl Tryd.underlying9 Tryd.underlying72 Tryd.underlying3 zeroInt rfl s rfl HPR.out.away hmxs ?_))) | ((with_reducible refine wp_region_one 8 (fun g => g = w.heap.size) [4] 3 ?_ ?_ ?_ ?_ ?_); kernel_rfl; kernel_rfl; kernel_rfl; (with_reducible repeat (first | exact calm_ret | refine calm_then ?_ | refine calm_in ?_ | refine calm_chk ?_ | refine calm_noGoto ?_)); simp only [List.drop_succ_cons, List.drop_zero, List.take_succ_cons, List.take_zero]) | (with_reducible refine segEnd ?_) | (refine And.intro (Keep.one (Mods.refl No _) HBR.out.drew (fun e => e)) ?_) | ((with_reducible refine chkM_end (fun g => g = w.heap.size) ?_ [.pointer (some ⟨w.heap.size, 0, none⟩)] ?_ ?_ ?_); kernel_rfl; kernel_rfl; (intro v hv x hx; simp only [List.mem_cons, List.not_mem_nil, or_false] at hv; subst hv; (injection hx with hx; injection hx with hx; subst hx; simp))) | (go_at_call 33; (refine ret_use (Hhsta.out _ (Mods.refl No wr).drew) ?_; rintro v w5 ⟨rfl, rfl⟩)) | (go_at_call 32; (refine ret_use (Hhdl.out _ (Mods.refl No wr).drew) ?_; rintro v w6 hd6; have HN6 := Lib.hid (PuI.next HMR.out HPR.out HCL.out HS.out HNE.out HK.out.1 HK.out.2.1 HK.out.2.2 (Nat.lt_of_lt_of_le ht (Nat.le_trans HM3.out.size HMR.out.size)) (Mods.refl No wr).drew hd6); clear hd6)) | ((with_reducible refine wp_region_por ?_ ?_ ?_ ?_); kernel_rfl; kernel_rfl; (with_reducible repeat (first | exact calm_ret | refine calm_then ?_ | refine calm_in ?_ | refine calm_chk ?_ | refine calm_noGoto ?_))) | ((with_reducible refine chk_end ?_ ?_); kernel_rfl))
          go_roundg (gk - 1)
          case rel => exact ⟨i + 1, c + 1, by go_num, by go_num, h1, by have := Hki.out; omega, by rw [HN6.out.2, ← HCc.out], HN6.out.1⟩
          case measure => have := Hki.out; omega
    · obtain rfl : i = P.length := by omega
      go_wp2_with (first | ((with_reducible refine wp_region_por ?_ ?_ ?_ ?_); kernel_rfl; kernel_rfl; (with_reducible repeat (first | exact calm_ret | refine calm_then ?_ | refine calm_in ?_ | refine calm_chk ?_ | refine calm_noGoto ?_))) | ((with_reducible refine chk_end ?_ ?_); kernel_rfl))
      go_ret
      have hto : P.take P.length = P := List.take_length
      have hcc := HCc.out
      rw [hto] at hcc
      have hpe := HPR.out
      rw [hto] at hpe
      refine ⟨by rw [← hcc]; rfl, ⟨HhI.out.deal nw x _, Nat.lt_of_lt_of_le ht (Nat.le_trans HM3.out.size HMR.out.size), g, mb, cl, ps, _, sv, hpe, fun b hb e => ?_⟩, HM3.out.mono (fun _ _ e => e.elim) |>.trans HMR.out fun b hb e => ?_⟩
      · rcases Nat.lt_or_ge b w.heap.size with h2 | h2
        · rw [HCL.out b (Nat.lt_of_lt_of_le h2 hs3), HC0.out, recol2_old h2] at e
          exact .inl (HhF.out b h2 e)
        · exact .inr h2
      · rw [HC0.out, recol2_old hb] at e
        exact HhF.out b hb e
end Go.Proofs.YtcifajfmdpjfiaaDoor
