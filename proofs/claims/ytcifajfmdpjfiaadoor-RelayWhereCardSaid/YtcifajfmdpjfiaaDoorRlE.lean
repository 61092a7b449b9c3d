/- Package relay: Take. -/
import Derived.Test.YtcifajfmdpjfiaaDoorRlD
namespace Go.Proofs.YtcifajfmdpjfiaaDoor
open Go.RowKit Go.Tum Go.Lib Go.Sort
set_option maxRecDepth 100000
def takeE (N dn : List Tx) (s : Tx) (n : Int) : Int := if s ∉ N then 240 else if s ∈ dn then 242 else if n < 1 then 1 else 0
/-- What Take tells. -/
def TakeIs (w w' : World) (rb C R H : Nat) (nw : Bool) (N : List Tx) (S : List Stn) (dn : List Tx) (F : Nat → Prop) (s : Tx) (n : Int) (v : Value) : Prop :=
  (takeE N dn s n ≠ 0 ∧ v = .tuple #[.slice none 0 0, .int .i64 (takeE N dn s n)] ∧ RelK w' rb C R H nw N S dn F ∧ Mods No w w') ∨
  (takeE N dn s n = 0 ∧ ∃ (k m mid : Nat) (st : Stn) (A : Option Addr) (c : Nat), N[k]? = some s ∧ S[k]? = some st ∧ (m : Int) = min n st.L.length ∧ v = .tuple #[.slice A m c, .int .i64 0] ∧ w.heap.size ≤ mid ∧
    Own w' (Rng w.heap.size mid) 45 4 (.slice A m c) m (rcs (st.L.take m)) ∧ RelK w' rb C R H nw N (S.set k (takeS m st).2) dn (fun b => F b ∨ mid ≤ b) ∧ Mods F w w')
theorem takeS_ok {m : Nat} {s : Stn} (hm : m ≤ s.L.length) : (takeS m s).2 = ⟨s.L.drop m, s.sent + m, s.dropped⟩ := by unfold takeS; rw [List.length_take, Nat.min_eq_left hm]
theorem mem_set_or {α : Type} {S : List α} {k : Nat} {a b : α} (h : b ∈ S.set k a) : b = a ∨ b ∈ S := by
  rcases List.mem_or_eq_of_mem_set h with e | e
  · exact .inr e
  · exact .inl e
theorem RlI.take {N : List Tx} {S : List Stn} {dn : List Tx} {R H : Nat} (h : RlI N S dn R H) {k m : Nat} {st : Stn} (hk : S[k]? = some st) : RlI N (S.set k (takeS m st).2) dn R H :=
  ⟨h.r1, h.r2, h.h1, h.h2, by rw [List.length_set]; exact h.len, fun s hs => by
    rcases mem_set_or hs with rfl | e
    · have := h.held st (List.mem_of_getElem? hk)
      unfold takeS; rw [List.length_drop]; omega
    · exact h.held s e, h.nd, h.sub⟩
set_option maxHeartbeats 6400000 in
theorem take_K (w : World) (rb C R H : Nat) (nw : Bool) (N : List Tx) (S : List Stn) (dn : List Tx) (F : Nat → Prop) (s : Tx) (n : Int) (h : RelK w rb C R H nw N S dn F) (hB : ∀ t ∈ S, t.sent ≤ 2305843009213693952) :
    Calls Tryd.prog 14 #[(.pointer (some ⟨rb, 0, none⟩)), ks s, .int .i64 n] w (Ret fun v w' => TakeIs w w' rb C R H nw N S dn F s n v) := by
  have hR := h
  obtain ⟨hI, ht, g, mb, col, ps, nv, sv, hp, hF⟩ := h
  have hmade := rmade_K hp
  by_cases hs : s ∈ N
  · have hmxs : s.length ≤ maxLen := by
      have := (of_decide_eq_true (show decide (1 ≤ s.length ∧ s.length ≤ 200) = true from hp.ring.1.fit s hs)).2
      unfold maxLen; omega
    obtain ⟨k, hk⟩ : ∃ k, N[k]? = some s := List.getElem?_of_mem hs
    have hkN : k < N.length := (List.getElem?_eq_some_iff.1 hk).1
    obtain ⟨p, hpk⟩ := lt_get (show k < ps.length by rw [hp.len]; exact hkN)
    obtain ⟨st, hst⟩ := lt_get (show k < S.length by rw [hI.len]; exact hkN)
    have hsta := station_some hp hk hpk
    have r8 := hp.cells.at_ 8 rfl
    have rl := hp.cells.lt
    by_cases hd : s ∈ dn
    · have haw : (awayF dn s).getD 0 = 1 := by unfold awayF; rw [if_pos hd]; rfl
      have He := Lib.hid (show takeE N dn s n = 242 by unfold takeE; rw [if_neg (by simpa using hs), if_pos hd])
      clear hd hs hk hpk hst
      have Hhp := Lib.hid hp
      clear hp
      have HhI := Lib.hid hI
      clear hI
      have HhF := Lib.hid hF
      clear hF
      have Hhmade := Lib.hid hmade
      clear hmade
      have Hhsta := Lib.hid hsta
      clear hsta
      have HhR := Lib.hid hR
      clear hR
      have HhB := Lib.hid hB
      clear hB
      unfold ks at *
      go_enter Tryd.func14, Tryd.ntmps14
      go_wp2_with (first | (go_at_call 30; (refine ret_use (Hhmade.out) ?_; rintro v w2 ⟨rfl, rfl⟩)) | (go_at_call 33; (refine ret_use (Hhsta.out) ?_; rintro v w3 ⟨rfl, rfl⟩)) | (at_lookup; ((refine wpList_smap _ rfl _ _ rfl Tryd.underlying9 Tryd.underlying72 Tryd.underlying3 zeroInt rfl s rfl Hhp.out.away hmxs ?_))) | ((with_reducible refine wp_region_por ?_ ?_ ?_ ?_); kernel_rfl; kernel_rfl; (with_reducible repeat (first | exact calm_ret | refine calm_then ?_ | refine calm_in ?_ | refine calm_chk ?_ | refine calm_noGoto ?_))) | ((with_reducible refine chk_end ?_ ?_); kernel_rfl))
      go_ret2
      exact .inl ⟨by rw [He.out]; decide, by rw [He.out]; rfl, HhR.out, Mods.refl _ _⟩
    · have haw : (awayF dn s).getD 0 = 0 := by unfold awayF; rw [if_neg hd]; rfl
      by_cases hn : n < 1
      · have hn' : decide (n < 1) = true := decide_eq_true hn
        have He := Lib.hid (show takeE N dn s n = 1 by unfold takeE; rw [if_neg (by simpa using hs), if_neg hd, if_pos hn])
        clear hd hs hk hpk hst
        have Hhp := Lib.hid hp
        clear hp
        have HhI := Lib.hid hI
        clear hI
        have HhF := Lib.hid hF
        clear hF
        have Hhmade := Lib.hid hmade
        clear hmade
        have Hhsta := Lib.hid hsta
        clear hsta
        have HhR := Lib.hid hR
        clear hR
        have HhB := Lib.hid hB
        clear hB
        unfold ks at *
        go_enter Tryd.func14, Tryd.ntmps14
        go_wp2_with (first | (go_at_call 30; (refine ret_use (Hhmade.out) ?_; rintro v w2 ⟨rfl, rfl⟩)) | (go_at_call 33; (refine ret_use (Hhsta.out) ?_; rintro v w3 ⟨rfl, rfl⟩)) | (at_lookup; ((refine wpList_smap _ rfl _ _ rfl Tryd.underlying9 Tryd.underlying72 Tryd.underlying3 zeroInt rfl s rfl Hhp.out.away hmxs ?_))) | ((with_reducible refine wp_region_por ?_ ?_ ?_ ?_); kernel_rfl; kernel_rfl; (with_reducible repeat (first | exact calm_ret | refine calm_then ?_ | refine calm_in ?_ | refine calm_chk ?_ | refine calm_noGoto ?_))) | ((with_reducible refine chk_end ?_ ?_); kernel_rfl))
        go_ret2
        exact .inl ⟨by rw [He.out]; decide, by rw [He.out]; rfl, HhR.out, Mods.refl _ _⟩
      · have hn' : decide (n < 1) = false := decide_eq_false hn
        have He := Lib.hid (show takeE N dn s n = 0 by unfold takeE; rw [if_neg (by simpa using hs), if_neg hd, if_neg hn])
        obtain ⟨m, hm⟩ : ∃ m : Nat, (m : Int) = min n st.L.length := ⟨(min n st.L.length).toNat, by omega⟩
        have hmle : m ≤ st.L.length := by omega
        have hheld := hI.held st (List.mem_of_getElem? hst)
        have hsent := hB st (List.mem_of_getElem? hst)
        have hH := hI.h2
        obtain ⟨cp, hv, hc, ho⟩ := hp.each k p st hpk hst
        have htk := qtake_K w (fun b => col b = 3 + k) p m hv _ _ st.L n hc ho (by omega) (by omega) (by omega)
        have HK := Lib.hid (And.intro hk (And.intro hpk hst))
        have Hm := Lib.hid hm
        have Hcp := Lib.hid cp
        have Hmle := Lib.hid hmle
        have hm6 : m ≤ 65536 := by omega
        clear hd hs hk hpk hst hm hn hc ho cp hheld hmle
        have Hhp := Lib.hid hp
        clear hp
        have HhI := Lib.hid hI
        clear hI
        have HhF := Lib.hid hF
        clear hF
        have Hhmade := Lib.hid hmade
        clear hmade
        have Hhsta := Lib.hid hsta
        clear hsta
        have HhR := Lib.hid hR
        clear hR
        have HhB := Lib.hid hB
        clear hB
        have Hhtk := Lib.hid htk
        clear htk
        unfold ks at *
        go_enter Tryd.func14, Tryd.ntmps14
        go_wp2_with (first | (go_at_call 30; (refine ret_use (Hhmade.out) ?_; rintro v w2 ⟨rfl, rfl⟩)) | (go_at_call 33; (refine ret_use (Hhsta.out) ?_; rintro v w3 ⟨rfl, rfl⟩)) | (at_lookup; ((refine wpList_smap _ rfl _ _ rfl Tryd.underlying9 Tryd.underlying72 Tryd.underlying3 zeroInt rfl s rfl Hhp.out.away hmxs ?_))) | (go_at_call 34; (refine ret_use (Hhtk.out) ?_; rintro v w4 ⟨hv4, mid, hmid, hout, ho4, hc4, hm4⟩; have HOut := Lib.hid hout; have HO4 := Lib.hid ho4; have HC4 := Lib.hid hc4; have HM4 := Lib.hid hm4; have k1 := hc4.at_ 1 rfl; have kf := hc4.frozen 1; have kl := hc4.lt; obtain ⟨A4, c4, rfl, _, _⟩ := hout.form; clear hout ho4 hc4 hm4)) | ((with_reducible refine wp_region_por ?_ ?_ ?_ ?_); kernel_rfl; kernel_rfl; (with_reducible repeat (first | exact calm_ret | refine calm_then ?_ | refine calm_in ?_ | refine calm_chk ?_ | refine calm_noGoto ?_))) | ((with_reducible refine chk_end ?_ ?_); kernel_rfl))
        go_ret2
        have hpl := HC4.out.lt
        have hp0 : p < w.heap.size := ((Hhp.out.each k p st HK.out.2.1 HK.out.2.2).2).lt
        have hO : (Value.slice A4 m c4).ownBlock ≠ some p := fun e => by have := (HOut.out.2 p e).1; omega
        have hV : hv4.ownBlock ≠ some p := fun e => by have := HO4.out.2 p e; omega
        have hM : Mods (fun b => col b = 3 + k) w (w4.setCell ⟨p, 1, none⟩ (.int .i64 ((st.sent : Int) + (m : Int)))) := (HM4.out.mono fun b _ e => by rw [e]; exact Hcp.out).setCell _ _ fun _ => Hcp.out
        have hS : StK (w4.setCell ⟨p, 1, none⟩ (.int .i64 ((st.sent : Int) + (m : Int)))) (fun b => (b < w.heap.size ∧ col b = 3 + k) ∨ (w.heap.size ≤ b ∧ mid ≤ b)) p (takeS m st).2 := by
          rw [takeS_ok Hmle.out]
          refine ⟨hv4, HC4.out.set_ 1 _, ?_⟩
          have h1 := (HO4.out.far (p := ⟨p, 1, none⟩) hV (.int .i64 ((st.sent : Int) + (m : Int)))).more (G := fun b => (b < w.heap.size ∧ col b = 3 + k) ∨ (w.heap.size ≤ b ∧ mid ≤ b)) fun b e => .inr ⟨Nat.le_trans hmid e, e⟩
          rw [← List.length_drop] at h1
          exact h1
        have hstep := Hhp.out.step HK.out.2.1 (List.getElem?_eq_some_iff.1 HK.out.2.2).1 ht hS hM
        refine .inr ⟨He.out, k, m, mid, st, A4, c4, HK.out.1, HK.out.2.2, Hm.out, rfl, hmid, HOut.out.far hO _, ⟨HhI.out.take HK.out.2.2, Nat.lt_of_lt_of_le ht hM.size, g, mb, _, ps, nv, sv, hstep, fun b hb e => ?_⟩, hM.mono fun b hb e => HhF.out b hb (by omega)⟩
        rcases recol2_ne e with ⟨e1, e2⟩ | ⟨e1, e2⟩
        · exact .inl (HhF.out b e1 e2)
        · exact .inr e2
  · have He := Lib.hid (show takeE N dn s n = 240 by unfold takeE; rw [if_pos hs])
    have hsta := station_none hp hs
    clear hs
    have Hhp := Lib.hid hp
    clear hp
    have HhI := Lib.hid hI
    clear hI
    have HhF := Lib.hid hF
    clear hF
    have Hhmade := Lib.hid hmade
    clear hmade
    have Hhsta := Lib.hid hsta
    clear hsta
    have HhR := Lib.hid hR
    clear hR
    have HhB := Lib.hid hB
    clear hB
    unfold ks at *
    go_enter Tryd.func14, Tryd.ntmps14
    go_wp2_with (first | (go_at_call 30; (refine ret_use (Hhmade.out) ?_; rintro v w2 ⟨rfl, rfl⟩)) | (go_at_call 33; (refine ret_use (Hhsta.out) ?_; rintro v w3 ⟨rfl, rfl⟩)) | ((with_reducible refine wp_region_por ?_ ?_ ?_ ?_); kernel_rfl; kernel_rfl; (with_reducible repeat (first | exact calm_ret | refine calm_then ?_ | refine calm_in ?_ | refine calm_chk ?_ | refine calm_noGoto ?_))) | ((with_reducible refine chk_end ?_ ?_); kernel_rfl))
    go_ret2
    exact .inl ⟨by rw [He.out]; decide, by rw [He.out]; rfl, HhR.out, Mods.refl _ _⟩
end Go.Proofs.YtcifajfmdpjfiaaDoor
