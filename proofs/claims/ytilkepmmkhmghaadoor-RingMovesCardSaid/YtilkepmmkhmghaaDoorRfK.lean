/- The law RingMoves, walked. -/
import Derived.Test.YtilkepmmkhmghaaDoorRfE
import Derived.Test.YtilkepmmkhmghaaDoorRgT
import Derived.Test.YtilkepmmkhmghaaDoorRing9
namespace Go.Proofs.YtilkepmmkhmghaaDoor
open Go.RowKit Go.Tum Go.Lib Go.Sort
set_option maxRecDepth 100000
abbrev Rng_ (lo hi : Nat) : Nat → Prop := fun g => lo ≤ g ∧ g < hi
theorem rnew_bad_ {w1 w2 : World} {l : List Tx} {n : Int} {v : Value} (h : RNewIs w1 w2 l n v) {e : Int} (he : e = newE l n) : ∃ (cc : Int) (A B : Option Addr) (na ca nb cb : Nat), v = .tuple #[.agg #[.int .i64 cc, .slice A na ca, .slice B nb cb], .int .i64 e] ∧ Mods No w1 w2 := by
  subst he
  obtain ⟨cc, A, B, na, ca, nb, cb, rfl, hm, _⟩ := h
  exact ⟨cc, A, B, na, ca, nb, cb, rfl, hm⟩
theorem RingK.bound_ {w : World} {q c : Nat} {N : List Tx} {F G : Nat → Prop} (h : RingK w q c N F) (hs : ∀ g, g < w.heap.size → F g → G g) (h1 : ¬ G 1) : RingK w q c N G := by
  obtain ⟨hi, nv, pv, h⟩ := h
  exact ⟨hi, nv, pv, h.cells, ⟨h.nown.1, fun g hg => hs g (h.nown.lt g hg) (h.nown.2 g hg)⟩, ⟨h.pown.1, fun g hg => hs g (h.pown.lt g hg) (h.pown.2 g hg)⟩, hs q h.cells.lt h.fq, h1⟩
/-- Between two rounds of the loop that turns the nodes round. -/
structure TuI (W wr : World) (l : List Tx) (i : Nat) (v : Value) : Prop where
  own : Own wr (fun g => W.heap.size ≤ g) 9 1 v ((l.drop i).reverse).length (((l.drop i).reverse).map ks)
  hm : Mods No W wr
theorem TuI.more {W wr w3 : World} {l : List Tx} {j : Nat} {v u : Value} (h : TuI W wr l (j + 1) v) {x : Tx} (hx : l[j]? = some x) {acc : List Tx} (hacc : acc = (l.drop (j + 1)).reverse) {wx : World} (hm : Mods No wr wx)
    (h3 : Own w3 (fun k => v.ownBlock = some k ∨ k = wx.heap.size) 9 1 u (acc.length + 1) (acc.map ks ++ [ks x])) (hm3 : Mods (fun k => v.ownBlock = some k) wx w3) : TuI W w3 l j u := by
  subst hacc
  have hsz := Nat.le_trans h.hm.size hm.size
  refine ⟨?_, (h.hm.trans hm fun _ _ e => e).trans hm3 fun k hk e => absurd hk (Nat.not_lt.2 (h.own.2 k e))⟩
  rw [rev_next hx, List.map_append, List.length_append]
  refine h3.more fun g hg => ?_
  rcases hg with e | e
  · exact h.own.2 g e
  · exact e ▸ hsz
theorem placesL_K (w : World) (q c : Nat) (N : List Tx) (F : Nat → Prop) (L : List Plc) (hL : L = placesOf c N) (h : RingK w q c N F) :
    Calls Tryd.prog 15 #[(.pointer (some ⟨q, 0, none⟩))] w (Ret fun v w' => Own w' (fun k => w.heap.size ≤ k) 39 2 v L.length (plcs L) ∧ Mods No w w') := by
  subst hL; exact places_K w q c N F h
theorem nodesM_K (w : World) (q c : Nat) (N : List Tx) (F : Nat → Prop) (m : Nat) (hm : N.length = m) (h : RingK w q c N F) :
    Calls Tryd.prog 14 #[(.pointer (some ⟨q, 0, none⟩))] w (Ret fun v w' => LenIs m v ∧ Mods No w w') :=
  ret_use (nodes_K w q c N F h) fun _ _ ⟨e1, e2⟩ => ⟨LenIs.own e1 hm, e2⟩
theorem withoutM_K (w : World) (v : Value) (l : List Tx) (s : Tx) (m : Nat) (hm : (less1 l s).length = m) (hr : Rd w (fun g => g < w.heap.size) 1 v l.length (l.map ks)) (hl : l.length ≤ 65536) :
    Calls Tryd.prog 21 #[v, ks s] w (Ret fun u w' => LenIs m u ∧ Mods No w w') :=
  ret_use (without_K w v l s hr hl) fun _ _ ⟨e1, e2⟩ => ⟨LenIs.own e1 hm, e2⟩
theorem withoutL_K (w : World) (v : Value) (l : List Tx) (s : Tx) (m : Nat) (hm : l.length = m) (M : List Tx) (hM : M = less1 l s) (hr : Rd w (fun g => g < w.heap.size) 1 v m (l.map ks)) (hl : m ≤ 65536) :
    Calls Tryd.prog 21 #[v, ks s] w (Ret fun u w' => Own w' (fun g => w.heap.size ≤ g) 9 1 u M.length (M.map ks) ∧ Mods No w w') := by
  subst hm hM; exact without_K w v l s hr hl
theorem removeM_K (w : World) (q c : Nat) (N : List Tx) (s : Tx) (F : Nat → Prop) (N' : List Tx) (ec : Int) (h1 : N' = (delV N s).1) (h2 : ec = (delV N s).2) (h : RingK w q c N F) :
    Calls Tryd.prog 28 #[(.pointer (some ⟨q, 0, none⟩)), ks s] w (Ret fun v w' => v = .int .i64 ec ∧ RingK w' q c N' F ∧ Mods F w w') := by
  subst h1 h2; exact remove_K w q c N s F h
theorem addM_K (w : World) (q c : Nat) (N : List Tx) (s : Tx) (F : Nat → Prop) (N' : List Tx) (h1 : addV N s = (N', 0)) (h : RingK w q c N F) (ht : Tab w) (hsl : s.length ≤ 281474976710656) :
    Calls Tryd.prog 29 #[(.pointer (some ⟨q, 0, none⟩)), ks s] w (Ret fun v w' => v = .int .i64 0 ∧ RingK w' q c N' (Ext F w.heap.size) ∧ Mods F w w') := by
  have := add_K w q c N s F h ht hsl
  rw [h1] at this
  exact this
theorem pickM_K (w : World) (q c : Nat) (N : List Tx) (s : Tx) (F : Nat → Prop) (m : Nat) (A : List Tx) (hA : A = allV (placesOf c N) (fnv64 s)) (hm : A.length = m) (h : RingK w q c N F) (hsl : s.length ≤ maxLen) :
    Calls Tryd.prog 16 #[(.pointer (some ⟨q, 0, none⟩)), ks s, .int .i64 64] w (Ret fun v w' => Own w' (fun g => w.heap.size ≤ g) 9 1 v m (A.map ks) ∧ Mods No w w') := by
  subst hm; exact pickAll_K w q c N s F h hsl hA
theorem getM_K (w : World) (q c : Nat) (N : List Tx) (s : Tx) (F : Nat → Prop) (y : Tx) (d : Bool) (hy : y = (getV (placesOf c N) (fnv64 s)).1) (hd : d = (getV (placesOf c N) (fnv64 s)).2) (h : RingK w q c N F) (hsl : s.length ≤ maxLen) :
    Calls Tryd.prog 22 #[(.pointer (some ⟨q, 0, none⟩)), ks s] w (Ret fun v w' => v = .tuple #[ks y, .bool d] ∧ Mods No w w') := by
  subst hy hd; exact get_K w q c N s F h hsl
set_option maxHeartbeats 6400000 in
theorem ringMoves_K (w : World) (v u : Value) (l : List Tx) (n : Int) (nd : Tx) (K : List Tx) (hr : Rd w (fun g => g < w.heap.size) 1 v l.length (l.map ks)) (hk : Rd w (fun g => g < w.heap.size) 1 u K.length (K.map ks)) (ht : Tab w) (hnd : nd.length ≤ 281474976710656) (hks : ∀ x ∈ K, x.length ≤ maxLen) :
    Calls Tryd.prog 8 #[v, .int .i64 n, ks nd, u] w (Ret fun v w' => v = .bool true ∧ Mods No w w') := by
  have hnew := new_K w v l n hr ht
  have hal := fun w' (hm : Mods No w w') => alive_K w' (ht.no hm)
  have htl := ht.lt
  obtain ⟨A0, cp0, rfl, _, _⟩ := hr.form
  obtain ⟨AK, cpK, rfl, _, hmxK⟩ := hk.form
  have hKl : K.length ≤ 9223372036854775807 := by unfold maxLen at hmxK; omega
  obtain ⟨e, he⟩ : ∃ e, e = newE l n := ⟨_, rfl⟩
  by_cases h0 : e = 0
  · have he0 : newE l n = 0 := he ▸ h0
    obtain ⟨h1, h128, hl64, hfit, hndp⟩ := newE_zero he0
    obtain ⟨C, rfl⟩ : ∃ C : Nat, n = (C : Int) := ⟨n.toNat, by omega⟩
    have hok := fun w' v (h : NewIs w w' l (C : Int) v) => new_ok h he0
    have hok2 := fun w1 w' v (h : NewIs w1 w' l.reverse (C : Int) v) => new_ok h (by rw [newE_rev]; exact he0)
    have Hnd := Lib.hid hndp
    have Hfit := Lib.hid hfit
    clear he h0 hndp hfit
    have Hhnew := Lib.hid hnew
    clear hnew
    have Hhal := Lib.hid hal
    clear hal
    have Hhok := Lib.hid hok
    clear hok
    have Hhok2 := Lib.hid hok2
    clear hok2
    have Hhr := Lib.hid hr
    clear hr
    have Hhk := Lib.hid hk
    clear hk
    have Hht := Lib.hid ht
    clear ht
    have Hhe0 := Lib.hid he0
    clear he0
    have Hhks := Lib.hid hks
    clear hks
    unfold ks
    go_enter Tryd.func8, Tryd.ntmps8
    go_wp2_with (first | (go_at_call 10; (refine ret_use (Hhnew.out) ?_; rintro v w1 hn1; have hx1 := Hhok.out _ _ hn1; obtain ⟨q, rfl, hr1, hm1⟩ := hx1; have HR1 := Lib.hid hr1; have HM1 := Lib.hid hm1; clear hn1 hr1 hm1)) | ((with_reducible refine wp_region_por ?_ ?_ ?_ ?_); kernel_rfl; kernel_rfl; (with_reducible repeat (first | exact calm_ret | refine calm_then ?_ | refine calm_in ?_ | refine calm_chk ?_ | refine calm_noGoto ?_))) | ((with_reducible refine chk_end ?_ ?_); kernel_rfl))
    have HQ1 := Lib.hid (show RingK w1 q C (nodesOf l) (Rng_ w.heap.size w1.heap.size) from HR1.out.bound_ (fun g hg e => ⟨e, hg⟩) (fun e => by have := e.1; omega))
    go_loopg [13, 14] l.length (fun k v13 v14 wr => ∃ i : Nat, k = i ∧ i ≤ l.length ∧ (i = 0 ∧ v14 = .int .i64 (-1) ∨ ∃ j : Nat, i = j + 1 ∧ v14 = .int .i64 j) ∧ TuI w1 wr l i v13)
    case atStart =>
      refine ⟨l.length, rfl, Nat.le_refl _, ?_, ⟨by rw [List.drop_length]; exact Own.nil _ _ _ _, Mods.refl _ _⟩⟩
      rcases hz : l.length with _ | j
      · exact .inl ⟨rfl, rfl⟩
      · exact .inr ⟨j, rfl, by go_num⟩
    case round =>
      obtain ⟨i, hki, hi, hv, hin⟩ := hrel
      have Hin := Lib.hid hin
      have Hki := Lib.hid hki
      clear hin hki
      rcases hv with ⟨rfl, rfl⟩ | ⟨j, rfl, rfl⟩
      · obtain ⟨W2, rfl⟩ : ∃ W2, W2 = wr := ⟨_, rfl⟩
        obtain ⟨acc, hacc⟩ : ∃ acc, acc = l.reverse := ⟨_, rfl⟩
        have ho := Hin.out.own
        rw [List.drop_zero, ← hacc] at ho
        have hW2 := HM1.out.trans Hin.out.hm fun _ _ e => e
        have hsz1 := HM1.out.size
        have hsz2 := Hin.out.hm.size
        have hal2 : acc.length = l.length := by rw [hacc, List.length_reverse]
        have hnew2 := new_K W2 _ acc (C : Int) ho.rdlt (Hht.out.no hW2)
        rw [hal2] at ho
        have hok3 := fun w' v (h : NewIs W2 w' acc (C : Int) v) => new_ok h (by rw [hacc, newE_rev]; exact Hhe0.out)
        obtain ⟨N, hN⟩ : ∃ N, N = nodesOf l := ⟨_, rfl⟩
        have HN := Lib.hid hN
        have HAcc := Lib.hid hacc
        have hNl : N.length = l.length := by rw [hN, nodesOf_len]
        have hNn : N.Nodup := by rw [hN]; exact (nodesOf_perm l).nodup_iff.2 Hnd.out
        obtain ⟨L, hL⟩ : ∃ L, L = placesOf C N := ⟨_, rfl⟩
        have HL := Lib.hid hL
        have hmul : (l.length : Int) * (C : Int) = (L.length : Int) := by rw [hL, placesOf_len, hNl, Int.natCast_mul]
        have hL8 : L.length ≤ 8192 := by
          have := Nat.mul_le_mul hl64 (show C ≤ 128 by omega)
          rw [hL, placesOf_len, hNl]; omega
        obtain ⟨b, hb⟩ : ∃ b, b = decide (nd ∈ l) := ⟨_, rfl⟩
        obtain ⟨m, hm⟩ : ∃ m, (less1 l nd).length = m := ⟨_, rfl⟩
        have hmb : decide (m < l.length) = b := by rw [hb, ← hm]; exact less1_there Hnd.out nd
        obtain ⟨N', hN'⟩ : ∃ N', N' = (delV N nd).1 := ⟨_, rfl⟩
        obtain ⟨ec, hec⟩ : ∃ ec, ec = (delV N nd).2 := ⟨_, rfl⟩
        have hec0 : (ec == 0) = b := by
          rw [hec, delV_code, hb]
          have : nd ∈ N ↔ nd ∈ l := by rw [hN]; exact nodesOf_mem l nd
          simp only [this]
        have HNl := Lib.hid hNl
        have HNn := Lib.hid hNn
        have Hb := Lib.hid hb
        have Hm := Lib.hid hm
        have HN' := Lib.hid hN'
        have Hec := Lib.hid hec
        have HW2 := Lib.hid hW2
        obtain ⟨A2, c2, rfl, _, _⟩ := ho.form
        clear hal2 hN hacc hL hb hm hN' hec hNl hNn hW2 ho
        have Hhnew2 := Lib.hid hnew2
        clear hnew2
        have Hhok3 := Lib.hid hok3
        clear hok3
        go_wp2_with (first | (go_at_call 10; (refine ret_use (Hhnew2.out) ?_; rintro v w3 hn3; have hx3 := Hhok3.out _ _ hn3; obtain ⟨q2, rfl, hr3, hm⟩ := hx3; have HS := Lib.hid (show RingK w3 q2 C N (fun g => W2.heap.size ≤ g) from by have e := nodesOf_rev HQ1.out.1.strict (HAcc.out ▸ hr3.1.strict); rw [HN.out, ← e, ← HAcc.out]; exact hr3); have HQ := Lib.hid (show RingK w3 q C N (Rng_ w.heap.size w1.heap.size) from by rw [HN.out]; exact HQ1.out.no (Hin.out.hm.trans hm fun _ _ e => e)); have HM := Lib.hid (HW2.out.trans hm fun _ _ e => e); clear hn3 hr3 hm)) | (go_at_call 15; (fail_if_success have := PA); (refine ret_use (placesL_K _ q C N _ L HL.out HQ.out) ?_; rintro v w4 ⟨ho, hm⟩; have PA := True.intro; have HP4 := Lib.hid ho.rdlt; obtain ⟨A4, c4, rfl, _, _⟩ := ho.form; have HQ := Lib.hid (HQ.out.no hm); have HS := Lib.hid (HS.out.no hm); have HM := Lib.hid (HM.out.trans hm fun _ _ e => e); clear ho hm)) | (go_at_call 15; (fail_if_success have := PB); (refine ret_use (placesL_K _ q2 C N _ L HL.out HS.out) ?_; rintro v w5 ⟨ho, hm⟩; have PB := True.intro; have HP4 := Lib.hid (HP4.out.keep hm); have HP5 := Lib.hid ho.rdlt; obtain ⟨A5, c5, rfl, _, _⟩ := ho.form; have HQ := Lib.hid (HQ.out.no hm); have HS := Lib.hid (HS.out.no hm); have HM := Lib.hid (HM.out.trans hm fun _ _ e => e); clear ho hm)) | (go_at_call 17; (refine ret_use (sameP_K _ _ _ _ _ L L HP4.out HP5.out (fun _ e => e) (fun _ e => e)) ?_; rintro v w6 ⟨rfl, hm⟩; have HQ := Lib.hid (HQ.out.no hm); have HS := Lib.hid (HS.out.no hm); have HM := Lib.hid (HM.out.trans hm fun _ _ e => e); clear hm)) | (go_at_call 14; (refine ret_use (nodesM_K _ q C N _ l.length HNl.out HQ.out) ?_; rintro v w7 ⟨⟨A7, c7, rfl⟩, hm⟩; have HQ := Lib.hid (HQ.out.no hm); have HS := Lib.hid (HS.out.no hm); have HM := Lib.hid (HM.out.trans hm fun _ _ e => e); clear hm)) | (go_at_call 15; (refine ret_use (placesL_K _ q C N _ L HL.out HQ.out) ?_; rintro v w8 ⟨ho, hm⟩; obtain ⟨A8, c8, rfl, _, _⟩ := ho.form; have HQ := Lib.hid (HQ.out.no hm); have HS := Lib.hid (HS.out.no hm); have HM := Lib.hid (HM.out.trans hm fun _ _ e => e); clear ho hm)) | (go_at_call 21; (refine ret_use (withoutM_K _ (.slice A0 l.length cp0) l nd m Hm.out (Hhr.out.keep HM.out) (by omega)) ?_; rintro v w9 ⟨⟨A9, c9, rfl⟩, hm⟩; have HQ := Lib.hid (HQ.out.no hm); have HS := Lib.hid (HS.out.no hm); have HM := Lib.hid (HM.out.trans hm fun _ _ e => e); clear hm)) | (go_at_call 28; (refine ret_use (removeM_K _ q C N nd _ N' ec HN'.out Hec.out HQ.out) ?_; rintro v W9 ⟨rfl, hr9, hm⟩; have HQ := Lib.hid hr9; have HS := Lib.hid (HS.out.mods hm fun g _ e1 e2 => by have := e2.2; omega); have HM := Lib.hid (HM.out.trans hm fun g hg e => absurd hg (Nat.not_lt.2 e.1)); clear hr9 hm)) | ((with_reducible refine wp_region_por ?_ ?_ ?_ ?_); kernel_rfl; kernel_rfl; (with_reducible repeat (first | exact calm_ret | refine calm_then ?_ | refine calm_in ?_ | refine calm_chk ?_ | refine calm_noGoto ?_))) | ((with_reducible refine chk_end ?_ ?_); kernel_rfl))
        go_loopg [18] K.length (fun k v18 wr => ∃ i : Nat, v18 = .int .i64 i ∧ i ≤ K.length ∧ k + i = K.length ∧ Mods No W9 wr)
        case atStart => exact ⟨0, rfl, Nat.zero_le _, rfl, Mods.refl _ _⟩
        case round =>
          obtain ⟨i, rfl, hi2, hkK, hm9⟩ := hrel
          have HkK := Lib.hid hkK
          have HM9 := Lib.hid hm9
          have HQ := Lib.hid (HQ.out.no hm9)
          have HS := Lib.hid (HS.out.no hm9)
          have HM := Lib.hid (HM.out.trans hm9 fun _ _ e => e)
          have hC1 : 0 < C := by omega
          clear hkK hm9
          rcases Nat.lt_or_ge i K.length with h2 | h2
          · obtain ⟨x, hx⟩ := lt_get h2
            have hxs := Hhks.out x (List.mem_of_getElem? hx)
            obtain ⟨bk, ok, rfl, _, x0⟩ := (Hhk.out.keep HM.out).tx rfl hx
            have hxc : ∀ w', Mods No wr w' → w'.cell? ⟨bk, ok + i, none⟩ = some (ks x) := fun w' hm' => by
              obtain ⟨b9, o9, e9, _, h9⟩ := (Hhk.out.keep (HM.out.trans hm' fun _ _ e => e)).tx rfl hx
              injection e9 with e9
              injection e9 with e9 e8
              subst e9 e8
              exact h9
            have HXC := Lib.hid hxc
            have HR := Lib.hid (Mods.refl No wr)
            obtain ⟨B, hB⟩ : ∃ B, B = allV (placesOf C N) (fnv64 x) := ⟨_, rfl⟩
            obtain ⟨A', hA⟩ : ∃ A', A' = allV (placesOf C N') (fnv64 x) := ⟨_, rfl⟩
            have hAB : A' = less1 B nd := by rw [hA, hB, HN'.out, delV_eq, allV_del]
            have hBl : B.length = l.length := by rw [hB, (allV_perm hC1 HNn.out _).length_eq, HNl.out]
            obtain ⟨y, hy⟩ : ∃ y, y = (getV (placesOf C N) (fnv64 x)).1 := ⟨_, rfl⟩
            obtain ⟨x1, hx1⟩ : ∃ x1, x1 = (getV (placesOf C N') (fnv64 x)).1 := ⟨_, rfl⟩
            obtain ⟨p, hp⟩ : ∃ p, p = (getV (placesOf C N') (fnv64 x)).2 := ⟨_, rfl⟩
            obtain ⟨d, hd⟩ : ∃ d, d = (getV (placesOf C N) (fnv64 x)).2 := ⟨_, rfl⟩
            have hpA : decide (0 < A'.length) = p := by rw [hp, getV_snd, ← hA]
            have hdl : decide (0 < l.length) = d := by rw [hd, getV_snd, ← hB, hBl]
            have hxy : d = true → y ≠ nd → x1 = y := fun e1 e2 => by
              rw [hx1, hy]
              refine getV_less (s := nd) (by rw [← hA, ← hB]; exact hAB) ?_ (hy ▸ e2)
              rw [← hB, hBl]; rw [← hdl] at e1; exact of_decide_eq_true e1
            have hA64 : A'.length ≤ 64 := by
              have := List.length_filter_le (fun z => !decide (z = nd)) B
              rw [hAB]; unfold less1; omega
            have HB := Lib.hid hB
            have HA := Lib.hid hA
            have HAB := Lib.hid hAB
            have HBl := Lib.hid hBl
            have Hy := Lib.hid hy
            have Hx1 := Lib.hid hx1
            have Hp := Lib.hid hp
            have Hd := Lib.hid hd
            have Hxy := Lib.hid hxy
            clear hxc hB hA hAB hBl hy hx1 hp hd hxy hx
            unfold ks at x0
            cases d with
            | false =>
              go_wp2_with (first | (go_at_call 16; (fail_if_success have := PK1); (refine ret_use (pickM_K _ q C N' x _ A'.length A' HA.out rfl HQ.out hxs) ?_; rintro v w10 ⟨ho, hm⟩; have PK1 := True.intro; have HO10 := Lib.hid ho.rdlt; obtain ⟨A10, c10, rfl, _, _⟩ := ho.form; have HQ := Lib.hid (HQ.out.no hm); have HS := Lib.hid (HS.out.no hm); have HM := Lib.hid (HM.out.trans hm fun _ _ e => e); have HR := Lib.hid (HR.out.trans hm fun _ _ e => e); have x0 := HXC.out _ HR.out; (unfold ks at x0); clear ho hm)) | (go_at_call 16; (refine ret_use (pickM_K _ q2 C N x _ l.length B HB.out HBl.out HS.out hxs) ?_; rintro v w11 ⟨ho, hm⟩; have HO10 := Lib.hid (HO10.out.keep hm); have HO11 := Lib.hid ho.rdlt; obtain ⟨A11, c11, rfl, _, _⟩ := ho.form; have HQ := Lib.hid (HQ.out.no hm); have HS := Lib.hid (HS.out.no hm); have HM := Lib.hid (HM.out.trans hm fun _ _ e => e); have HR := Lib.hid (HR.out.trans hm fun _ _ e => e); have x0 := HXC.out _ HR.out; (unfold ks at x0); clear ho hm)) | (go_at_call 21; (refine ret_use (withoutL_K _ _ B nd l.length HBl.out A' HAB.out HO11.out (by omega)) ?_; rintro v w12 ⟨ho, hm⟩; have HO10 := Lib.hid (HO10.out.keep hm); have HO12 := Lib.hid ho.rdlt; obtain ⟨A12, c12, rfl, _, _⟩ := ho.form; have HQ := Lib.hid (HQ.out.no hm); have HS := Lib.hid (HS.out.no hm); have HM := Lib.hid (HM.out.trans hm fun _ _ e => e); have HR := Lib.hid (HR.out.trans hm fun _ _ e => e); have x0 := HXC.out _ HR.out; (unfold ks at x0); clear ho hm)) | (go_at_call 12; (refine ret_use (sameT_K _ _ _ _ _ A' A' HO10.out HO12.out (fun _ e => e) (fun _ e => e)) ?_; rintro v w13 ⟨rfl, hm⟩; have HQ := Lib.hid (HQ.out.no hm); have HS := Lib.hid (HS.out.no hm); have HM := Lib.hid (HM.out.trans hm fun _ _ e => e); have HR := Lib.hid (HR.out.trans hm fun _ _ e => e); have x0 := HXC.out _ HR.out; (unfold ks at x0); clear hm)) | (go_at_call 22; (fail_if_success have := GT1); (refine ret_use (getM_K _ q C N' x _ x1 p Hx1.out Hp.out HQ.out hxs) ?_; rintro v w14 ⟨rfl, hm⟩; (unfold ks); have GT1 := True.intro; have HQ := Lib.hid (HQ.out.no hm); have HS := Lib.hid (HS.out.no hm); have HM := Lib.hid (HM.out.trans hm fun _ _ e => e); have HR := Lib.hid (HR.out.trans hm fun _ _ e => e); have x0 := HXC.out _ HR.out; (unfold ks at x0); clear hm)) | (go_at_call 22; (refine ret_use (getM_K _ q2 C N x _ y false Hy.out Hd.out HS.out hxs) ?_; rintro v w15 ⟨rfl, hm⟩; (unfold ks); have HQ := Lib.hid (HQ.out.no hm); have HS := Lib.hid (HS.out.no hm); have HM := Lib.hid (HM.out.trans hm fun _ _ e => e); have HR := Lib.hid (HR.out.trans hm fun _ _ e => e); have x0 := HXC.out _ HR.out; (unfold ks at x0); clear hm)) | ((with_reducible refine wp_region_por ?_ ?_ ?_ ?_); kernel_rfl; kernel_rfl; (with_reducible repeat (first | exact calm_ret | refine calm_then ?_ | refine calm_in ?_ | refine calm_chk ?_ | refine calm_noGoto ?_))) | ((with_reducible refine chk_end ?_ ?_); kernel_rfl))
              go_roundg (gk - 1)
              case rel => exact ⟨i + 1, by go_num, h2, by have := HkK.out; omega, HM9.out.trans HR.out fun _ _ e => e⟩
              case measure => have := HkK.out; omega
            | true =>
              by_cases hyn : y = nd
              · have hyn' : (y == nd) = true := by simp [hyn]
                clear hyn
                go_wp2_with (first | (go_at_call 16; (fail_if_success have := PK1); (refine ret_use (pickM_K _ q C N' x _ A'.length A' HA.out rfl HQ.out hxs) ?_; rintro v w10 ⟨ho, hm⟩; have PK1 := True.intro; have HO10 := Lib.hid ho.rdlt; obtain ⟨A10, c10, rfl, _, _⟩ := ho.form; have HQ := Lib.hid (HQ.out.no hm); have HS := Lib.hid (HS.out.no hm); have HM := Lib.hid (HM.out.trans hm fun _ _ e => e); have HR := Lib.hid (HR.out.trans hm fun _ _ e => e); have x0 := HXC.out _ HR.out; (unfold ks at x0); clear ho hm)) | (go_at_call 16; (refine ret_use (pickM_K _ q2 C N x _ l.length B HB.out HBl.out HS.out hxs) ?_; rintro v w11 ⟨ho, hm⟩; have HO10 := Lib.hid (HO10.out.keep hm); have HO11 := Lib.hid ho.rdlt; obtain ⟨A11, c11, rfl, _, _⟩ := ho.form; have HQ := Lib.hid (HQ.out.no hm); have HS := Lib.hid (HS.out.no hm); have HM := Lib.hid (HM.out.trans hm fun _ _ e => e); have HR := Lib.hid (HR.out.trans hm fun _ _ e => e); have x0 := HXC.out _ HR.out; (unfold ks at x0); clear ho hm)) | (go_at_call 21; (refine ret_use (withoutL_K _ _ B nd l.length HBl.out A' HAB.out HO11.out (by omega)) ?_; rintro v w12 ⟨ho, hm⟩; have HO10 := Lib.hid (HO10.out.keep hm); have HO12 := Lib.hid ho.rdlt; obtain ⟨A12, c12, rfl, _, _⟩ := ho.form; have HQ := Lib.hid (HQ.out.no hm); have HS := Lib.hid (HS.out.no hm); have HM := Lib.hid (HM.out.trans hm fun _ _ e => e); have HR := Lib.hid (HR.out.trans hm fun _ _ e => e); have x0 := HXC.out _ HR.out; (unfold ks at x0); clear ho hm)) | (go_at_call 12; (refine ret_use (sameT_K _ _ _ _ _ A' A' HO10.out HO12.out (fun _ e => e) (fun _ e => e)) ?_; rintro v w13 ⟨rfl, hm⟩; have HQ := Lib.hid (HQ.out.no hm); have HS := Lib.hid (HS.out.no hm); have HM := Lib.hid (HM.out.trans hm fun _ _ e => e); have HR := Lib.hid (HR.out.trans hm fun _ _ e => e); have x0 := HXC.out _ HR.out; (unfold ks at x0); clear hm)) | (go_at_call 22; (fail_if_success have := GT1); (refine ret_use (getM_K _ q C N' x _ x1 p Hx1.out Hp.out HQ.out hxs) ?_; rintro v w14 ⟨rfl, hm⟩; (unfold ks); have GT1 := True.intro; have HQ := Lib.hid (HQ.out.no hm); have HS := Lib.hid (HS.out.no hm); have HM := Lib.hid (HM.out.trans hm fun _ _ e => e); have HR := Lib.hid (HR.out.trans hm fun _ _ e => e); have x0 := HXC.out _ HR.out; (unfold ks at x0); clear hm)) | (go_at_call 22; (refine ret_use (getM_K _ q2 C N x _ y true Hy.out Hd.out HS.out hxs) ?_; rintro v w15 ⟨rfl, hm⟩; (unfold ks); have HQ := Lib.hid (HQ.out.no hm); have HS := Lib.hid (HS.out.no hm); have HM := Lib.hid (HM.out.trans hm fun _ _ e => e); have HR := Lib.hid (HR.out.trans hm fun _ _ e => e); have x0 := HXC.out _ HR.out; (unfold ks at x0); clear hm)) | ((with_reducible refine wp_region_por ?_ ?_ ?_ ?_); kernel_rfl; kernel_rfl; (with_reducible repeat (first | exact calm_ret | refine calm_then ?_ | refine calm_in ?_ | refine calm_chk ?_ | refine calm_noGoto ?_))) | ((with_reducible refine chk_end ?_ ?_); kernel_rfl))
                go_roundg (gk - 1)
                case rel => exact ⟨i + 1, by go_num, h2, by have := HkK.out; omega, HM9.out.trans HR.out fun _ _ e => e⟩
                case measure => have := HkK.out; omega
              · have hyn' : (y == nd) = false := by simp [hyn]
                have hxx := Hxy.out rfl hyn
                clear hyn
                rw [hxx] at Hx1
                clear hxx
                go_wp2_with (first | (go_at_call 16; (fail_if_success have := PK1); (refine ret_use (pickM_K _ q C N' x _ A'.length A' HA.out rfl HQ.out hxs) ?_; rintro v w10 ⟨ho, hm⟩; have PK1 := True.intro; have HO10 := Lib.hid ho.rdlt; obtain ⟨A10, c10, rfl, _, _⟩ := ho.form; have HQ := Lib.hid (HQ.out.no hm); have HS := Lib.hid (HS.out.no hm); have HM := Lib.hid (HM.out.trans hm fun _ _ e => e); have HR := Lib.hid (HR.out.trans hm fun _ _ e => e); have x0 := HXC.out _ HR.out; (unfold ks at x0); clear ho hm)) | (go_at_call 16; (refine ret_use (pickM_K _ q2 C N x _ l.length B HB.out HBl.out HS.out hxs) ?_; rintro v w11 ⟨ho, hm⟩; have HO10 := Lib.hid (HO10.out.keep hm); have HO11 := Lib.hid ho.rdlt; obtain ⟨A11, c11, rfl, _, _⟩ := ho.form; have HQ := Lib.hid (HQ.out.no hm); have HS := Lib.hid (HS.out.no hm); have HM := Lib.hid (HM.out.trans hm fun _ _ e => e); have HR := Lib.hid (HR.out.trans hm fun _ _ e => e); have x0 := HXC.out _ HR.out; (unfold ks at x0); clear ho hm)) | (go_at_call 21; (refine ret_use (withoutL_K _ _ B nd l.length HBl.out A' HAB.out HO11.out (by omega)) ?_; rintro v w12 ⟨ho, hm⟩; have HO10 := Lib.hid (HO10.out.keep hm); have HO12 := Lib.hid ho.rdlt; obtain ⟨A12, c12, rfl, _, _⟩ := ho.form; have HQ := Lib.hid (HQ.out.no hm); have HS := Lib.hid (HS.out.no hm); have HM := Lib.hid (HM.out.trans hm fun _ _ e => e); have HR := Lib.hid (HR.out.trans hm fun _ _ e => e); have x0 := HXC.out _ HR.out; (unfold ks at x0); clear ho hm)) | (go_at_call 12; (refine ret_use (sameT_K _ _ _ _ _ A' A' HO10.out HO12.out (fun _ e => e) (fun _ e => e)) ?_; rintro v w13 ⟨rfl, hm⟩; have HQ := Lib.hid (HQ.out.no hm); have HS := Lib.hid (HS.out.no hm); have HM := Lib.hid (HM.out.trans hm fun _ _ e => e); have HR := Lib.hid (HR.out.trans hm fun _ _ e => e); have x0 := HXC.out _ HR.out; (unfold ks at x0); clear hm)) | (go_at_call 22; (fail_if_success have := GT1); (refine ret_use (getM_K _ q C N' x _ y p Hx1.out Hp.out HQ.out hxs) ?_; rintro v w14 ⟨rfl, hm⟩; (unfold ks); have GT1 := True.intro; have HQ := Lib.hid (HQ.out.no hm); have HS := Lib.hid (HS.out.no hm); have HM := Lib.hid (HM.out.trans hm fun _ _ e => e); have HR := Lib.hid (HR.out.trans hm fun _ _ e => e); have x0 := HXC.out _ HR.out; (unfold ks at x0); clear hm)) | (go_at_call 22; (refine ret_use (getM_K _ q2 C N x _ y true Hy.out Hd.out HS.out hxs) ?_; rintro v w15 ⟨rfl, hm⟩; (unfold ks); have HQ := Lib.hid (HQ.out.no hm); have HS := Lib.hid (HS.out.no hm); have HM := Lib.hid (HM.out.trans hm fun _ _ e => e); have HR := Lib.hid (HR.out.trans hm fun _ _ e => e); have x0 := HXC.out _ HR.out; (unfold ks at x0); clear hm)) | ((with_reducible refine wp_region_por ?_ ?_ ?_ ?_); kernel_rfl; kernel_rfl; (with_reducible repeat (first | exact calm_ret | refine calm_then ?_ | refine calm_in ?_ | refine calm_chk ?_ | refine calm_noGoto ?_))) | ((with_reducible refine chk_end ?_ ?_); kernel_rfl))
                go_roundg (gk - 1)
                case rel => exact ⟨i + 1, by go_num, h2, by have := HkK.out; omega, HM9.out.trans HR.out fun _ _ e => e⟩
                case measure => have := HkK.out; omega
          · obtain rfl : i = K.length := by omega
            cases b with
            | true =>
              have hin : nd ∈ l := of_decide_eq_true Hb.out.symm
              have hnN : nd ∈ N := by rw [HN.out]; exact (nodesOf_mem l nd).2 hin
              have hl1 := less1_len HNn.out hnN
              have hNl2 := HNl.out
              have hadd : addV N' nd = (N, 0) := by
                rw [HN'.out, delV_eq, addV_new (show fitB nd = true from decide_eq_true (Hfit.out nd hin)) (fun e => by simp at e) (by omega), insT_less1 HS.out.1.strict hnN]
              clear hin hnN hl1 hNl2
              have Hhadd := Lib.hid hadd
              clear hadd
              go_wp2_with (first | (go_at_call 29; (refine ret_use (addM_K _ q C N' nd _ N Hhadd.out HQ.out (Hht.out.no HM.out) hnd) ?_; rintro v w20 ⟨rfl, hr, hm⟩; have HQ := Lib.hid hr; have HS := Lib.hid (HS.out.mods hm fun g _ e1 e2 => by have := e2.2; omega); have HM := Lib.hid (HM.out.trans hm fun g hg e => absurd hg (Nat.not_lt.2 e.1)); clear hr hm)) | (go_at_call 15; (fail_if_success have := PC); (refine ret_use (placesL_K _ q C N _ L HL.out HQ.out) ?_; rintro v w24 ⟨ho, hm⟩; have PC := True.intro; have HP4 := Lib.hid ho.rdlt; obtain ⟨A24, c24, rfl, _, _⟩ := ho.form; have HQ := Lib.hid (HQ.out.no hm); have HS := Lib.hid (HS.out.no hm); have HM := Lib.hid (HM.out.trans hm fun _ _ e => e); clear ho hm)) | (go_at_call 15; (refine ret_use (placesL_K _ q2 C N _ L HL.out HS.out) ?_; rintro v w25 ⟨ho, hm⟩; have HP4 := Lib.hid (HP4.out.keep hm); have HP5 := Lib.hid ho.rdlt; obtain ⟨A25, c25, rfl, _, _⟩ := ho.form; have HQ := Lib.hid (HQ.out.no hm); have HS := Lib.hid (HS.out.no hm); have HM := Lib.hid (HM.out.trans hm fun _ _ e => e); clear ho hm)) | (go_at_call 17; (refine ret_use (sameP_K _ _ _ _ _ L L HP4.out HP5.out (fun _ e => e) (fun _ e => e)) ?_; rintro v w26 ⟨rfl, hm⟩; have HQ := Lib.hid (HQ.out.no hm); have HS := Lib.hid (HS.out.no hm); have HM := Lib.hid (HM.out.trans hm fun _ _ e => e); clear hm)) | (go_at_call 13; (refine ret_use (Hhal.out _ HM.out) ?_; rintro v w27 ⟨rfl, hm⟩; have HQ := Lib.hid (HQ.out.no hm); have HS := Lib.hid (HS.out.no hm); have HM := Lib.hid (HM.out.trans hm fun _ _ e => e); clear hm)) | ((with_reducible refine wp_region_por ?_ ?_ ?_ ?_); kernel_rfl; kernel_rfl; (with_reducible repeat (first | exact calm_ret | refine calm_then ?_ | refine calm_in ?_ | refine calm_chk ?_ | refine calm_noGoto ?_))) | ((with_reducible refine chk_end ?_ ?_); kernel_rfl))
              go_ret
              exact ⟨by simp, HM.out⟩
            | false =>
              have hNN : N' = N := by
                have hin : nd ∉ l := of_decide_eq_false Hb.out.symm
                rw [HN'.out, delV_eq]
                exact less1_not fun e => hin ((nodesOf_mem l nd).1 (HN.out ▸ e))
              have HQ := Lib.hid (show RingK wr q C N (Rng_ w.heap.size w1.heap.size) from hNN ▸ HQ.out)
              clear hNN
              go_wp2_with (first | (go_at_call 15; (fail_if_success have := PC); (refine ret_use (placesL_K _ q C N _ L HL.out HQ.out) ?_; rintro v w24 ⟨ho, hm⟩; have PC := True.intro; have HP4 := Lib.hid ho.rdlt; obtain ⟨A24, c24, rfl, _, _⟩ := ho.form; have HQ := Lib.hid (HQ.out.no hm); have HS := Lib.hid (HS.out.no hm); have HM := Lib.hid (HM.out.trans hm fun _ _ e => e); clear ho hm)) | (go_at_call 15; (refine ret_use (placesL_K _ q2 C N _ L HL.out HS.out) ?_; rintro v w25 ⟨ho, hm⟩; have HP4 := Lib.hid (HP4.out.keep hm); have HP5 := Lib.hid ho.rdlt; obtain ⟨A25, c25, rfl, _, _⟩ := ho.form; have HQ := Lib.hid (HQ.out.no hm); have HS := Lib.hid (HS.out.no hm); have HM := Lib.hid (HM.out.trans hm fun _ _ e => e); clear ho hm)) | (go_at_call 17; (refine ret_use (sameP_K _ _ _ _ _ L L HP4.out HP5.out (fun _ e => e) (fun _ e => e)) ?_; rintro v w26 ⟨rfl, hm⟩; have HQ := Lib.hid (HQ.out.no hm); have HS := Lib.hid (HS.out.no hm); have HM := Lib.hid (HM.out.trans hm fun _ _ e => e); clear hm)) | (go_at_call 13; (refine ret_use (Hhal.out _ HM.out) ?_; rintro v w27 ⟨rfl, hm⟩; have HQ := Lib.hid (HQ.out.no hm); have HS := Lib.hid (HS.out.no hm); have HM := Lib.hid (HM.out.trans hm fun _ _ e => e); clear hm)) | ((with_reducible refine wp_region_por ?_ ?_ ?_ ?_); kernel_rfl; kernel_rfl; (with_reducible repeat (first | exact calm_ret | refine calm_then ?_ | refine calm_in ?_ | refine calm_chk ?_ | refine calm_noGoto ?_))) | ((with_reducible refine chk_end ?_ ?_); kernel_rfl))
              go_ret
              exact ⟨by simp, HM.out⟩
      · obtain ⟨acc, hacc⟩ : ∃ acc, acc = (l.drop (j + 1)).reverse := ⟨_, rfl⟩
        have ho := Hin.out.own
        rw [← hacc] at ho
        have hac8 : acc.length ≤ 65536 := by rw [hacc, List.length_reverse, List.length_drop]; omega
        have HA := Lib.hid hacc
        have HO := Lib.hid ho
        obtain ⟨A7, c7, rfl, _, _⟩ := ho.form
        obtain ⟨x, hx⟩ := lt_get (show j < l.length by omega)
        obtain ⟨b1, o1, rfl, _, x0⟩ := (Hhr.out.keep (HM1.out.trans Hin.out.hm fun _ _ e => e)).tx rfl hx
        unfold ks at x0
        have Hx := Lib.hid hx
        clear ho hacc hx
        go_wp2_with (first | (at_builtin; ((refine wpList_append _ rfl (.tmp 64) (.tmp 69) 22 rfl 9 (.string ⟨#[]⟩) 1 16 Tryd.underlying22 infoTx rfl (by decide) (F := fun g => w1.heap.size ≤ g) (n := acc.length) (xs := acc.map ks) (by rfl) (HO.out.mods ((Mods.refl No wr).alloc (.cells #[ks x] 9)) fun _ _ e => e) (G := fun g => g = wr.heap.size) (y := .slice (some ⟨wr.heap.size, 0, none⟩) 1 1) (m := 1) (news := [ks x]) (by rfl) (Rd.box _ #[ks x] _ rfl rfl (by decide)) (fun u hu => by rw [List.mem_singleton.1 hu]; rfl) (by omega) (by decide) ?_); intro v8 w8 hown8 hm8 _; have HE8 := Lib.hid (Hin.out.more Hx.out HA.out ((Mods.refl No wr).alloc (.cells #[ks x] 9)) hown8 hm8); obtain ⟨A8, c8, rfl, _, _⟩ := hown8.form; clear hown8 hm8)) | ((with_reducible refine wp_region_por ?_ ?_ ?_ ?_); kernel_rfl; kernel_rfl; (with_reducible repeat (first | exact calm_ret | refine calm_then ?_ | refine calm_in ?_ | refine calm_chk ?_ | refine calm_noGoto ?_))) | ((with_reducible refine chk_end ?_ ?_); kernel_rfl))
        go_roundg j
        case rel =>
          refine ⟨j, rfl, by omega, ?_, HE8.out⟩
          rcases j with _ | j
          · exact .inl ⟨rfl, by go_num⟩
          · exact .inr ⟨j, rfl, by go_num⟩
        case measure => have := Hki.out; omega
  · have he1 : (e != 0) = true := bne_iff_ne.2 h0
    have hbad := fun w' v (h : NewIs w w' l n v) => new_bad h he h0
    have hrn := fun w' (hm : Mods No w w') => rnew_K w' (.slice A0 l.length cp0) l n (hr.keep hm)
    have hrb := fun w1 w2 v (h : RNewIs w1 w2 l n v) => rnew_bad_ h he
    clear he h0
    have Hhnew := Lib.hid hnew
    clear hnew
    have Hhrn := Lib.hid hrn
    clear hrn
    have Hhal := Lib.hid hal
    clear hal
    have Hhr := Lib.hid hr
    clear hr
    have Hhk := Lib.hid hk
    clear hk
    have Hht := Lib.hid ht
    clear ht
    have Hhbad := Lib.hid hbad
    clear hbad
    have Hhrb := Lib.hid hrb
    clear hrb
    have Hhks := Lib.hid hks
    clear hks
    unfold ks
    go_enter Tryd.func8, Tryd.ntmps8
    go_wp2_with (first | (go_at_call 10; (refine ret_use (Hhnew.out) ?_; rintro v w1 hn1; have hx1 := Hhbad.out _ _ hn1; obtain ⟨rfl, hm1⟩ := hx1; have HM1 := Lib.hid hm1; clear hn1 hm1)) | (go_at_call 11; (refine ret_use (Hhrn.out w1 HM1.out) ?_; rintro v w2 hn2; have hx2 := Hhrb.out _ _ _ hn2; obtain ⟨cc, A, B, na, ca, nb, cb, rfl, hm2⟩ := hx2; have HM2 := Lib.hid ((HM1.out.trans hm2 fun _ _ e => e).alloc (.cells #[.int .i64 cc, .slice A na ca, .slice B nb cb] 29)); clear hn2 hm2)) | (go_at_call 13; (refine ret_use (Hhal.out _ HM2.out) ?_; rintro v w3 ⟨rfl, hm3⟩; have HM3 := Lib.hid (HM2.out.trans hm3 fun _ _ e => e); clear hm3)) | ((with_reducible refine wp_region_por ?_ ?_ ?_ ?_); kernel_rfl; kernel_rfl; (with_reducible repeat (first | exact calm_ret | refine calm_then ?_ | refine calm_in ?_ | refine calm_chk ?_ | refine calm_noGoto ?_))) | ((with_reducible refine chk_end ?_ ?_); kernel_rfl))
    go_ret
    exact ⟨by simp, HM3.out⟩
end Go.Proofs.YtilkepmmkhmghaaDoor
