/- The law RingPicks, walked. -/
import Derived.Test.YtilkepmmkhmghaaDoorRgS
namespace Go.Proofs.YtilkepmmkhmghaaDoor
open Go.RowKit Go.Tum Go.Lib Go.Sort
set_option maxRecDepth 100000
def LenIs (n : Nat) (v : Value) : Prop := ∃ A c, v = .slice A n c
theorem LenIs.own {w : World} {F : Nat → Prop} {e : TypeId} {size n m : Nat} {v : Value} {xs : List Value} (h : Own w F e size v n xs) (hm : n = m) : LenIs m v := by
  subst hm
  obtain ⟨A, c, rfl, _, _⟩ := h.form
  exact ⟨A, c, rfl⟩
theorem new_bad {w w' : World} {l : List Tx} {n : Int} {v : Value} (h : NewIs w w' l n v) {e : Int} (he : e = newE l n) (h0 : e ≠ 0) : v = .tuple #[.pointer none, .int .i64 e] ∧ Mods No w w' := by
  subst he
  obtain ⟨p, rfl, hm, h1, _⟩ := h
  exact ⟨by rw [h1 h0], hm⟩
/-- All nodes of a key. -/
theorem pickAll_K (w : World) (q c : Nat) (N : List Tx) (s : Tx) (F : Nat → Prop) (h : RingK w q c N F) (hsl : s.length ≤ maxLen) {A : List Tx} (hA : A = allV (placesOf c N) (fnv64 s)) :
    Calls Tryd.prog 16 #[(.pointer (some ⟨q, 0, none⟩)), ks s, .int .i64 64] w (Ret fun v w' => Own w' (fun g => w.heap.size ≤ g) 9 1 v A.length (A.map ks) ∧ Mods No w w') := by
  have h1 := pick_K w q c N s 64 F h hsl
  have hl : A.length ≤ 64 := by rw [hA, (allV_perm h.1.c1 (h.1.strict.nodup sto_T) _).length_eq]; exact h.1.small
  rw [pick_take, ← hA, show ((64 : Int).toNat) = 64 from rfl, List.take_of_length_le hl] at h1
  exact h1
theorem pickSome_K (w : World) (q c : Nat) (N : List Tx) (s : Tx) (n : Int) (F : Nat → Prop) (h : RingK w q c N F) (hsl : s.length ≤ maxLen) {A : List Tx} (hA : A = allV (placesOf c N) (fnv64 s)) {m : Nat} (hm : m = min n.toNat A.length) :
    Calls Tryd.prog 16 #[(.pointer (some ⟨q, 0, none⟩)), ks s, .int .i64 n] w (Ret fun v w' => Own w' (fun g => w.heap.size ≤ g) 9 1 v m ((A.take m).map ks) ∧ Mods No w w') := by
  have h1 := pick_K w q c N s n F h hsl
  have h2 : A.take n.toNat = A.take m := by
    subst hm
    rcases Nat.le_total n.toNat A.length with e | e
    · rw [Nat.min_eq_left e]
    · rw [Nat.min_eq_right e, List.take_of_length_le e, List.take_length]
  have h3 : (A.take m).length = m := by rw [List.length_take, hm]; omega
  rw [pick_take, ← hA, h2, h3] at h1
  exact h1
set_option maxHeartbeats 6400000 in
theorem ringPicks_K (w : World) (v : Value) (l : List Tx) (c : Int) (s : Tx) (n : Int) (hr : Rd w (fun g => g < w.heap.size) 1 v l.length (l.map ks)) (ht : Tab w) (hsl : s.length ≤ maxLen) :
    Calls Tryd.prog 5 #[v, .int .i64 c, ks s, .int .i64 n] w (Ret fun v w' => v = .bool true ∧ Mods No w w') := by
  have hnew := new_K w v l c hr ht
  have hal := fun w' (hm : Mods No w w') => alive_K w' (ht.no hm)
  obtain ⟨A, cp, rfl, hac, hmx⟩ := hr.form
  obtain ⟨e, he⟩ : ∃ e, e = newE l c := ⟨_, rfl⟩
  by_cases h0 : e = 0
  · have hE := newE_zero (he ▸ h0)
    obtain ⟨hc1, hc2, hl64, hfit, hnd⟩ := hE
    obtain ⟨N, hN⟩ : ∃ N, N = nodesOf l := ⟨_, rfl⟩
    have hNp : N.Perm l := hN ▸ nodesOf_perm l
    have hok := fun w' v (h : NewIs w w' l c v) => new_ok h (he ▸ h0)
    rw [← hN] at hok
    obtain ⟨C, hC⟩ : ∃ C, C = c.toNat := ⟨_, rfl⟩
    rw [← hC] at hok
    obtain ⟨B, hB⟩ : ∃ B, B = allV (placesOf C N) (fnv64 s) := ⟨_, rfl⟩
    have hBp : B.Perm l := by rw [hB]; exact (allV_perm (by omega) (hNp.nodup_iff.2 hnd) _).trans hNp
    have hBl : B.length = l.length := hBp.length_eq
    have hBn : B.Nodup := by rw [hB]; exact allV_nodup _ _
    obtain ⟨m, hm⟩ : ∃ m, m = min n.toNat B.length := ⟨_, rfl⟩
    have hBm : (B.take m).length = m := by rw [List.length_take, hm]; omega
    have hmB : m ≤ l.length := by omega
    have hp64 := fun w' q F h => pickAll_K w' q C N s F h hsl hB
    have hpn := fun w' q F h => pickSome_K w' q C N s n F h hsl hB hm
    have hget := fun w' q F h => get_K w' q C N s F h hsl
    have hsame := fun w' v u (h1 : Rd w' (fun g => g < w'.heap.size) 1 v m ((B.take m).map ks)) (h2 : Rd w' (fun g => g < w'.heap.size) 1 u m ((B.take m).map ks)) => sameT_K w' _ _ v u (B.take m) (B.take m) (by rw [hBm]; exact h1) (by rw [hBm]; exact h2) (fun k hk => hk) (fun k hk => hk)
    simp only [decide_true] at hsame
    have hcase : (n < 0 ∧ m = 0) ∨ (¬ n < 0 ∧ (l.length : Int) < n ∧ m = l.length) ∨ n = (m : Int) := by omega
    have hgv := getV_eq (placesOf C N) (fnv64 s)
    rw [← hB] at hgv
    rw [hBl] at hp64
    clear he h0 hC hN hfit hm
    have Hgv := Lib.hid hgv
    have Hnd := Lib.hid hnd
    have HBp := Lib.hid hBp
    have HBn := Lib.hid hBn
    have HBl := Lib.hid hBl
    have HBm := Lib.hid hBm
    clear hgv hnd hBp hBn hBl hBm hB hNp
    have Hhnew := Lib.hid hnew
    clear hnew
    have Hhal := Lib.hid hal
    clear hal
    have Hhok := Lib.hid hok
    clear hok
    have Hhp64 := Lib.hid hp64
    clear hp64
    have Hhpn := Lib.hid hpn
    clear hpn
    have Hhget := Lib.hid hget
    clear hget
    have Hhsame := Lib.hid hsame
    clear hsame
    have Hhr := Lib.hid hr
    clear hr
    have Hht := Lib.hid ht
    clear ht
    rcases hcase with ⟨hn, rfl⟩ | ⟨hn, hn2, rfl⟩ | rfl
    · have hn' : decide (n < 0) = true := decide_eq_true hn
      have hn2' : decide ((l.length : Int) < n) = false := decide_eq_false (by omega)
      unfold ks at Hhp64 Hhpn Hhget ⊢
      go_enter Tryd.func5, Tryd.ntmps5
      go_wp2_with (first | (go_at_call 10; (refine ret_use (Hhnew.out) ?_; rintro v w2 hn2; have h2 := Hhok.out _ _ hn2; obtain ⟨q, rfl, hr2, hm2⟩ := h2; have HR2 := Lib.hid hr2; have HM2 := Lib.hid hm2; clear hn2 hr2 hm2)) | (go_at_call 16; (fail_if_success have := P1); (refine ret_use (Hhp64.out w2 q _ HR2.out) ?_; rintro v w3 ⟨ho3, hm3⟩; have P1 := True.intro; have HR3 := Lib.hid (HR2.out.no hm3); have HM3 := Lib.hid (HM2.out.trans hm3 fun _ _ e => e); have HA3 := Lib.hid ho3.rdlt; obtain ⟨A3, c3, rfl, ac3, _⟩ := ho3.form; clear ho3 hm3)) | (go_at_call 16; (refine ret_use (Hhpn.out w3 q _ HR3.out) ?_; rintro v w4 ⟨ho4, hm4⟩; have HR4 := Lib.hid (HR3.out.no hm4); have HM4 := Lib.hid (HM3.out.trans hm4 fun _ _ e => e); have HB4 := Lib.hid (HA3.out.keep hm4); have HC4 := Lib.hid ho4.rdlt; obtain ⟨A4, c4, rfl, _, _⟩ := ho4.form; clear ho4 hm4)) | (go_at_call 12; (refine ret_use (Hhsame.out w4 _ _ HC4.out (by have h7 := HB4.out.take (l := 0) (Nat.zero_le _); rw [Nat.mul_one, ← List.map_take] at h7; exact h7)) ?_; rintro v w5 ⟨rfl, hm5⟩; have HR5 := Lib.hid (HR4.out.no hm5); have HM5 := Lib.hid (HM4.out.trans hm5 fun _ _ e => e); have HB5 := Lib.hid (HB4.out.keep hm5); clear hm5)) | ((with_reducible refine wp_region_por ?_ ?_ ?_ ?_); kernel_rfl; kernel_rfl; (with_reducible repeat (first | exact calm_ret | refine calm_then ?_ | refine calm_in ?_ | refine calm_chk ?_ | refine calm_noGoto ?_))) | ((with_reducible refine chk_end ?_ ?_); kernel_rfl))
      go_loopg [14] l.length (fun k v14 wr => ∃ (i : Nat), v14 = .int .i64 i ∧ i ≤ l.length ∧ k + i = l.length ∧ Mods No w5 wr)
      case atStart => exact ⟨0, rfl, Nat.zero_le _, rfl, Mods.refl _ _⟩
      case round =>
        obtain ⟨i, rfl, hi, hki, hm6⟩ := hrel
        have Hki := Lib.hid hki
        have HM6 := Lib.hid hm6
        clear hki hm6
        rcases Nat.lt_or_ge i l.length with h1 | h1
        · have hib : i < B.length := by rw [HBl.out]; exact h1
          obtain ⟨x, hx⟩ := lt_get hib
          have hti : (B.take i).length = i := by rw [List.length_take]; omega
          have hw1 : ∀ w', Mods No wr w' → Calls Tryd.prog 21 #[.slice A3 i c3, ks x] w' (Ret fun u w'' => LenIs i u ∧ Mods No w' w'') := fun w' hm' => ret_use (without_K w' (.slice A3 i c3) (B.take i) x (by
            have h7 := ((HB5.out.keep (HM6.out.trans hm' fun _ _ e => e)).take (l := i) (by omega))
            rw [Nat.mul_one, ← List.map_take] at h7
            rw [hti]; exact h7) (by omega)) fun u w'' ⟨e1, e2⟩ => ⟨LenIs.own e1 (by rw [less1_take HBn.out hx, hti]), e2⟩
          have hw2 : ∀ w', Mods No wr w' → Calls Tryd.prog 21 #[.slice A l.length cp, ks x] w' (Ret fun u w'' => LenIs (l.length - 1) u ∧ Mods No w' w'') := fun w' hm' => ret_use (without_K w' (.slice A l.length cp) l x (Hhr.out.keep ((HM5.out.trans HM6.out fun _ _ e => e).trans hm' fun _ _ e => e)) (by omega)) fun u w'' ⟨e1, e2⟩ => ⟨LenIs.own e1 (by have := less1_len Hnd.out (HBp.out.mem_iff.1 (List.mem_of_getElem? hx)); omega), e2⟩
          obtain ⟨b3, o3, rfl, _, x0⟩ := (HB5.out.keep HM6.out).tx HBl.out hx
          have hx7 : ∀ w', Mods No wr w' → w'.cell? ⟨b3, o3 + i, none⟩ = some (ks x) := fun w' hm' => by
            obtain ⟨b, o, e9, _, h9⟩ := (HB5.out.keep (HM6.out.trans hm' fun _ _ e => e)).tx HBl.out hx
            injection e9 with e9
            injection e9 with e9 e8
            subst e9 e8
            exact h9
          have hd : ((l.length : Int) - 1) = ((l.length - 1 : Nat) : Int) := by omega
          unfold ks at x0 hw1 hw2
          clear hx hti hib
          have Hhw1 := Lib.hid hw1
          clear hw1
          have Hhw2 := Lib.hid hw2
          clear hw2
          have Hhx7 := Lib.hid hx7
          clear hx7
          go_wp2_with (first | (go_at_call 21; (fail_if_success have := W1); (refine ret_use (Hhw1.out wr.drew (Mods.refl No wr).drew) ?_; rintro v w7 ⟨⟨A7, c7, rfl⟩, hm7⟩; have W1 := True.intro; have HM7 := Lib.hid ((Mods.refl No wr).drew.trans hm7 fun _ _ e => e); have x7 := Hhx7.out w7 HM7.out; (unfold ks at x7); clear hm7)) | (go_at_call 21; (refine ret_use (Hhw2.out w7 HM7.out) ?_; rintro v w8 ⟨⟨A8, c8, rfl⟩, hm8⟩; have HM8 := Lib.hid (HM7.out.trans hm8 fun _ _ e => e); clear hm8)) | ((with_reducible refine wp_region_por ?_ ?_ ?_ ?_); kernel_rfl; kernel_rfl; (with_reducible repeat (first | exact calm_ret | refine calm_then ?_ | refine calm_in ?_ | refine calm_chk ?_ | refine calm_noGoto ?_))) | ((with_reducible refine chk_end ?_ ?_); kernel_rfl))
          go_roundg (gk - 1)
          case rel => exact ⟨i + 1, by go_num, h1, by have := Hki.out; omega, HM6.out.trans HM8.out fun _ _ e => e⟩
          case measure => have := Hki.out; omega
        · obtain rfl : i = l.length := by omega
          clear Hki
          have HR6 := Lib.hid (HR5.out.no HM6.out)
          have hge := Hhget.out wr q _ HR6.out
          have hal6 := fun w' (hm' : Mods No wr w') => Hhal.out w' ((HM5.out.trans HM6.out fun _ _ e => e).trans hm' fun _ _ e => e)
          rcases Nat.eq_zero_or_pos l.length with hz | hz
          · have hB0 : B = [] := List.eq_nil_of_length_eq_zero (by rw [HBl.out]; exact hz)
            have hg := Hgv.out
            rw [hB0] at hg
            rw [hg] at hge
            obtain rfl : l = [] := List.eq_nil_of_length_eq_zero hz
            clear hB0 hg
            have Hhge := Lib.hid hge
            clear hge
            have Hhal6 := Lib.hid hal6
            clear hal6
            have Hhz := Lib.hid hz
            clear hz
            go_wp2_with (first | (go_at_call 22; (refine ret_use (Hhge.out) ?_; rintro v w9 ⟨rfl, hm9⟩; have HM9 := Lib.hid hm9; clear hm9)) | (go_at_call 13; (refine ret_use (Hhal6.out w9 HM9.out) ?_; rintro v w10 ⟨rfl, hm10⟩; have HM10 := Lib.hid (HM9.out.trans hm10 fun _ _ e => e); clear hm10)) | ((with_reducible refine wp_region_por ?_ ?_ ?_ ?_); kernel_rfl; kernel_rfl; (with_reducible repeat (first | exact calm_ret | refine calm_then ?_ | refine calm_in ?_ | refine calm_chk ?_ | refine calm_noGoto ?_))) | ((with_reducible refine chk_end ?_ ?_); kernel_rfl))
            go_ret
            exact ⟨rfl, (HM5.out.trans HM6.out fun _ _ e => e).trans HM10.out fun _ _ e => e⟩
          · have hib : 0 < B.length := by rw [HBl.out]; exact hz
            obtain ⟨x, hx⟩ := lt_get hib
            have hg := Hgv.out
            obtain ⟨B1, hB1⟩ : ∃ B1, B = x :: B1 := by
              cases B with
              | nil => cases hx
              | cons y B1 => exact ⟨B1, by rw [List.getElem?_cons_zero] at hx; injection hx with hx; rw [hx]⟩
            rw [hB1] at hg
            rw [hg] at hge
            have hz' : decide (0 < (l.length : Int)) = true := decide_eq_true (by omega)
            have hb3 := fun w' (hm' : Mods No wr w') => (HB5.out.keep (HM6.out.trans hm' fun _ _ e => e)).tx HBl.out hx
            have hxs : (x == x) = true := beq_self_eq_true x
            clear hB1 hg hx hib
            have Hhge := Lib.hid hge
            clear hge
            have Hhal6 := Lib.hid hal6
            clear hal6
            have Hhb3 := Lib.hid hb3
            clear hb3
            go_wp2_with (first | (go_at_call 22; (refine ret_use (Hhge.out) ?_; rintro v w9 ⟨rfl, hm9⟩; have HM9 := Lib.hid hm9; obtain ⟨b3, o3, rfl, _, x0⟩ := Hhb3.out w9 hm9; (rw [Nat.add_zero] at x0); (unfold ks at x0); clear hm9)) | (go_at_call 13; (refine ret_use (Hhal6.out w9 HM9.out) ?_; rintro v w10 ⟨rfl, hm10⟩; have HM10 := Lib.hid (HM9.out.trans hm10 fun _ _ e => e); clear hm10)) | ((with_reducible refine wp_region_por ?_ ?_ ?_ ?_); kernel_rfl; kernel_rfl; (with_reducible repeat (first | exact calm_ret | refine calm_then ?_ | refine calm_in ?_ | refine calm_chk ?_ | refine calm_noGoto ?_))) | ((with_reducible refine chk_end ?_ ?_); kernel_rfl))
            go_ret
            exact ⟨rfl, (HM5.out.trans HM6.out fun _ _ e => e).trans HM10.out fun _ _ e => e⟩
    · have hn' : decide (n < 0) = false := decide_eq_false hn
      have hn2' : decide ((l.length : Int) < n) = true := decide_eq_true hn2
      unfold ks at Hhp64 Hhpn Hhget ⊢
      go_enter Tryd.func5, Tryd.ntmps5
      go_wp2_with (first | (go_at_call 10; (refine ret_use (Hhnew.out) ?_; rintro v w2 hn2; have h2 := Hhok.out _ _ hn2; obtain ⟨q, rfl, hr2, hm2⟩ := h2; have HR2 := Lib.hid hr2; have HM2 := Lib.hid hm2; clear hn2 hr2 hm2)) | (go_at_call 16; (fail_if_success have := P1); (refine ret_use (Hhp64.out w2 q _ HR2.out) ?_; rintro v w3 ⟨ho3, hm3⟩; have P1 := True.intro; have HR3 := Lib.hid (HR2.out.no hm3); have HM3 := Lib.hid (HM2.out.trans hm3 fun _ _ e => e); have HA3 := Lib.hid ho3.rdlt; obtain ⟨A3, c3, rfl, ac3, _⟩ := ho3.form; clear ho3 hm3)) | (go_at_call 16; (refine ret_use (Hhpn.out w3 q _ HR3.out) ?_; rintro v w4 ⟨ho4, hm4⟩; have HR4 := Lib.hid (HR3.out.no hm4); have HM4 := Lib.hid (HM3.out.trans hm4 fun _ _ e => e); have HB4 := Lib.hid (HA3.out.keep hm4); have HC4 := Lib.hid ho4.rdlt; obtain ⟨A4, c4, rfl, _, _⟩ := ho4.form; clear ho4 hm4)) | (go_at_call 12; (refine ret_use (Hhsame.out w4 _ _ HC4.out (by have h7 := HB4.out.take (l := l.length) (Nat.le_refl _); rw [Nat.mul_one, ← List.map_take] at h7; exact h7)) ?_; rintro v w5 ⟨rfl, hm5⟩; have HR5 := Lib.hid (HR4.out.no hm5); have HM5 := Lib.hid (HM4.out.trans hm5 fun _ _ e => e); have HB5 := Lib.hid (HB4.out.keep hm5); clear hm5)) | ((with_reducible refine wp_region_por ?_ ?_ ?_ ?_); kernel_rfl; kernel_rfl; (with_reducible repeat (first | exact calm_ret | refine calm_then ?_ | refine calm_in ?_ | refine calm_chk ?_ | refine calm_noGoto ?_))) | ((with_reducible refine chk_end ?_ ?_); kernel_rfl))
      go_loopg [14] l.length (fun k v14 wr => ∃ (i : Nat), v14 = .int .i64 i ∧ i ≤ l.length ∧ k + i = l.length ∧ Mods No w5 wr)
      case atStart => exact ⟨0, rfl, Nat.zero_le _, rfl, Mods.refl _ _⟩
      case round =>
        obtain ⟨i, rfl, hi, hki, hm6⟩ := hrel
        have Hki := Lib.hid hki
        have HM6 := Lib.hid hm6
        clear hki hm6
        rcases Nat.lt_or_ge i l.length with h1 | h1
        · have hib : i < B.length := by rw [HBl.out]; exact h1
          obtain ⟨x, hx⟩ := lt_get hib
          have hti : (B.take i).length = i := by rw [List.length_take]; omega
          have hw1 : ∀ w', Mods No wr w' → Calls Tryd.prog 21 #[.slice A3 i c3, ks x] w' (Ret fun u w'' => LenIs i u ∧ Mods No w' w'') := fun w' hm' => ret_use (without_K w' (.slice A3 i c3) (B.take i) x (by
            have h7 := ((HB5.out.keep (HM6.out.trans hm' fun _ _ e => e)).take (l := i) (by omega))
            rw [Nat.mul_one, ← List.map_take] at h7
            rw [hti]; exact h7) (by omega)) fun u w'' ⟨e1, e2⟩ => ⟨LenIs.own e1 (by rw [less1_take HBn.out hx, hti]), e2⟩
          have hw2 : ∀ w', Mods No wr w' → Calls Tryd.prog 21 #[.slice A l.length cp, ks x] w' (Ret fun u w'' => LenIs (l.length - 1) u ∧ Mods No w' w'') := fun w' hm' => ret_use (without_K w' (.slice A l.length cp) l x (Hhr.out.keep ((HM5.out.trans HM6.out fun _ _ e => e).trans hm' fun _ _ e => e)) (by omega)) fun u w'' ⟨e1, e2⟩ => ⟨LenIs.own e1 (by have := less1_len Hnd.out (HBp.out.mem_iff.1 (List.mem_of_getElem? hx)); omega), e2⟩
          obtain ⟨b3, o3, rfl, _, x0⟩ := (HB5.out.keep HM6.out).tx HBl.out hx
          have hx7 : ∀ w', Mods No wr w' → w'.cell? ⟨b3, o3 + i, none⟩ = some (ks x) := fun w' hm' => by
            obtain ⟨b, o, e9, _, h9⟩ := (HB5.out.keep (HM6.out.trans hm' fun _ _ e => e)).tx HBl.out hx
            injection e9 with e9
            injection e9 with e9 e8
            subst e9 e8
            exact h9
          have hd : ((l.length : Int) - 1) = ((l.length - 1 : Nat) : Int) := by omega
          unfold ks at x0 hw1 hw2
          clear hx hti hib
          have Hhw1 := Lib.hid hw1
          clear hw1
          have Hhw2 := Lib.hid hw2
          clear hw2
          have Hhx7 := Lib.hid hx7
          clear hx7
          go_wp2_with (first | (go_at_call 21; (fail_if_success have := W1); (refine ret_use (Hhw1.out wr.drew (Mods.refl No wr).drew) ?_; rintro v w7 ⟨⟨A7, c7, rfl⟩, hm7⟩; have W1 := True.intro; have HM7 := Lib.hid ((Mods.refl No wr).drew.trans hm7 fun _ _ e => e); have x7 := Hhx7.out w7 HM7.out; (unfold ks at x7); clear hm7)) | (go_at_call 21; (refine ret_use (Hhw2.out w7 HM7.out) ?_; rintro v w8 ⟨⟨A8, c8, rfl⟩, hm8⟩; have HM8 := Lib.hid (HM7.out.trans hm8 fun _ _ e => e); clear hm8)) | ((with_reducible refine wp_region_por ?_ ?_ ?_ ?_); kernel_rfl; kernel_rfl; (with_reducible repeat (first | exact calm_ret | refine calm_then ?_ | refine calm_in ?_ | refine calm_chk ?_ | refine calm_noGoto ?_))) | ((with_reducible refine chk_end ?_ ?_); kernel_rfl))
          go_roundg (gk - 1)
          case rel => exact ⟨i + 1, by go_num, h1, by have := Hki.out; omega, HM6.out.trans HM8.out fun _ _ e => e⟩
          case measure => have := Hki.out; omega
        · obtain rfl : i = l.length := by omega
          clear Hki
          have HR6 := Lib.hid (HR5.out.no HM6.out)
          have hge := Hhget.out wr q _ HR6.out
          have hal6 := fun w' (hm' : Mods No wr w') => Hhal.out w' ((HM5.out.trans HM6.out fun _ _ e => e).trans hm' fun _ _ e => e)
          rcases Nat.eq_zero_or_pos l.length with hz | hz
          · have hB0 : B = [] := List.eq_nil_of_length_eq_zero (by rw [HBl.out]; exact hz)
            have hg := Hgv.out
            rw [hB0] at hg
            rw [hg] at hge
            obtain rfl : l = [] := List.eq_nil_of_length_eq_zero hz
            clear hB0 hg
            have Hhge := Lib.hid hge
            clear hge
            have Hhal6 := Lib.hid hal6
            clear hal6
            have Hhz := Lib.hid hz
            clear hz
            go_wp2_with (first | (go_at_call 22; (refine ret_use (Hhge.out) ?_; rintro v w9 ⟨rfl, hm9⟩; have HM9 := Lib.hid hm9; clear hm9)) | (go_at_call 13; (refine ret_use (Hhal6.out w9 HM9.out) ?_; rintro v w10 ⟨rfl, hm10⟩; have HM10 := Lib.hid (HM9.out.trans hm10 fun _ _ e => e); clear hm10)) | ((with_reducible refine wp_region_por ?_ ?_ ?_ ?_); kernel_rfl; kernel_rfl; (with_reducible repeat (first | exact calm_ret | refine calm_then ?_ | refine calm_in ?_ | refine calm_chk ?_ | refine calm_noGoto ?_))) | ((with_reducible refine chk_end ?_ ?_); kernel_rfl))
            go_ret
            exact ⟨rfl, (HM5.out.trans HM6.out fun _ _ e => e).trans HM10.out fun _ _ e => e⟩
          · have hib : 0 < B.length := by rw [HBl.out]; exact hz
            obtain ⟨x, hx⟩ := lt_get hib
            have hg := Hgv.out
            obtain ⟨B1, hB1⟩ : ∃ B1, B = x :: B1 := by
              cases B with
              | nil => cases hx
              | cons y B1 => exact ⟨B1, by rw [List.getElem?_cons_zero] at hx; injection hx with hx; rw [hx]⟩
            rw [hB1] at hg
            rw [hg] at hge
            have hz' : decide (0 < (l.length : Int)) = true := decide_eq_true (by omega)
            have hb3 := fun w' (hm' : Mods No wr w') => (HB5.out.keep (HM6.out.trans hm' fun _ _ e => e)).tx HBl.out hx
            have hxs : (x == x) = true := beq_self_eq_true x
            clear hB1 hg hx hib
            have Hhge := Lib.hid hge
            clear hge
            have Hhal6 := Lib.hid hal6
            clear hal6
            have Hhb3 := Lib.hid hb3
            clear hb3
            go_wp2_with (first | (go_at_call 22; (refine ret_use (Hhge.out) ?_; rintro v w9 ⟨rfl, hm9⟩; have HM9 := Lib.hid hm9; obtain ⟨b3, o3, rfl, _, x0⟩ := Hhb3.out w9 hm9; (rw [Nat.add_zero] at x0); (unfold ks at x0); clear hm9)) | (go_at_call 13; (refine ret_use (Hhal6.out w9 HM9.out) ?_; rintro v w10 ⟨rfl, hm10⟩; have HM10 := Lib.hid (HM9.out.trans hm10 fun _ _ e => e); clear hm10)) | ((with_reducible refine wp_region_por ?_ ?_ ?_ ?_); kernel_rfl; kernel_rfl; (with_reducible repeat (first | exact calm_ret | refine calm_then ?_ | refine calm_in ?_ | refine calm_chk ?_ | refine calm_noGoto ?_))) | ((with_reducible refine chk_end ?_ ?_); kernel_rfl))
            go_ret
            exact ⟨rfl, (HM5.out.trans HM6.out fun _ _ e => e).trans HM10.out fun _ _ e => e⟩
    · have hn' : decide ((m : Int) < 0) = false := decide_eq_false (by omega)
      have hn2' : decide ((l.length : Int) < (m : Int)) = false := decide_eq_false (by omega)
      unfold ks at Hhp64 Hhpn Hhget ⊢
      go_enter Tryd.func5, Tryd.ntmps5
      go_wp2_with (first | (go_at_call 10; (refine ret_use (Hhnew.out) ?_; rintro v w2 hn2; have h2 := Hhok.out _ _ hn2; obtain ⟨q, rfl, hr2, hm2⟩ := h2; have HR2 := Lib.hid hr2; have HM2 := Lib.hid hm2; clear hn2 hr2 hm2)) | (go_at_call 16; (fail_if_success have := P1); (refine ret_use (Hhp64.out w2 q _ HR2.out) ?_; rintro v w3 ⟨ho3, hm3⟩; have P1 := True.intro; have HR3 := Lib.hid (HR2.out.no hm3); have HM3 := Lib.hid (HM2.out.trans hm3 fun _ _ e => e); have HA3 := Lib.hid ho3.rdlt; obtain ⟨A3, c3, rfl, ac3, _⟩ := ho3.form; clear ho3 hm3)) | (go_at_call 16; (refine ret_use (Hhpn.out w3 q _ HR3.out) ?_; rintro v w4 ⟨ho4, hm4⟩; have HR4 := Lib.hid (HR3.out.no hm4); have HM4 := Lib.hid (HM3.out.trans hm4 fun _ _ e => e); have HB4 := Lib.hid (HA3.out.keep hm4); have HC4 := Lib.hid ho4.rdlt; obtain ⟨A4, c4, rfl, _, _⟩ := ho4.form; clear ho4 hm4)) | (go_at_call 12; (refine ret_use (Hhsame.out w4 _ _ HC4.out (by have h7 := HB4.out.take (l := m) hmB; rw [Nat.mul_one, ← List.map_take] at h7; exact h7)) ?_; rintro v w5 ⟨rfl, hm5⟩; have HR5 := Lib.hid (HR4.out.no hm5); have HM5 := Lib.hid (HM4.out.trans hm5 fun _ _ e => e); have HB5 := Lib.hid (HB4.out.keep hm5); clear hm5)) | ((with_reducible refine wp_region_por ?_ ?_ ?_ ?_); kernel_rfl; kernel_rfl; (with_reducible repeat (first | exact calm_ret | refine calm_then ?_ | refine calm_in ?_ | refine calm_chk ?_ | refine calm_noGoto ?_))) | ((with_reducible refine chk_end ?_ ?_); kernel_rfl))
      go_loopg [14] l.length (fun k v14 wr => ∃ (i : Nat), v14 = .int .i64 i ∧ i ≤ l.length ∧ k + i = l.length ∧ Mods No w5 wr)
      case atStart => exact ⟨0, rfl, Nat.zero_le _, rfl, Mods.refl _ _⟩
      case round =>
        obtain ⟨i, rfl, hi, hki, hm6⟩ := hrel
        have Hki := Lib.hid hki
        have HM6 := Lib.hid hm6
        clear hki hm6
        rcases Nat.lt_or_ge i l.length with h1 | h1
        · have hib : i < B.length := by rw [HBl.out]; exact h1
          obtain ⟨x, hx⟩ := lt_get hib
          have hti : (B.take i).length = i := by rw [List.length_take]; omega
          have hw1 : ∀ w', Mods No wr w' → Calls Tryd.prog 21 #[.slice A3 i c3, ks x] w' (Ret fun u w'' => LenIs i u ∧ Mods No w' w'') := fun w' hm' => ret_use (without_K w' (.slice A3 i c3) (B.take i) x (by
            have h7 := ((HB5.out.keep (HM6.out.trans hm' fun _ _ e => e)).take (l := i) (by omega))
            rw [Nat.mul_one, ← List.map_take] at h7
            rw [hti]; exact h7) (by omega)) fun u w'' ⟨e1, e2⟩ => ⟨LenIs.own e1 (by rw [less1_take HBn.out hx, hti]), e2⟩
          have hw2 : ∀ w', Mods No wr w' → Calls Tryd.prog 21 #[.slice A l.length cp, ks x] w' (Ret fun u w'' => LenIs (l.length - 1) u ∧ Mods No w' w'') := fun w' hm' => ret_use (without_K w' (.slice A l.length cp) l x (Hhr.out.keep ((HM5.out.trans HM6.out fun _ _ e => e).trans hm' fun _ _ e => e)) (by omega)) fun u w'' ⟨e1, e2⟩ => ⟨LenIs.own e1 (by have := less1_len Hnd.out (HBp.out.mem_iff.1 (List.mem_of_getElem? hx)); omega), e2⟩
          obtain ⟨b3, o3, rfl, _, x0⟩ := (HB5.out.keep HM6.out).tx HBl.out hx
          have hx7 : ∀ w', Mods No wr w' → w'.cell? ⟨b3, o3 + i, none⟩ = some (ks x) := fun w' hm' => by
            obtain ⟨b, o, e9, _, h9⟩ := (HB5.out.keep (HM6.out.trans hm' fun _ _ e => e)).tx HBl.out hx
            injection e9 with e9
            injection e9 with e9 e8
            subst e9 e8
            exact h9
          have hd : ((l.length : Int) - 1) = ((l.length - 1 : Nat) : Int) := by omega
          unfold ks at x0 hw1 hw2
          clear hx hti hib
          have Hhw1 := Lib.hid hw1
          clear hw1
          have Hhw2 := Lib.hid hw2
          clear hw2
          have Hhx7 := Lib.hid hx7
          clear hx7
          go_wp2_with (first | (go_at_call 21; (fail_if_success have := W1); (refine ret_use (Hhw1.out wr.drew (Mods.refl No wr).drew) ?_; rintro v w7 ⟨⟨A7, c7, rfl⟩, hm7⟩; have W1 := True.intro; have HM7 := Lib.hid ((Mods.refl No wr).drew.trans hm7 fun _ _ e => e); have x7 := Hhx7.out w7 HM7.out; (unfold ks at x7); clear hm7)) | (go_at_call 21; (refine ret_use (Hhw2.out w7 HM7.out) ?_; rintro v w8 ⟨⟨A8, c8, rfl⟩, hm8⟩; have HM8 := Lib.hid (HM7.out.trans hm8 fun _ _ e => e); clear hm8)) | ((with_reducible refine wp_region_por ?_ ?_ ?_ ?_); kernel_rfl; kernel_rfl; (with_reducible repeat (first | exact calm_ret | refine calm_then ?_ | refine calm_in ?_ | refine calm_chk ?_ | refine calm_noGoto ?_))) | ((with_reducible refine chk_end ?_ ?_); kernel_rfl))
          go_roundg (gk - 1)
          case rel => exact ⟨i + 1, by go_num, h1, by have := Hki.out; omega, HM6.out.trans HM8.out fun _ _ e => e⟩
          case measure => have := Hki.out; omega
        · obtain rfl : i = l.length := by omega
          clear Hki
          have HR6 := Lib.hid (HR5.out.no HM6.out)
          have hge := Hhget.out wr q _ HR6.out
          have hal6 := fun w' (hm' : Mods No wr w') => Hhal.out w' ((HM5.out.trans HM6.out fun _ _ e => e).trans hm' fun _ _ e => e)
          rcases Nat.eq_zero_or_pos l.length with hz | hz
          · have hB0 : B = [] := List.eq_nil_of_length_eq_zero (by rw [HBl.out]; exact hz)
            have hg := Hgv.out
            rw [hB0] at hg
            rw [hg] at hge
            obtain rfl : l = [] := List.eq_nil_of_length_eq_zero hz
            clear hB0 hg
            have Hhge := Lib.hid hge
            clear hge
            have Hhal6 := Lib.hid hal6
            clear hal6
            have Hhz := Lib.hid hz
            clear hz
            go_wp2_with (first | (go_at_call 22; (refine ret_use (Hhge.out) ?_; rintro v w9 ⟨rfl, hm9⟩; have HM9 := Lib.hid hm9; clear hm9)) | (go_at_call 13; (refine ret_use (Hhal6.out w9 HM9.out) ?_; rintro v w10 ⟨rfl, hm10⟩; have HM10 := Lib.hid (HM9.out.trans hm10 fun _ _ e => e); clear hm10)) | ((with_reducible refine wp_region_por ?_ ?_ ?_ ?_); kernel_rfl; kernel_rfl; (with_reducible repeat (first | exact calm_ret | refine calm_then ?_ | refine calm_in ?_ | refine calm_chk ?_ | refine calm_noGoto ?_))) | ((with_reducible refine chk_end ?_ ?_); kernel_rfl))
            go_ret
            exact ⟨rfl, (HM5.out.trans HM6.out fun _ _ e => e).trans HM10.out fun _ _ e => e⟩
          · have hib : 0 < B.length := by rw [HBl.out]; exact hz
            obtain ⟨x, hx⟩ := lt_get hib
            have hg := Hgv.out
            obtain ⟨B1, hB1⟩ : ∃ B1, B = x :: B1 := by
              cases B with
              | nil => cases hx
              | cons y B1 => exact ⟨B1, by rw [List.getElem?_cons_zero] at hx; injection hx with hx; rw [hx]⟩
            rw [hB1] at hg
            rw [hg] at hge
            have hz' : decide (0 < (l.length : Int)) = true := decide_eq_true (by omega)
            have hb3 := fun w' (hm' : Mods No wr w') => (HB5.out.keep (HM6.out.trans hm' fun _ _ e => e)).tx HBl.out hx
            have hxs : (x == x) = true := beq_self_eq_true x
            clear hB1 hg hx hib
            have Hhge := Lib.hid hge
            clear hge
            have Hhal6 := Lib.hid hal6
            clear hal6
            have Hhb3 := Lib.hid hb3
            clear hb3
            go_wp2_with (first | (go_at_call 22; (refine ret_use (Hhge.out) ?_; rintro v w9 ⟨rfl, hm9⟩; have HM9 := Lib.hid hm9; obtain ⟨b3, o3, rfl, _, x0⟩ := Hhb3.out w9 hm9; (rw [Nat.add_zero] at x0); (unfold ks at x0); clear hm9)) | (go_at_call 13; (refine ret_use (Hhal6.out w9 HM9.out) ?_; rintro v w10 ⟨rfl, hm10⟩; have HM10 := Lib.hid (HM9.out.trans hm10 fun _ _ e => e); clear hm10)) | ((with_reducible refine wp_region_por ?_ ?_ ?_ ?_); kernel_rfl; kernel_rfl; (with_reducible repeat (first | exact calm_ret | refine calm_then ?_ | refine calm_in ?_ | refine calm_chk ?_ | refine calm_noGoto ?_))) | ((with_reducible refine chk_end ?_ ?_); kernel_rfl))
            go_ret
            exact ⟨rfl, (HM5.out.trans HM6.out fun _ _ e => e).trans HM10.out fun _ _ e => e⟩
  · have he1 : (e != 0) = true := bne_iff_ne.2 h0
    have hbad := fun w' v (h : NewIs w w' l c v) => new_bad h he h0
    clear he
    have Hhnew := Lib.hid hnew
    clear hnew
    have Hhal := Lib.hid hal
    clear hal
    have Hhr := Lib.hid hr
    clear hr
    have Hht := Lib.hid ht
    clear ht
    have Hhbad := Lib.hid hbad
    clear hbad
    unfold ks
    go_enter Tryd.func5, Tryd.ntmps5
    go_wp2_with (first | (go_at_call 10; (refine ret_use (Hhnew.out) ?_; rintro v w2 hn2; have h2 := Hhbad.out _ _ hn2; obtain ⟨rfl, hm2⟩ := h2; have HM2 := Lib.hid hm2; clear hn2 hm2)) | (go_at_call 13; (refine ret_use (Hhal.out w2 HM2.out) ?_; rintro v w3 ⟨rfl, hm3⟩; have HM3 := Lib.hid hm3; clear hm3)) | ((with_reducible refine wp_region_por ?_ ?_ ?_ ?_); kernel_rfl; kernel_rfl; (with_reducible repeat (first | exact calm_ret | refine calm_then ?_ | refine calm_in ?_ | refine calm_chk ?_ | refine calm_noGoto ?_))) | ((with_reducible refine chk_end ?_ ?_); kernel_rfl))
    go_ret
    exact ⟨rfl, HM2.out.trans HM3.out fun _ _ e => e⟩
end Go.Proofs.YtilkepmmkhmghaaDoor
