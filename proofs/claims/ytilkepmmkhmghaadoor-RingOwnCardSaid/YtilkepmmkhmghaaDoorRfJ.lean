/- The law RingOwn, walked. -/
import Derived.Test.YtilkepmmkhmghaaDoorRfI
namespace Go.Proofs.YtilkepmmkhmghaaDoor
open Go.RowKit Go.Tum Go.Lib Go.Sort
set_option maxRecDepth 100000
theorem _root_.Go.Tum.Own.write1 {w : World} {F : Nat → Prop} {e : TypeId} {A : Option Addr} {n c : Nat} {xs : List Value} (h : Tum.Own w F e 1 (.slice A n c) n xs) {i : Nat} (hi : i < n) :
    ∃ g u, A = some ⟨g, 0, none⟩ ∧ g < w.heap.size ∧ w.cell? ⟨g, i, none⟩ = some u ∧ w.frozen? ⟨g, i, none⟩ = false ∧ ∀ x, Tum.Own (w.setCell ⟨g, i, none⟩ x) F e 1 (.slice A n c) n (xs.set i x) ∧ Mods F w (w.setCell ⟨g, i, none⟩ x) := by
  obtain ⟨g, c', e1, hF, _, hc⟩ := h.cells (by omega)
  injection e1 with e1 _ e2
  subst e1 e2
  obtain ⟨h1, h2⟩ := hc i (by omega)
  have hl : xs.length = n := by have := h.1.1; omega
  obtain ⟨u, hu⟩ := lt_get (l := xs) (show i < xs.length by omega)
  rw [hu] at h1
  exact ⟨g, u, rfl, h.lt g rfl, h1, h2, fun x => ⟨h.set (g := g) rfl i x, (Mods.refl F w).setCell _ _ fun _ => hF⟩⟩
theorem _root_.Go.Tum.Own.write2 {w : World} {F : Nat → Prop} {e : TypeId} {A : Option Addr} {n c : Nat} {xs : List Value} (h : Tum.Own w F e 2 (.slice A n c) n xs) {i : Nat} (hi : i < n) :
    ∃ g u u', A = some ⟨g, 0, none⟩ ∧ g < w.heap.size ∧ w.cell? ⟨g, i * 2, none⟩ = some u ∧ w.cell? ⟨g, i * 2 + 1, none⟩ = some u' ∧ w.frozen? ⟨g, i * 2, none⟩ = false ∧ w.frozen? ⟨g, i * 2 + 1, none⟩ = false ∧
      ∀ x y, Tum.Own ((w.setCell ⟨g, i * 2, none⟩ x).setCell ⟨g, i * 2 + 1, none⟩ y) F e 2 (.slice A n c) n ((xs.set (i * 2) x).set (i * 2 + 1) y) ∧ Mods F w ((w.setCell ⟨g, i * 2, none⟩ x).setCell ⟨g, i * 2 + 1, none⟩ y) := by
  obtain ⟨g, c', e1, hF, _, hc⟩ := h.cells (by omega)
  injection e1 with e1 _ e2
  subst e1 e2
  obtain ⟨h1, h2⟩ := hc (i * 2) (by omega)
  obtain ⟨h3, h4⟩ := hc (i * 2 + 1) (by omega)
  have hl : xs.length = n * 2 := h.1.1
  obtain ⟨u, hu⟩ := lt_get (l := xs) (show i * 2 < xs.length by omega)
  obtain ⟨u', hu'⟩ := lt_get (l := xs) (show i * 2 + 1 < xs.length by omega)
  rw [hu] at h1
  rw [hu'] at h3
  exact ⟨g, u, u', rfl, h.lt g rfl, h1, h3, h2, h4, fun x y => ⟨(h.set (g := g) rfl (i * 2) x).set (g := g) rfl (i * 2 + 1) y, ((Mods.refl F w).setCell _ _ fun _ => hF).setCell _ _ fun _ => hF⟩⟩
abbrev Rng (lo hi : Nat) : Nat → Prop := fun g => lo ≤ g ∧ g < hi
/-- A pair whose blocks lie below hi. -/
def PairB (w : World) (n0 hi q r c : Nat) (N : List Tx) : Prop := ∃ F G, Pair w n0 q r c N N F G ∧ (∀ g, F g → g < hi) ∧ ∀ g, G g → g < hi
theorem PairE.bound {w : World} {n0 q r c : Nat} {N : List Tx} (h : PairE w n0 q r c N) : PairB w n0 w.heap.size q r c N := by
  obtain ⟨F, G, h⟩ := h
  exact ⟨F, G, h, fun g hg => (h.fb g hg).2, fun g hg => (h.gb g hg).2⟩
theorem PairB.mods {S : Nat → Prop} {w w' : World} {n0 hi q r c : Nat} {N : List Tx} (h : PairB w n0 hi q r c N) (hm : Mods S w w') (hS : ∀ g, S g → g < n0 ∨ hi ≤ g) (ht : ¬ S 1) : PairB w' n0 hi q r c N := by
  obtain ⟨F, G, h, hf, hg⟩ := h
  have hsz := hm.size
  refine ⟨F, G, ⟨h.ring.mods hm fun g _ e k => ?_, h.ref.mods hm fun g _ e k => ?_, h.dis, fun g e => ⟨(h.fb g e).1, Nat.lt_of_lt_of_le (h.fb g e).2 hsz⟩, fun g e => ⟨(h.gb g e).1, Nat.lt_of_lt_of_le (h.gb g e).2 hsz⟩, h.tab.mods hm ht, h.tn⟩, hf, hg⟩
  · have := hS g k; have := h.fb g e; have := hf g e; omega
  · have := hS g k; have := h.gb g e; have := hg g e; omega
theorem PairB.no {w w' : World} {n0 hi q r c : Nat} {N : List Tx} (h : PairB w n0 hi q r c N) (hm : Mods No w w') : PairB w' n0 hi q r c N := h.mods hm (fun _ e => e.elim) fun e => e
theorem PairB.tn {w : World} {n0 hi q r c : Nat} {N : List Tx} (h : PairB w n0 hi q r c N) : 1 < n0 := by
  obtain ⟨F, G, h, _⟩ := h
  exact h.tn
theorem _root_.Go.Tum.Own.rng {w w' : World} {F : Nat → Prop} {e : TypeId} {size n lo : Nat} {v : Value} {xs : List Value} (h : Tum.Own w F e size v n xs) (hF : ∀ g, F g → lo ≤ g) (hm : Mods No w w') : Tum.Own w' (Rng lo w.heap.size) e size v n xs := by
  have h1 : Tum.Own w (Rng lo w.heap.size) e size v n xs := ⟨h.1, fun g hg => ⟨hF g (h.2 g hg), h.lt g hg⟩⟩
  exact Tum.Own.mods h1 hm fun _ _ e => e
theorem rng_new {lo hi : Nat} {w0 a b : World} (h : Mods (Rng lo hi) a b) (hl : w0.heap.size ≤ lo) (h0 : Mods No w0 a) : Mods No w0 b := h0.trans h fun _ hk e => absurd hk (Nat.not_lt.2 (Nat.le_trans hl e.1))
set_option maxHeartbeats 6400000 in
theorem ringOwn_K (w : World) (v : Value) (l : List Tx) (n : Int) (s : Tx) (hr : Rd w (fun g => g < w.heap.size) 1 v l.length (l.map ks)) (hlb : l.length * 16 ≤ 140737488355328) (ht : Tab w) (hsl : s.length ≤ maxLen) :
    Calls Tryd.prog 3 #[v, .int .i64 n, ks s] w (Ret fun v w' => v = .bool true ∧ Mods No w w') := by
  have hnew := fun w' v' (hm : Mods No w w') (h : Own w' (fun g => w.heap.size ≤ g) 9 1 v' l.length (l.map ks)) => new_K w' v' l n h.rdlt (ht.no hm)
  have hrn := fun w' (hm : Mods No w w') => rnew_K w' v l n (hr.keep hm)
  have hal := fun w' (hm : Mods No w w') => alive_K w' (ht.no hm)
  obtain ⟨A0, cp0, rfl, _, hmx⟩ := hr.form
  obtain ⟨e, he⟩ : ∃ e, e = newE l n := ⟨_, rfl⟩
  by_cases h0 : e = 0
  · have he0 : newE l n = 0 := he ▸ h0
    obtain ⟨h1, _, hl64, _, _⟩ := newE_zero he0
    have hok := fun w1 w' v (h : NewIs w1 w' l n v) => new_ok h he0
    have hrk := fun w1 w2 v (h : RNewIs w1 w2 l n v) => rnew_ok h he0 h1
    clear he h0
    have Hhnew := Lib.hid hnew
    clear hnew
    have Hhrn := Lib.hid hrn
    clear hrn
    have Hhal := Lib.hid hal
    clear hal
    have Hhok := Lib.hid hok
    clear hok
    have Hhrk := Lib.hid hrk
    clear hrk
    have Hhr := Lib.hid hr
    clear hr
    have Hht := Lib.hid ht
    clear ht
    have Hhe0 := Lib.hid he0
    clear he0
    unfold ks
    go_enter Tryd.func3, Tryd.ntmps3
    go_wp2_with (first | (at_builtin; (fail_if_success have := HO1); ((refine wpList_append _ rfl (.tmp 19) (.tmp 20) 22 rfl 9 (.string ⟨#[]⟩) 1 16 Tryd.underlying22 infoTx rfl (by decide) (F := fun g => w.heap.size ≤ g) (n := 0) (xs := []) (by rfl) (Own.nil _ _ _ _) (G := fun g => g < w.heap.size) (y := .slice A0 l.length cp0) (m := l.length) (news := l.map ks) (by rfl) Hhr.out (ks_ones l) (by omega) (by decide) ?_); intro v1 w1 hown1 hm1 _; (simp only [Nat.zero_add, List.nil_append] at hown1); have HO1 := Lib.hid (hown1.more (G := fun g => w.heap.size ≤ g) fun g hg => by rcases hg with e | e; cases e; exact Nat.le_of_eq e.symm); have HM1 := Lib.hid (hm1.mono (T := No) fun g _ e => by cases e); obtain ⟨A1, c1, rfl, _, _⟩ := hown1.form; clear hown1 hm1)) | (go_at_call 10; (refine ret_use (Hhnew.out w1 _ HM1.out HO1.out) ?_; rintro v w2 hn2; have hx2 := Hhok.out _ _ _ hn2; obtain ⟨q, rfl, hr2, hm2⟩ := hx2; have HR2 := Lib.hid hr2; have HM2 := Lib.hid hm2; clear hn2 hr2 hm2)) | (go_at_call 11; (refine ret_use (Hhrn.out w2 (HM1.out.trans HM2.out fun _ _ e => e)) ?_; rintro v w3 hn3; have hx3 := Hhrk.out _ _ _ hn3; obtain ⟨C, A, B, na, ca, nb, cb, hnC, rfl, hm3, ho3, hp3⟩ := hx3; subst hnC; have HP3 := Lib.hid (pair_start HR2.out HM2.out hm3 (Hht.out.no HM1.out) ho3 hp3); have HM3 := Lib.hid ((HM2.out.trans hm3 fun _ _ e => e).alloc (.cells #[.int .i64 (C : Int), .slice A na ca, .slice B nb cb] 29)); have HO3 := Lib.hid (Tum.Own.mods HO1.out HM3.out fun _ _ e => e); clear hn3 hm3 ho3 hp3)) | (go_at_call 12; (refine ret_use (sameT_K _ _ _ _ _ l l HO3.out.rdlt (Hhr.out.keep (HM1.out.trans HM3.out fun _ _ e => e)) (fun _ e => e) (fun _ e => e)) ?_; rintro u w4 ⟨rfl, hm4⟩; have HP4 := Lib.hid (HP3.out.no hm4); have HM4 := Lib.hid (HM3.out.trans hm4 fun _ _ e => e); clear hm4)) | (go_at_call 13; (refine ret_use (Hhal.out _ (HM1.out.trans HM4.out fun _ _ e => e)) ?_; rintro v w5 ⟨rfl, hm5⟩; have HP5 := Lib.hid (HP4.out.no hm5); have HM5 := Lib.hid (HM4.out.trans hm5 fun _ _ e => e); clear hm5)) | ((with_reducible refine wp_region_por ?_ ?_ ?_ ?_); kernel_rfl; kernel_rfl; (with_reducible repeat (first | exact calm_ret | refine calm_then ?_ | refine calm_in ?_ | refine calm_chk ?_ | refine calm_noGoto ?_))) | ((with_reducible refine chk_end ?_ ?_); kernel_rfl))
    obtain ⟨N, hN⟩ : ∃ N, N = nodesOf l := ⟨_, rfl⟩
    obtain ⟨r, hrr⟩ : ∃ r, r = w3.heap.size := ⟨_, rfl⟩
    have HPB := Lib.hid (show PairB w5 w1.heap.size w5.heap.size q w3.heap.size C (nodesOf l) from HP5.out.bound)
    rw [← hN, ← hrr] at HPB
    rw [← hrr]
    have HOm := Lib.hid (HO1.out.rng (lo := w.heap.size) (fun g e => e) HM5.out)
    have HW5 := Lib.hid (HM1.out.trans HM5.out fun _ _ e => e)
    clear hN hrr
    go_loopg [12] l.length (fun k v wx => ∃ (i : Nat) (xs : List Value), v = .int .i64 i ∧ i ≤ l.length ∧ k + i = l.length ∧ Own wx (Rng w.heap.size w1.heap.size) 9 1 (.slice A1 l.length c1) l.length xs ∧ Mods (Rng w.heap.size w1.heap.size) w5 wx)
    case atStart => exact ⟨0, _, rfl, Nat.zero_le _, rfl, HOm.out, Mods.refl _ _⟩
    case round =>
      obtain ⟨i, xs, rfl, hi, hki, hO, hM⟩ := hrel
      have Hki := Lib.hid hki
      have HO := Lib.hid hO
      have HM := Lib.hid hM
      clear hki hO hM
      rcases Nat.lt_or_ge i l.length with h1 | h1
      · obtain ⟨g, y, rfl, hgl, y0, f0, hst⟩ := HO.out.write1 h1
        have HST := Lib.hid hst
        clear hst
        go_wp2_with (first | ((with_reducible refine wp_region_por ?_ ?_ ?_ ?_); kernel_rfl; kernel_rfl; (with_reducible repeat (first | exact calm_ret | refine calm_then ?_ | refine calm_in ?_ | refine calm_chk ?_ | refine calm_noGoto ?_))) | ((with_reducible refine chk_end ?_ ?_); kernel_rfl))
        go_roundg (gk - 1)
        case rel => exact ⟨i + 1, _, by go_num, h1, by have := Hki.out; omega, (HST.out _).1, HM.out.trans (HST.out _).2 fun _ _ e => e⟩
        case measure => have := Hki.out; omega
      · obtain rfl : i = l.length := by omega
        obtain ⟨W6, rfl⟩ : ∃ W6, W6 = wr := ⟨_, rfl⟩
        have HPB6 := Lib.hid (HPB.out.mods HM.out (fun g e => .inl e.2) fun e => absurd e.1 (Nat.not_le_of_lt Hht.out.lt))
        have HW6 := Lib.hid (rng_new HM.out (Nat.le_refl _) HW5.out)
        have hs6 := HM.out.size
        obtain ⟨F, G, hp, _, _⟩ := HPB6.out
        have hno := fun w' (hm : Mods No W6 w') => nodes_K w' q C N F (hp.ring.no hm)
        have hpl := fun w' (hm : Mods No W6 w') => places_K w' q C N F (hp.ring.no hm)
        have hpk := fun w' (hm : Mods No W6 w') => pick_K w' q C N s 64 F (hp.ring.no hm) hsl
        have hN64 : N.length ≤ 64 := hp.ring.1.small
        have hL8 := hp.ring.1.psmall
        obtain ⟨L, hL⟩ : ∃ L, L = placesOf C N := ⟨_, rfl⟩
        obtain ⟨P, hP⟩ : ∃ P, P = pickV L (fnv64 s) 64 := ⟨_, rfl⟩
        rw [← hL] at hpl hpk hL8
        rw [← hP] at hpk
        have HL := Lib.hid hL
        have HPk := Lib.hid hP
        clear hL hP hp
        have Hhno := Lib.hid hno
        clear hno
        have Hhpl := Lib.hid hpl
        clear hpl
        have Hhpk := Lib.hid hpk
        clear hpk
        unfold ks at Hhpk
        go_wp2_with (first | (go_at_call 14; (refine ret_use (Hhno.out W6 (Mods.refl No W6)) ?_; rintro u w7 ⟨ho7, hm7⟩; have HO7 := Lib.hid ho7; have HM7 := Lib.hid hm7; obtain ⟨A7, c7, rfl, _, _⟩ := ho7.form; clear ho7 hm7)) | (go_at_call 15; (refine ret_use (Hhpl.out w7 HM7.out) ?_; rintro u w8 ⟨ho8, hm8⟩; have HO8 := Lib.hid ho8; have HM8 := Lib.hid hm8; obtain ⟨A8, c8, rfl, _, _⟩ := ho8.form; clear ho8 hm8)) | (go_at_call 16; (refine ret_use (Hhpk.out w8 (HM7.out.trans HM8.out fun _ _ e => e)) ?_; rintro u w9 ⟨ho9, hm9⟩; have HO9 := Lib.hid ho9; have HM9 := Lib.hid hm9; obtain ⟨A9, c9, rfl, hpc9, hpm9⟩ := ho9.form; clear ho9 hm9)) | ((with_reducible refine wp_region_por ?_ ?_ ?_ ?_); kernel_rfl; kernel_rfl; (with_reducible repeat (first | exact calm_ret | refine calm_then ?_ | refine calm_in ?_ | refine calm_chk ?_ | refine calm_noGoto ?_))) | ((with_reducible refine chk_end ?_ ?_); kernel_rfl))
        have hPl : P.length ≤ 9223372036854775807 := by unfold maxLen at hpm9; omega
        have HA9 := Lib.hid (HO7.out.rng (lo := W6.heap.size) (fun g e => e) (HM8.out.trans HM9.out fun _ _ e => e))
        have HB9 := Lib.hid (HO8.out.rng (lo := w7.heap.size) (fun g e => e) HM9.out)
        have HC9 := Lib.hid (HO9.out.rng (lo := w8.heap.size) (fun g e => e) (Mods.refl No w9))
        have HW9 := Lib.hid (((HW6.out.trans HM7.out fun _ _ e => e).trans HM8.out fun _ _ e => e).trans HM9.out fun _ _ e => e)
        have hs0 := HW6.out.size
        have hs7 := HM7.out.size
        have hs8 := HM8.out.size
        have hs5 := HM5.out.size
        have HPB9 := Lib.hid (HPB6.out.no ((HM7.out.trans HM8.out fun _ _ e => e).trans HM9.out fun _ _ e => e))
        have htn := HPB9.out.tn
        clear Hki HO
        go_loopg [16] N.length (fun k v wx => ∃ (i : Nat) (xs : List Value), v = .int .i64 i ∧ i ≤ N.length ∧ k + i = N.length ∧ Own wx (Rng W6.heap.size w7.heap.size) 9 1 (.slice A7 N.length c7) N.length xs ∧ Mods (Rng W6.heap.size w7.heap.size) w9 wx)
        case atStart => exact ⟨0, _, rfl, Nat.zero_le _, rfl, HA9.out, Mods.refl _ _⟩
        case round =>
          obtain ⟨i, xs, rfl, hi, hki, hO, hM⟩ := hrel
          have Hki := Lib.hid hki
          have HO := Lib.hid hO
          have HM := Lib.hid hM
          clear hki hO hM
          rcases Nat.lt_or_ge i N.length with h1 | h1
          · obtain ⟨g, y, rfl, hgl, y0, f0, hst⟩ := HO.out.write1 h1
            have HST := Lib.hid hst
            clear hst
            go_wp2_with (first | ((with_reducible refine wp_region_por ?_ ?_ ?_ ?_); kernel_rfl; kernel_rfl; (with_reducible repeat (first | exact calm_ret | refine calm_then ?_ | refine calm_in ?_ | refine calm_chk ?_ | refine calm_noGoto ?_))) | ((with_reducible refine chk_end ?_ ?_); kernel_rfl))
            go_roundg (gk - 1)
            case rel => exact ⟨i + 1, _, by go_num, h1, by have := Hki.out; omega, (HST.out _).1, HM.out.trans (HST.out _).2 fun _ _ e => e⟩
            case measure => have := Hki.out; omega
          · obtain rfl : i = N.length := by omega
            obtain ⟨W10, rfl⟩ : ∃ W10, W10 = wr := ⟨_, rfl⟩
            have HB10 := Lib.hid (Tum.Own.mods HB9.out HM.out fun g hg e => by have := HB9.out.2 g hg; omega)
            have HC10 := Lib.hid (Tum.Own.mods HC9.out HM.out fun g hg e => by have := HC9.out.2 g hg; omega)
            have HW10 := Lib.hid (rng_new HM.out hs0 HW9.out)
            have HPB10 := Lib.hid (HPB9.out.mods HM.out (fun g e => .inr (by omega)) fun e => by omega)
            go_wp2_with (first | ((with_reducible refine wp_region_por ?_ ?_ ?_ ?_); kernel_rfl; kernel_rfl; (with_reducible repeat (first | exact calm_ret | refine calm_then ?_ | refine calm_in ?_ | refine calm_chk ?_ | refine calm_noGoto ?_))) | ((with_reducible refine chk_end ?_ ?_); kernel_rfl))
            go_loopg [17] L.length (fun k v wx => ∃ (i : Nat) (xs : List Value), v = .int .i64 i ∧ i ≤ L.length ∧ k + i = L.length ∧ Own wx (Rng w7.heap.size w8.heap.size) 39 2 (.slice A8 L.length c8) L.length xs ∧ Mods (Rng w7.heap.size w8.heap.size) W10 wx)
            case atStart => exact ⟨0, _, rfl, Nat.zero_le _, rfl, HB10.out, Mods.refl _ _⟩
            case round =>
              obtain ⟨i, xs, rfl, hi, hki, hO, hM⟩ := hrel
              have Hki := Lib.hid hki
              have HO := Lib.hid hO
              have HM := Lib.hid hM
              clear hki hO hM
              rcases Nat.lt_or_ge i L.length with h1 | h1
              · obtain ⟨g, y, y', rfl, hgl, y0, y1, f0, f1, hst⟩ := HO.out.write2 h1
                have HST := Lib.hid hst
                clear hst
                go_wp2_with (first | ((with_reducible refine wp_region_por ?_ ?_ ?_ ?_); kernel_rfl; kernel_rfl; (with_reducible repeat (first | exact calm_ret | refine calm_then ?_ | refine calm_in ?_ | refine calm_chk ?_ | refine calm_noGoto ?_))) | ((with_reducible refine chk_end ?_ ?_); kernel_rfl))
                go_roundg (gk - 1)
                case rel => exact ⟨i + 1, _, by go_num, h1, by have := Hki.out; omega, (HST.out _ _).1, HM.out.trans (HST.out _ _).2 fun _ _ e => e⟩
                case measure => have := Hki.out; omega
              · obtain rfl : i = L.length := by omega
                obtain ⟨W11, rfl⟩ : ∃ W11, W11 = wr := ⟨_, rfl⟩
                have HC11 := Lib.hid (Tum.Own.mods HC10.out HM.out fun g hg e => by have := HC10.out.2 g hg; omega)
                have HW11 := Lib.hid (rng_new HM.out (by omega) HW10.out)
                have HPB11 := Lib.hid (HPB10.out.mods HM.out (fun g e => .inr (by omega)) fun e => by omega)
                go_wp2_with (first | ((with_reducible refine wp_region_por ?_ ?_ ?_ ?_); kernel_rfl; kernel_rfl; (with_reducible repeat (first | exact calm_ret | refine calm_then ?_ | refine calm_in ?_ | refine calm_chk ?_ | refine calm_noGoto ?_))) | ((with_reducible refine chk_end ?_ ?_); kernel_rfl))
                go_loopg [18] P.length (fun k v wx => ∃ (i : Nat) (xs : List Value), v = .int .i64 i ∧ i ≤ P.length ∧ k + i = P.length ∧ Own wx (Rng w8.heap.size w9.heap.size) 9 1 (.slice A9 P.length c9) P.length xs ∧ Mods (Rng w8.heap.size w9.heap.size) W11 wx)
                case atStart => exact ⟨0, _, rfl, Nat.zero_le _, rfl, HC11.out, Mods.refl _ _⟩
                case round =>
                  obtain ⟨i, xs, rfl, hi, hki, hO, hM⟩ := hrel
                  have Hki := Lib.hid hki
                  have HO := Lib.hid hO
                  have HM := Lib.hid hM
                  clear hki hO hM
                  rcases Nat.lt_or_ge i P.length with h1 | h1
                  · obtain ⟨g, y, rfl, hgl, y0, f0, hst⟩ := HO.out.write1 h1
                    have HST := Lib.hid hst
                    clear hst
                    go_wp2_with (first | ((with_reducible refine wp_region_por ?_ ?_ ?_ ?_); kernel_rfl; kernel_rfl; (with_reducible repeat (first | exact calm_ret | refine calm_then ?_ | refine calm_in ?_ | refine calm_chk ?_ | refine calm_noGoto ?_))) | ((with_reducible refine chk_end ?_ ?_); kernel_rfl))
                    go_roundg (gk - 1)
                    case rel => exact ⟨i + 1, _, by go_num, h1, by have := Hki.out; omega, (HST.out _).1, HM.out.trans (HST.out _).2 fun _ _ e => e⟩
                    case measure => have := Hki.out; omega
                  · obtain rfl : i = P.length := by omega
                    obtain ⟨W12, rfl⟩ : ∃ W12, W12 = wr := ⟨_, rfl⟩
                    have HW12 := Lib.hid (rng_new HM.out (by omega) HW11.out)
                    have HPB12 := Lib.hid (HPB11.out.mods HM.out (fun g e => .inr (by omega)) fun e => by omega)
                    obtain ⟨F2, G2, hp2, _, _⟩ := HPB12.out
                    have HH := Lib.hid hp2
                    obtain ⟨_, nv, pv, hrf, _, _, _⟩ := hp2.ref
                    have hno2 := fun w' (hm : Mods No W12 w') => nodes_K w' q C N F2 (HH.out.no hm).ring
                    have hpl2 := fun w' (hm : Mods No W12 w') => places_K w' q C N F2 (HH.out.no hm).ring
                    have hpk2 := fun w' (hm : Mods No W12 w') => pick_K w' q C N s 64 F2 (HH.out.no hm).ring hsl
                    have hrp2 := fun w' (hm : Mods No W12 w') => rpick_K w' r C N s 64 G2 (HH.out.no hm).ref hsl
                    rw [← HL.out] at hpl2 hrf
                    simp only [← HL.out] at hpk2 hrp2
                    simp only [← HPk.out] at hpk2 hrp2
                    have HF := Lib.hid hrf
                    obtain ⟨A14, c14, rfl, _, _⟩ := hrf.nown.form
                    obtain ⟨A15, c15, rfl, _, _⟩ := hrf.pown.form
                    clear hrf hp2 Hki HO
                    unfold ks at hpk2 hrp2
                    have Hhno2 := Lib.hid hno2
                    clear hno2
                    have Hhpl2 := Lib.hid hpl2
                    clear hpl2
                    have Hhpk2 := Lib.hid hpk2
                    clear hpk2
                    have Hhrp2 := Lib.hid hrp2
                    clear hrp2
                    go_wp2_with (first | ((with_reducible refine wp_region_two 26 (fun g => g = r) [3, 9] 1 7 ?_ ?_ ?_ ?_ ?_); kernel_rfl; kernel_rfl; kernel_rfl; (with_reducible repeat (first | exact calm_ret | refine calm_then ?_ | refine calm_in ?_ | refine calm_chk ?_ | refine calm_noGoto ?_)); simp only [List.drop_succ_cons, List.drop_zero, List.take_succ_cons, List.take_zero]) | (with_reducible refine segEnd ?_) | (refine And.intro (Keep.one HM16.out HF.out.cells.drew (fun e => e)) ?_) | (refine And.intro (Keep.one HM18.out HF17.out.cells (fun e => e)) ?_) | ((with_reducible refine chkM_end (fun g => g = r) ?_ [.pointer (some ⟨r, 1, none⟩), .pointer (some ⟨r, 2, none⟩)] ?_ ?_ ?_); kernel_rfl; kernel_rfl; (intro v hv x hx; simp only [List.mem_cons, List.not_mem_nil, or_false] at hv; rcases hv with rfl | rfl <;> (injection hx with hx; injection hx with hx; subst hx; simp))) | (go_at_call 14; (refine ret_use (Hhno2.out _ (Mods.refl No W12).drew) ?_; rintro u w16 ⟨ho6, hm6⟩; have HM16 := Lib.hid hm6; have HO16 := Lib.hid ho6; have HN16 := Lib.hid ((Mods.refl No W12).drew.trans hm6 fun _ _ e => e); have HF16 := Lib.hid (HF.out.no ((Mods.refl No W12).drew.trans hm6 fun _ _ e => e)); have k1 := HF16.out.cells.at_ 1 rfl; have kl := HF16.out.cells.lt; obtain ⟨A16, c16, rfl, _, _⟩ := ho6.form; clear ho6 hm6)) | (go_at_call 12; (fail_if_success have := ST1); (refine ret_use (sameT_K _ _ _ _ _ N N HO16.out.rdlt HF16.out.nown.rdlt (fun _ e => e) (fun _ e => e)) ?_; rintro u w17 ⟨rfl, hm7⟩; have ST1 := True.intro; have HN17 := Lib.hid (HN16.out.trans hm7 fun _ _ e => e); have HF17 := Lib.hid (HF16.out.no hm7); clear hm7)) | (go_at_call 15; (refine ret_use (Hhpl2.out _ HN17.out) ?_; rintro u w18 ⟨ho8, hm8⟩; have HM18 := Lib.hid hm8; have HO18 := Lib.hid ho8; have HN18 := Lib.hid (HN17.out.trans hm8 fun _ _ e => e); have HF18 := Lib.hid (HF17.out.no hm8); have k2 := HF18.out.cells.at_ 2 rfl; have kl2 := HF18.out.cells.lt; obtain ⟨A18, c18, rfl, _, _⟩ := ho8.form; clear ho8 hm8)) | (go_at_call 17; (refine ret_use (sameP_K _ _ _ _ _ L L HO18.out.rdlt HF18.out.pown.rdlt (fun _ e => e) (fun _ e => e)) ?_; rintro u w19 ⟨rfl, hm9⟩; have HN19 := Lib.hid (HN18.out.trans hm9 fun _ _ e => e); clear hm9)) | (go_at_call 16; (refine ret_use (Hhpk2.out _ HN19.out) ?_; rintro u w20 ⟨ho20, hm20⟩; have HO20 := Lib.hid ho20; have HN20 := Lib.hid (HN19.out.trans hm20 fun _ _ e => e); obtain ⟨A20, c20, rfl, _, _⟩ := ho20.form; clear ho20 hm20)) | (go_at_call 18; (refine ret_use (Hhrp2.out _ HN20.out) ?_; rintro u w21 ⟨ho21, hm21⟩; have HO21 := Lib.hid ho21; have HX21 := Lib.hid (Tum.Own.mods HO20.out hm21 fun _ _ e => e); have HN21 := Lib.hid (HN20.out.trans hm21 fun _ _ e => e); obtain ⟨A21, c21, rfl, _, _⟩ := ho21.form; clear ho21 hm21)) | (go_at_call 12; (refine ret_use (sameT_K _ _ _ _ _ P P HX21.out.rdlt HO21.out.rdlt (fun _ e => e) (fun _ e => e)) ?_; rintro u w22 ⟨rfl, hm22⟩; have HN22 := Lib.hid (HN21.out.trans hm22 fun _ _ e => e); clear hm22)) | ((with_reducible refine wp_region_por ?_ ?_ ?_ ?_); kernel_rfl; kernel_rfl; (with_reducible repeat (first | exact calm_ret | refine calm_then ?_ | refine calm_in ?_ | refine calm_chk ?_ | refine calm_noGoto ?_))) | ((with_reducible refine chk_end ?_ ?_); kernel_rfl))
                    go_ret
                    exact ⟨by simp, HW12.out.trans HN22.out fun _ _ e => e⟩
  · have he1 : (e != 0) = true := bne_iff_ne.2 h0
    have hbad := fun w1 w' v (h : NewIs w1 w' l n v) => new_bad h he h0
    have hrb := fun w1 w2 v (h : RNewIs w1 w2 l n v) => rnew_bad h he
    clear he h0
    have Hhnew := Lib.hid hnew
    clear hnew
    have Hhrn := Lib.hid hrn
    clear hrn
    have Hhal := Lib.hid hal
    clear hal
    have Hhr := Lib.hid hr
    clear hr
    have Hht := Lib.hid ht
    clear ht
    have Hhbad := Lib.hid hbad
    clear hbad
    have Hhrb := Lib.hid hrb
    clear hrb
    unfold ks
    go_enter Tryd.func3, Tryd.ntmps3
    go_wp2_with (first | (at_builtin; (fail_if_success have := HO1); ((refine wpList_append _ rfl (.tmp 19) (.tmp 20) 22 rfl 9 (.string ⟨#[]⟩) 1 16 Tryd.underlying22 infoTx rfl (by decide) (F := fun g => w.heap.size ≤ g) (n := 0) (xs := []) (by rfl) (Own.nil _ _ _ _) (G := fun g => g < w.heap.size) (y := .slice A0 l.length cp0) (m := l.length) (news := l.map ks) (by rfl) Hhr.out (ks_ones l) (by omega) (by decide) ?_); intro v1 w1 hown1 hm1 _; (simp only [Nat.zero_add, List.nil_append] at hown1); have HO1 := Lib.hid (hown1.more (G := fun g => w.heap.size ≤ g) fun g hg => by rcases hg with e | e; cases e; exact Nat.le_of_eq e.symm); have HM1 := Lib.hid (hm1.mono (T := No) fun g _ e => by cases e); obtain ⟨A1, c1, rfl, _, _⟩ := hown1.form; clear hown1 hm1)) | (go_at_call 10; (refine ret_use (Hhnew.out w1 _ HM1.out HO1.out) ?_; rintro v w2 hn2; have hx2 := Hhbad.out _ _ _ hn2; obtain ⟨rfl, hm2⟩ := hx2; have HM2 := Lib.hid hm2; clear hn2 hm2)) | (go_at_call 11; (refine ret_use (Hhrn.out w2 (HM1.out.trans HM2.out fun _ _ e => e)) ?_; rintro v w3 hn3; have hx3 := Hhrb.out _ _ _ hn3; obtain ⟨cc, A, B, na, ca, nb, cb, rfl, hm3⟩ := hx3; have HM3 := Lib.hid ((HM2.out.trans hm3 fun _ _ e => e).alloc (.cells #[.int .i64 cc, .slice A na ca, .slice B nb cb] 29)); have HO3 := Lib.hid (Tum.Own.mods HO1.out HM3.out fun _ _ e => e); clear hn3 hm3)) | (go_at_call 12; (refine ret_use (sameT_K _ _ _ _ _ l l HO3.out.rdlt (Hhr.out.keep (HM1.out.trans HM3.out fun _ _ e => e)) (fun _ e => e) (fun _ e => e)) ?_; rintro u w4 ⟨rfl, hm4⟩; have HM4 := Lib.hid (HM3.out.trans hm4 fun _ _ e => e); clear hm4)) | (go_at_call 13; (refine ret_use (Hhal.out _ (HM1.out.trans HM4.out fun _ _ e => e)) ?_; rintro v w5 ⟨rfl, hm5⟩; have HM5 := Lib.hid (HM4.out.trans hm5 fun _ _ e => e); clear hm5)) | ((with_reducible refine wp_region_por ?_ ?_ ?_ ?_); kernel_rfl; kernel_rfl; (with_reducible repeat (first | exact calm_ret | refine calm_then ?_ | refine calm_in ?_ | refine calm_chk ?_ | refine calm_noGoto ?_))) | ((with_reducible refine chk_end ?_ ?_); kernel_rfl))
    go_ret
    exact ⟨by simp, HM1.out.trans HM5.out fun _ _ e => e⟩
end Go.Proofs.YtilkepmmkhmghaaDoor
