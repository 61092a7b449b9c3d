/- The law RingKeeps, walked. -/
import Derived.Test.YtilkepmmkhmghaaDoorRfH
import Derived.Test.YtilkepmmkhmghaaDoorRgT
namespace Go.Proofs.YtilkepmmkhmghaaDoor
open Go.RowKit Go.Tum Go.Lib Go.Sort
set_option maxRecDepth 100000
abbrev Opr := Int × Tx × Int
def row3 (o : Opr) : List Value := [.int .i64 o.1, ks o.2.1, .int .i64 o.2.2]
theorem _root_.Go.Tum.Rd.triple {w : World} {F : Nat → Prop} {A : Option Addr} {c : Nat} {l : List Opr} (h : Rd w F 3 (.slice A l.length c) l.length (l.flatMap row3)) {i : Nat} {x : Opr} (hx : l[i]? = some x) :
    ∃ b off, A = some ⟨b, off, none⟩ ∧ F b ∧ w.cell? ⟨b, off + i * 3, none⟩ = some (.int .i64 x.1) ∧ w.cell? ⟨b, off + i * 3 + 1, none⟩ = some (ks x.2.1) ∧ w.cell? ⟨b, off + i * 3 + 2, none⟩ = some (.int .i64 x.2.2) := by
  obtain ⟨hi, _⟩ := List.getElem?_eq_some_iff.1 hx
  obtain ⟨b, off, c', e, hF, hc⟩ := h.cells (by omega)
  injection e with e
  have h2 := fun r hr => flatMap_get (enc := row3) (k := 3) (fun _ => rfl) l i r hr
  rw [hx] at h2
  refine ⟨b, off, e, hF, ?_, ?_, ?_⟩
  · rw [hc _ (by omega)]
    exact h2 0 (by decide)
  · rw [Nat.add_assoc, hc _ (by omega)]
    exact h2 1 (by decide)
  · rw [Nat.add_assoc, hc _ (by omega)]
    exact h2 2 (by decide)
theorem Pair.mods {S : Nat → Prop} {w w' : World} {n0 q r c : Nat} {N M : List Tx} {F G : Nat → Prop} (h : Pair w n0 q r c N M F G) (hm : Mods S w w') (hS : ∀ g, g < w.heap.size → n0 ≤ g → ¬ S g) (ht : ¬ S 1) : Pair w' n0 q r c N M F G :=
  ⟨h.ring.mods hm fun g hl hg => hS g hl (h.fb g hg).1, h.ref.mods hm fun g hl hg => hS g hl (h.gb g hg).1, h.dis, fun g hg => ⟨(h.fb g hg).1, Nat.lt_of_lt_of_le (h.fb g hg).2 hm.size⟩, fun g hg => ⟨(h.gb g hg).1, Nat.lt_of_lt_of_le (h.gb g hg).2 hm.size⟩, h.tab.mods hm ht, h.tn⟩
theorem PairE.no {w w' : World} {n0 q r c : Nat} {N : List Tx} (h : PairE w n0 q r c N) (hm : Mods No w w') : PairE w' n0 q r c N := by
  obtain ⟨F, G, h⟩ := h
  exact ⟨F, G, h.no hm⟩
theorem pair_start {w w1 w2 : World} {q C na nb ca cb : Nat} {A B : Option Addr} {N : List Tx} (hR : RingK w1 q C N (fun g => w.heap.size ≤ g)) (hm1 : Mods No w w1) (hm2 : Mods No w1 w2) (ht : Tab w)
    (ho : Own w2 (fun g => w1.heap.size ≤ g) 9 1 (.slice A na ca) N.length (N.map ks)) (hp : Own w2 (fun g => w1.heap.size ≤ g) 39 2 (.slice B nb cb) (placesOf C N).length (plcs (placesOf C N))) :
    PairE (w2.alloc (.cells #[.int .i64 (C : Int), .slice A na ca, .slice B nb cb] 29)) w.heap.size q w2.heap.size C N := by
  have hs1 := hm1.size
  have hs2 := hm2.size
  have hlt := ht.lt
  have hma : Mods No w2 (w2.alloc (.cells #[.int .i64 (C : Int), .slice A na ca, .slice B nb cb] 29)) := (Mods.refl No w2).alloc _
  have hsz : (w2.alloc (.cells #[.int .i64 (C : Int), .slice A na ca, .slice B nb cb] 29)).heap.size = w2.heap.size + 1 := World.size_alloc _ _
  refine ⟨fun g => w.heap.size ≤ g ∧ g < w1.heap.size, fun g => w1.heap.size ≤ g ∧ g < w2.heap.size + 1, (hR.bound (fun g hg e => ⟨e, hg⟩) (fun e => by omega)).no (hm2.trans hma fun _ _ e => e), ⟨hR.1, _, _, ⟨Cells.new _ _ _, ?_, ?_⟩, ⟨hs2, by omega⟩, fun g hg => ?_, fun g hg => ?_⟩, fun g h1 h2 => by omega, fun g h1 => by rw [hsz]; omega, fun g h1 => by rw [hsz]; omega, ht.no ((hm1.trans hm2 fun _ _ e => e).trans hma fun _ _ e => e), hlt⟩
  · have h := Tum.Own.mods ho hma fun _ _ e => e
    exact ⟨h.1, fun g hg => ⟨h.lt g hg, fun e => by have := ho.lt g hg; omega⟩⟩
  · have h := Tum.Own.mods hp hma fun _ _ e => e
    exact ⟨h.1, fun g hg => ⟨h.lt g hg, fun e => by have := hp.lt g hg; omega⟩⟩
  · have := ho.lt g hg
    exact ⟨ho.2 g hg, by omega⟩
  · have := hp.lt g hg
    exact ⟨hp.2 g hg, by omega⟩
theorem rnew_ok {w1 w2 : World} {l : List Tx} {n : Int} {v : Value} (h : RNewIs w1 w2 l n v) (he : newE l n = 0) (h1 : 1 ≤ n) : ∃ (C : Nat) (A B : Option Addr) (na ca nb cb : Nat), n = (C : Int) ∧ v = .tuple #[.agg #[.int .i64 (C : Int), .slice A na ca, .slice B nb cb], .int .i64 0] ∧ Mods No w1 w2 ∧
    Own w2 (fun g => w1.heap.size ≤ g) 9 1 (.slice A na ca) (nodesOf l).length ((nodesOf l).map ks) ∧ Own w2 (fun g => w1.heap.size ≤ g) 39 2 (.slice B nb cb) (placesOf C (nodesOf l)).length (plcs (placesOf C (nodesOf l))) := by
  obtain ⟨cc, A, B, na, ca, nb, cb, rfl, hm, h2⟩ := h
  obtain ⟨rfl, ho, hp⟩ := h2 he
  refine ⟨cc.toNat, A, B, na, ca, nb, cb, by omega, by rw [he, show ((cc.toNat : Nat) : Int) = cc by omega], hm, ho, hp⟩
theorem rnew_bad {w1 w2 : World} {l : List Tx} {n : Int} {v : Value} (h : RNewIs w1 w2 l n v) {e : Int} (he : e = newE l n) : ∃ (cc : Int) (A B : Option Addr) (na ca nb cb : Nat), v = .tuple #[.agg #[.int .i64 cc, .slice A na ca, .slice B nb cb], .int .i64 e] ∧ Mods No w1 w2 := by
  subst he
  obtain ⟨cc, A, B, na, ca, nb, cb, rfl, hm, _⟩ := h
  exact ⟨cc, A, B, na, ca, nb, cb, rfl, hm⟩
set_option maxHeartbeats 6400000 in
theorem ringKeeps_K (w : World) (v u : Value) (l : List Tx) (n : Int) (sc : List Opr) (hr : Rd w (fun g => g < w.heap.size) 1 v l.length (l.map ks)) (hs : Rd w (fun g => g < w.heap.size) 3 u sc.length (sc.flatMap row3)) (ht : Tab w) (hk : ∀ x ∈ sc, x.2.1.length ≤ 281474976710656) :
    Calls Tryd.prog 7 #[v, .int .i64 n, u] w (Ret fun v w' => v = .bool true ∧ Mods No w w') := by
  have hnew := new_K w v l n hr ht
  have hrn := fun w' (hm : Mods No w w') => rnew_K w' v l n (hr.keep hm)
  have hal := fun w' (hm : Mods No w w') => alive_K w' (ht.no hm)
  obtain ⟨A0, cp0, rfl, _, _⟩ := hr.form
  obtain ⟨A1, cp1, rfl, _, hmx1⟩ := hs.form
  have hsl : sc.length ≤ 9223372036854775807 := by unfold maxLen at hmx1; omega
  obtain ⟨e, he⟩ : ∃ e, e = newE l n := ⟨_, rfl⟩
  by_cases h0 : e = 0
  · have he0 : newE l n = 0 := he ▸ h0
    obtain ⟨h1, _, _, _, _⟩ := newE_zero he0
    have hok := fun w' v (h : NewIs w w' l n v) => new_ok h he0
    have hrk := fun w1 w2 v (h : RNewIs w1 w2 l n v) => rnew_ok h he0 h1
    clear he h0
    have Hhnew := Lib.hid hnew
    clear hnew
    have Hhrn := Lib.hid hrn
    clear hrn
    have Hhal := Lib.hid hal
    clear hal
    have Hhok := Lib.hid hok
    clear hok
    have Hhrk := Lib.hid hrk
    clear hrk
    have Hhr := Lib.hid hr
    clear hr
    have Hhs := Lib.hid hs
    clear hs
    have Hht := Lib.hid ht
    clear ht
    have Hhk := Lib.hid hk
    clear hk
    have Hhe0 := Lib.hid he0
    clear he0
    go_enter Tryd.func7, Tryd.ntmps7
    go_wp2_with (first | (go_at_call 10; (refine ret_use (Hhnew.out) ?_; rintro v w1 hn1; have hx1 := Hhok.out _ _ hn1; obtain ⟨q, rfl, hr1, hm1⟩ := hx1; have HR1 := Lib.hid hr1; have HM1 := Lib.hid hm1; clear hn1 hr1 hm1)) | (go_at_call 11; (refine ret_use (Hhrn.out w1 HM1.out) ?_; rintro v w2 hn2; have hx2 := Hhrk.out _ _ _ hn2; obtain ⟨C, A, B, na, ca, nb, cb, hnC, rfl, hm2, ho2, hp2⟩ := hx2; subst hnC; have HP2 := Lib.hid (pair_start HR1.out HM1.out hm2 Hht.out ho2 hp2); have HM2 := Lib.hid ((HM1.out.trans hm2 fun _ _ e => e).alloc (.cells #[.int .i64 (C : Int), .slice A na ca, .slice B nb cb] 29)); clear hn2 hm2 ho2 hp2)) | (go_at_call 13; (refine ret_use (Hhal.out _ HM2.out) ?_; rintro v w3 ⟨rfl, hm3⟩; have HP3 := Lib.hid (HP2.out.no hm3); have HM3 := Lib.hid (HM2.out.trans hm3 fun _ _ e => e); clear hm3)) | ((with_reducible refine wp_region_por ?_ ?_ ?_ ?_); kernel_rfl; kernel_rfl; (with_reducible repeat (first | exact calm_ret | refine calm_then ?_ | refine calm_in ?_ | refine calm_chk ?_ | refine calm_noGoto ?_))) | ((with_reducible refine chk_end ?_ ?_); kernel_rfl))
    obtain ⟨N, hN⟩ : ∃ N, N = nodesOf l := ⟨_, rfl⟩
    rw [← hN] at HP3
    clear hN
    obtain ⟨r, hrr⟩ : ∃ r, r = w2.heap.size := ⟨_, rfl⟩
    rw [← hrr] at HP3 ⊢
    clear hrr
    go_loopg [11] sc.length (fun k v11 wr => ∃ (i : Nat) (M : List Tx), v11 = .int .i64 i ∧ i ≤ sc.length ∧ k + i = sc.length ∧ PairE wr w.heap.size q r C M ∧ Mods No w wr)
    case atStart => exact ⟨0, N, rfl, Nat.zero_le _, rfl, HP3.out, HM3.out⟩
    case round =>
      obtain ⟨i, M, rfl, hi, hki, hP, hM⟩ := hrel
      have Hki := Lib.hid hki
      have HPI := Lib.hid hP
      have HMI := Lib.hid hM
      clear hki hP hM
      rcases Nat.lt_or_ge i sc.length with hil | hil
      · obtain ⟨x, hx⟩ := lt_get hil
        obtain ⟨b, off, rfl, hb, x0, x1, x2⟩ := (Hhs.out.keep HMI.out).triple hx
        have Hx := Lib.hid hx
        clear hx
        unfold ks at x1
        go_wp2_with (first | (go_at_call 27; (refine ret_use (step_K _ _ _ _ _ M x.1 x.2.1 x.2.2 HPI.out (Hhk.out _ (List.mem_of_getElem? Hx.out))) ?_; rintro v w5 ⟨rfl, hm5, M', hp5⟩; have HM5 := Lib.hid hm5; have HP5 := Lib.hid hp5; clear hm5 hp5)) | ((with_reducible refine wp_region_por ?_ ?_ ?_ ?_); kernel_rfl; kernel_rfl; (with_reducible repeat (first | exact calm_ret | refine calm_then ?_ | refine calm_in ?_ | refine calm_chk ?_ | refine calm_noGoto ?_))) | ((with_reducible refine chk_end ?_ ?_); kernel_rfl))
        go_roundg (gk - 1)
        case rel => have h5 := Hki.out; exact ⟨i + 1, M', by go_num, hil, by omega, HP5.out, HMI.out.trans HM5.out fun k hk e => absurd e (Nat.not_le_of_lt hk)⟩
        case measure => have := Hki.out; omega
      · obtain rfl : i = sc.length := by omega
        obtain ⟨F, G, hp⟩ := HPI.out
        have HH := Lib.hid hp
        obtain ⟨_, nv, pv, hrf, _, _, _⟩ := hp.ref
        clear hp
        have hno := fun w' (hm : Mods No wr w') => nodes_K w' q C M F (HH.out.no hm).ring
        have hpl := fun w' (hm : Mods No wr w') => places_K w' q C M F (HH.out.no hm).ring
        obtain ⟨L, hL⟩ : ∃ L, L = placesOf C M := ⟨_, rfl⟩
        rw [← hL] at hpl hrf
        clear hL
        have HF := Lib.hid hrf
        obtain ⟨A4, c4, rfl, _, _⟩ := hrf.nown.form
        obtain ⟨A5, c5, rfl, _, _⟩ := hrf.pown.form
        clear hrf
        have Hhno := Lib.hid hno
        clear hno
        have Hhpl := Lib.hid hpl
        clear hpl
        go_wp2_with (first | ((with_reducible refine wp_region_two 12 (fun g => g = r) [3, 9] 1 7 ?_ ?_ ?_ ?_ ?_); kernel_rfl; kernel_rfl; kernel_rfl; (with_reducible repeat (first | exact calm_ret | refine calm_then ?_ | refine calm_in ?_ | refine calm_chk ?_ | refine calm_noGoto ?_)); simp only [List.drop_succ_cons, List.drop_zero, List.take_succ_cons, List.take_zero]) | (with_reducible refine segEnd ?_) | (refine And.intro (Keep.one HM6.out HF.out.cells.drew (fun e => e)) ?_) | (refine And.intro (Keep.one HM8.out HF7.out.cells (fun e => e)) ?_) | ((with_reducible refine chkM_end (fun g => g = r) ?_ [.pointer (some ⟨r, 1, none⟩), .pointer (some ⟨r, 2, none⟩)] ?_ ?_ ?_); kernel_rfl; kernel_rfl; (intro v hv x hx; simp only [List.mem_cons, List.not_mem_nil, or_false] at hv; rcases hv with rfl | rfl <;> (injection hx with hx; injection hx with hx; subst hx; simp))) | (go_at_call 14; (refine ret_use (Hhno.out _ (Mods.refl No wr).drew) ?_; rintro u w6 ⟨ho6, hm6⟩; have HM6 := Lib.hid hm6; have HO6 := Lib.hid ho6; have HN6 := Lib.hid ((Mods.refl No wr).drew.trans hm6 fun _ _ e => e); have HF6 := Lib.hid (HF.out.no ((Mods.refl No wr).drew.trans hm6 fun _ _ e => e)); have k1 := HF6.out.cells.at_ 1 rfl; have kl := HF6.out.cells.lt; obtain ⟨A6, c6, rfl, _, _⟩ := ho6.form; clear ho6 hm6)) | (go_at_call 12; (refine ret_use (sameT_K _ _ _ _ _ M M HO6.out.rdlt HF6.out.nown.rdlt (fun _ e => e) (fun _ e => e)) ?_; rintro u w7 ⟨rfl, hm7⟩; have HN7 := Lib.hid (HN6.out.trans hm7 fun _ _ e => e); have HF7 := Lib.hid (HF6.out.no hm7); clear hm7)) | (go_at_call 15; (refine ret_use (Hhpl.out _ HN7.out) ?_; rintro u w8 ⟨ho8, hm8⟩; have HM8 := Lib.hid hm8; have HO8 := Lib.hid ho8; have HN8 := Lib.hid (HN7.out.trans hm8 fun _ _ e => e); have HF8 := Lib.hid (HF7.out.no hm8); have k2 := HF8.out.cells.at_ 2 rfl; have kl2 := HF8.out.cells.lt; obtain ⟨A8, c8, rfl, _, _⟩ := ho8.form; clear ho8 hm8)) | (go_at_call 17; (refine ret_use (sameP_K _ _ _ _ _ L L HO8.out.rdlt HF8.out.pown.rdlt (fun _ e => e) (fun _ e => e)) ?_; rintro u w9 ⟨rfl, hm9⟩; have HN9 := Lib.hid (HN8.out.trans hm9 fun _ _ e => e); clear hm9)) | ((with_reducible refine wp_region_por ?_ ?_ ?_ ?_); kernel_rfl; kernel_rfl; (with_reducible repeat (first | exact calm_ret | refine calm_then ?_ | refine calm_in ?_ | refine calm_chk ?_ | refine calm_noGoto ?_))) | ((with_reducible refine chk_end ?_ ?_); kernel_rfl))
        go_ret
        exact ⟨by simp, HMI.out.trans HN9.out fun _ _ e => e⟩
  · have he1 : (e != 0) = true := bne_iff_ne.2 h0
    have hbad := fun w' v (h : NewIs w w' l n v) => new_bad h he h0
    have hrb := fun w1 w2 v (h : RNewIs w1 w2 l n v) => rnew_bad h he
    clear he h0
    have Hhnew := Lib.hid hnew
    clear hnew
    have Hhrn := Lib.hid hrn
    clear hrn
    have Hhal := Lib.hid hal
    clear hal
    have Hhr := Lib.hid hr
    clear hr
    have Hhs := Lib.hid hs
    clear hs
    have Hht := Lib.hid ht
    clear ht
    have Hhk := Lib.hid hk
    clear hk
    have Hhbad := Lib.hid hbad
    clear hbad
    have Hhrb := Lib.hid hrb
    clear hrb
    go_enter Tryd.func7, Tryd.ntmps7
    go_wp2_with (first | (go_at_call 10; (refine ret_use (Hhnew.out) ?_; rintro v w1 hn1; have hx1 := Hhbad.out _ _ hn1; obtain ⟨rfl, hm1⟩ := hx1; have HM1 := Lib.hid hm1; clear hn1 hm1)) | (go_at_call 11; (refine ret_use (Hhrn.out w1 HM1.out) ?_; rintro v w2 hn2; have hx2 := Hhrb.out _ _ _ hn2; obtain ⟨cc, A, B, na, ca, nb, cb, rfl, hm2⟩ := hx2; have HM2 := Lib.hid ((HM1.out.trans hm2 fun _ _ e => e).alloc (.cells #[.int .i64 cc, .slice A na ca, .slice B nb cb] 29)); clear hn2 hm2)) | (go_at_call 13; (refine ret_use (Hhal.out _ HM2.out) ?_; rintro v w3 ⟨rfl, hm3⟩; have HM3 := Lib.hid (HM2.out.trans hm3 fun _ _ e => e); clear hm3)) | ((with_reducible refine wp_region_por ?_ ?_ ?_ ?_); kernel_rfl; kernel_rfl; (with_reducible repeat (first | exact calm_ret | refine calm_then ?_ | refine calm_in ?_ | refine calm_chk ?_ | refine calm_noGoto ?_))) | ((with_reducible refine chk_end ?_ ?_); kernel_rfl))
    go_ret
    exact ⟨rfl, HM3.out⟩
end Go.Proofs.YtilkepmmkhmghaaDoor
