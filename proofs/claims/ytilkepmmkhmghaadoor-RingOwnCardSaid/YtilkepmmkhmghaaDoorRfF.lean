/- The reference's ring: Add, Remove; what is its own. -/
import Derived.Test.YtilkepmmkhmghaaDoorRfE
import Derived.Test.YtilkepmmkhmghaaDoorRgS
namespace Go.Proofs.YtilkepmmkhmghaaDoor
open Go.RowKit Go.Tum Go.Lib Go.Sort
set_option maxRecDepth 100000
theorem RfK.mods {S : Nat → Prop} {w w' : World} {r c : Nat} {nv pv : Value} {N : List Tx} {L : List Plc} (h : RfK w r c nv pv N L) (hm : Mods S w w') (h1 : ¬ S r) (h2 : ∀ g, nv.ownBlock = some g → ¬ S g) (h3 : ∀ g, pv.ownBlock = some g → ¬ S g) : RfK w' r c nv pv N L :=
  ⟨h.cells.mods hm h1, (Tum.Own.mods h.nown hm h2).more fun _ e => ⟨Nat.lt_of_lt_of_le e.1 hm.size, e.2⟩, (Tum.Own.mods h.pown hm h3).more fun _ e => ⟨Nat.lt_of_lt_of_le e.1 hm.size, e.2⟩⟩
/-- The reference's ring at r, all its blocks in G. -/
def RefK (w : World) (r c : Nat) (N : List Tx) (G : Nat → Prop) : Prop :=
  RingI N c ∧ ∃ nv pv, RfK w r c nv pv N (placesOf c N) ∧ G r ∧ (∀ g, nv.ownBlock = some g → G g) ∧ ∀ g, pv.ownBlock = some g → G g
theorem RefK.mods {S : Nat → Prop} {w w' : World} {r c : Nat} {N : List Tx} {G : Nat → Prop} (h : RefK w r c N G) (hm : Mods S w w') (hS : ∀ g, g < w.heap.size → G g → ¬ S g) : RefK w' r c N G := by
  obtain ⟨hi, nv, pv, h, h1, h2, h3⟩ := h
  exact ⟨hi, nv, pv, h.mods hm (hS r h.cells.lt h1) (fun g hg => hS g (h.nown.lt g hg) (h2 g hg)) (fun g hg => hS g (h.pown.lt g hg) (h3 g hg)), h1, h2, h3⟩
theorem RefK.no {w w' : World} {r c : Nat} {N : List Tx} {G : Nat → Prop} (h : RefK w r c N G) (hm : Mods No w w') : RefK w' r c N G := h.mods hm fun _ _ _ e => e
theorem RefK.more {w : World} {r c : Nat} {N : List Tx} {G G' : Nat → Prop} (h : RefK w r c N G) (hs : ∀ g, g < w.heap.size → G g → G' g) : RefK w r c N G' := by
  obtain ⟨hi, nv, pv, h, h1, h2, h3⟩ := h
  exact ⟨hi, nv, pv, h, hs r h.cells.lt h1, fun g hg => hs g (h.nown.lt g hg) (h2 g hg), fun g hg => hs g (h.pown.lt g hg) (h3 g hg)⟩
theorem RingK.bound {w : World} {q c : Nat} {N : List Tx} {F G : Nat → Prop} (h : RingK w q c N F) (hs : ∀ g, g < w.heap.size → F g → G g) (h1 : ¬ G 1) : RingK w q c N G := by
  obtain ⟨hi, nv, pv, h⟩ := h
  exact ⟨hi, nv, pv, h.cells, ⟨h.nown.1, fun g hg => hs g (h.nown.lt g hg) (h.nown.2 g hg)⟩, ⟨h.pown.1, fun g hg => hs g (h.pown.lt g hg) (h.pown.2 g hg)⟩, hs q h.cells.lt h.fq, h1⟩
theorem rset2 {w wr : World} {r c : Nat} {nv pv u v : Value} {N N' : List Tx} {L L' : List Plc} (h : RfK w r c nv pv N L) (hm : Mods No w wr) (hu : Own wr (fun g => w.heap.size ≤ g) 9 1 u N'.length (N'.map ks)) (hv : Own wr (fun g => w.heap.size ≤ g) 39 2 v L'.length (plcs L')) :
    RfK ((wr.setCell ⟨r, 1, none⟩ u).setCell ⟨r, 2, none⟩ v) r c u v N' L' ∧ Mods (fun k => k = r) w ((wr.setCell ⟨r, 1, none⟩ u).setCell ⟨r, 2, none⟩ v) := by
  have rl := h.cells.lt
  have u1 : u.ownBlock ≠ some r := fun e => by have := hu.2 r e; omega
  have v1 : v.ownBlock ≠ some r := fun e => by have := hv.2 r e; omega
  have ou := (hu.far (p := ⟨r, 1, none⟩) u1 u).far (p := ⟨r, 2, none⟩) u1 v
  have ov := (hv.far (p := ⟨r, 1, none⟩) v1 u).far (p := ⟨r, 2, none⟩) v1 v
  exact ⟨⟨((h.cells.mods hm fun e => e).set_ 1 u).set_ 2 v, ⟨ou.1, fun g hg => ⟨ou.lt g hg, fun e => u1 (e ▸ hg)⟩⟩, ⟨ov.1, fun g hg => ⟨ov.lt g hg, fun e => v1 (e ▸ hg)⟩⟩⟩, ((hm.mono (T := fun k => k = r) fun _ _ e => e.elim).setCell ⟨r, 1, none⟩ u fun _ => rfl).setCell ⟨r, 2, none⟩ v fun _ => rfl⟩
set_option maxHeartbeats 3200000 in
theorem radd_K (w : World) (r c : Nat) (N : List Tx) (s : Tx) (G : Nat → Prop) (h : RefK w r c N G) :
    Calls Tryd.prog 39 #[(.pointer (some ⟨r, 0, none⟩)), ks s] w (Ret fun v w' => v = .int .i64 (addV N s).2 ∧ RefK w' r c (addV N s).1 (Ext G w.heap.size) ∧ Mods (fun k => k = r) w w') := by
  have hold := h.more (G' := Ext G w.heap.size) fun _ _ e => .inl e
  obtain ⟨hI, nv, pv, h, hGr, hn, hp⟩ := h
  have hfk := fit_K w s
  have hha := has_K w _ nv N s h.nrd
  obtain ⟨A, cp, rfl, _, _⟩ := h.nown.form
  have c1 := h.cells.at_ 1 rfl
  have HI := Lib.hid hI
  cases hf : fitB s with
  | false =>
    have He := Lib.hid (addV_bad (N := N) hf)
    rw [hf] at hfk
    clear hf
    have Hh := Lib.hid h
    clear h
    have Hhfk := Lib.hid hfk
    clear hfk
    have Hhha := Lib.hid hha
    clear hha
    have HhI := Lib.hid hI
    clear hI
    have Hhn := Lib.hid hn
    clear hn
    have Hhp := Lib.hid hp
    clear hp
    have HhGr := Lib.hid hGr
    clear hGr
    have Hhold := Lib.hid hold
    clear hold
    unfold ks at Hhfk ⊢
    go_enter Tryd.func39, Tryd.ntmps39
    go_wp2_with (first | (go_at_call 33; (refine ret_use (Hhfk.out) ?_; rintro v w2 ⟨rfl, rfl⟩)) | ((with_reducible refine wp_region_por ?_ ?_ ?_ ?_); kernel_rfl; kernel_rfl; (with_reducible repeat (first | exact calm_ret | refine calm_then ?_ | refine calm_in ?_ | refine calm_chk ?_ | refine calm_noGoto ?_))) | ((with_reducible refine chk_end ?_ ?_); kernel_rfl))
    go_ret
    rw [He.out]
    exact ⟨rfl, Hhold.out, Mods.refl _ _⟩
  | true =>
    rw [hf] at hfk
    rcases Nat.lt_or_ge N.length 64 with hl | hl
    · have hl' : decide (64 ≤ (N.length : Int)) = false := decide_eq_false (by omega)
      by_cases hm : s ∈ N
      · have He := Lib.hid (addV_there hf hm hl)
        rw [decide_eq_true hm] at hha
        clear hf hm
        have Hh := Lib.hid h
        clear h
        have Hhfk := Lib.hid hfk
        clear hfk
        have Hhha := Lib.hid hha
        clear hha
        have HhI := Lib.hid hI
        clear hI
        have Hhn := Lib.hid hn
        clear hn
        have Hhp := Lib.hid hp
        clear hp
        have HhGr := Lib.hid hGr
        clear hGr
        have Hhold := Lib.hid hold
        clear hold
        unfold ks at Hhfk Hhha ⊢
        go_enter Tryd.func39, Tryd.ntmps39
        go_wp2_with (first | (go_at_call 33; (refine ret_use (Hhfk.out) ?_; rintro v w2 ⟨rfl, rfl⟩)) | (go_at_call 34; (refine ret_use (Hhha.out) ?_; rintro v w2 ⟨rfl, rfl⟩)) | ((with_reducible refine wp_region_por ?_ ?_ ?_ ?_); kernel_rfl; kernel_rfl; (with_reducible repeat (first | exact calm_ret | refine calm_then ?_ | refine calm_in ?_ | refine calm_chk ?_ | refine calm_noGoto ?_))) | ((with_reducible refine chk_end ?_ ?_); kernel_rfl))
        go_ret
        rw [He.out]
        exact ⟨rfl, Hhold.out, Mods.refl _ _⟩
      · have He := Lib.hid (addV_new hf hm hl)
        rw [decide_eq_false hm] at hha
        have hsl : s.length ≤ 200 := (of_decide_eq_true (show decide (1 ≤ s.length ∧ s.length ≤ 200) = true from hf)).2
        have hpu := put_K w r c _ pv N (placesOf c N) s h (by omega) hI.c2 hI.psmall hsl
        have HI2 := Lib.hid (ringI_ins hI hf hm hl)
        rw [show mergeL ltP (placesOf c N) (ownL c s) = placesOf c (insT N s) from merged] at hpu
        clear hf hm
        have Hh := Lib.hid h
        clear h
        have Hhfk := Lib.hid hfk
        clear hfk
        have Hhha := Lib.hid hha
        clear hha
        have HhI := Lib.hid hI
        clear hI
        have Hhn := Lib.hid hn
        clear hn
        have Hhp := Lib.hid hp
        clear hp
        have HhGr := Lib.hid hGr
        clear hGr
        have Hhold := Lib.hid hold
        clear hold
        have Hhpu := Lib.hid hpu
        clear hpu
        unfold ks at Hhfk Hhha Hhpu ⊢
        go_enter Tryd.func39, Tryd.ntmps39
        go_wp2_with (first | (go_at_call 33; (refine ret_use (Hhfk.out) ?_; rintro v w2 ⟨rfl, rfl⟩)) | (go_at_call 34; (refine ret_use (Hhha.out) ?_; rintro v w2 ⟨rfl, rfl⟩)) | (go_at_call 35; (refine ret_use (Hhpu.out) ?_; rintro v w3 ⟨⟨nv3, pv3, h3, hn3, hp3⟩, hm3⟩; have H3 := Lib.hid h3; have HN3 := Lib.hid hn3; have HP3 := Lib.hid hp3; have HM3 := Lib.hid hm3; clear h3 hn3 hp3 hm3)) | ((with_reducible refine wp_region_por ?_ ?_ ?_ ?_); kernel_rfl; kernel_rfl; (with_reducible repeat (first | exact calm_ret | refine calm_then ?_ | refine calm_in ?_ | refine calm_chk ?_ | refine calm_noGoto ?_))) | ((with_reducible refine chk_end ?_ ?_); kernel_rfl))
        go_ret
        rw [He.out]
        exact ⟨rfl, ⟨HI2.out, _, _, H3.out, .inl HhGr.out, fun g hg => .inr (HN3.out g hg), fun g hg => .inr (HP3.out g hg)⟩, HM3.out⟩
    · have hl' : decide (64 ≤ (N.length : Int)) = true := decide_eq_true (by omega)
      have He := Lib.hid (addV_full hf hl)
      clear hf
      have Hh := Lib.hid h
      clear h
      have Hhfk := Lib.hid hfk
      clear hfk
      have Hhha := Lib.hid hha
      clear hha
      have HhI := Lib.hid hI
      clear hI
      have Hhn := Lib.hid hn
      clear hn
      have Hhp := Lib.hid hp
      clear hp
      have HhGr := Lib.hid hGr
      clear hGr
      have Hhold := Lib.hid hold
      clear hold
      unfold ks at Hhfk ⊢
      go_enter Tryd.func39, Tryd.ntmps39
      go_wp2_with (first | (go_at_call 33; (refine ret_use (Hhfk.out) ?_; rintro v w2 ⟨rfl, rfl⟩)) | ((with_reducible refine wp_region_por ?_ ?_ ?_ ?_); kernel_rfl; kernel_rfl; (with_reducible repeat (first | exact calm_ret | refine calm_then ?_ | refine calm_in ?_ | refine calm_chk ?_ | refine calm_noGoto ?_))) | ((with_reducible refine chk_end ?_ ?_); kernel_rfl))
      go_ret
      rw [He.out]
      exact ⟨rfl, Hhold.out, Mods.refl _ _⟩
structure WpI (W wr : World) (L : List Plc) (s : Tx) (i : Nat) (v : Value) : Prop where
  own : Own wr (fun g => W.heap.size ≤ g) 39 2 v ((L.take i).filter (notOf s)).length (plcs ((L.take i).filter (notOf s)))
  hm : Mods No W wr
theorem WpI.stay {W wr : World} {L : List Plc} {s : Tx} {i : Nat} {v : Value} (h : WpI W wr L s i v) {x : Plc} (hx : L[i]? = some x) (e : x.2 = s) : WpI W wr L s (i + 1) v := by
  have h1 := filter_take_next (p := notOf s) hx
  rw [if_neg (by show ¬ (!decide (x.2 = s)) = true; rw [e]; simp), List.append_nil] at h1
  exact ⟨by rw [h1]; exact h.own, h.hm⟩
theorem WpI.more {W wr w3 : World} {L : List Plc} {s : Tx} {i : Nat} {v u : Value} (h : WpI W wr L s i v) {x : Plc} (hx : L[i]? = some x) (e : ¬ x.2 = s) {acc : List Plc} (hacc : acc = (L.take i).filter (notOf s)) {wx : World} (hm : Mods No wr wx)
    (h3 : Own w3 (fun k => v.ownBlock = some k ∨ k = wx.heap.size) 39 2 u (acc.length + 1) (plcs acc ++ [.int .u64 (x.1 : Int), ks x.2])) (hm3 : Mods (fun k => v.ownBlock = some k) wx w3) : WpI W w3 L s (i + 1) u := by
  subst hacc
  have h1 := filter_take_next (p := notOf s) hx
  rw [if_pos (by show (!decide (x.2 = s)) = true; simp [e])] at h1
  have hsz := Nat.le_trans h.hm.size hm.size
  refine ⟨?_, (h.hm.trans hm fun _ _ e => e).trans hm3 fun k hk e => absurd hk (Nat.not_lt.2 (h.own.2 k e))⟩
  rw [h1, plcs_snoc, List.length_append]
  refine h3.more fun g hg => ?_
  rcases hg with e | e
  · exact h.own.2 g e
  · exact e ▸ hsz
set_option maxHeartbeats 3200000 in
theorem rremove_K (w : World) (r c : Nat) (N : List Tx) (s : Tx) (G : Nat → Prop) (h : RefK w r c N G) :
    Calls Tryd.prog 40 #[(.pointer (some ⟨r, 0, none⟩)), ks s] w (Ret fun v w' => v = .int .i64 (delV N s).2 ∧ RefK w' r c (delV N s).1 (Ext G w.heap.size) ∧ Mods (fun k => k = r) w w') := by
  have hold := h.more (G' := Ext G w.heap.size) fun _ _ e => .inl e
  obtain ⟨hI, nv, pv, h, hGr, hn, hp⟩ := h
  have hha := has_K w _ nv N s h.nrd
  obtain ⟨A, cp, rfl, _, _⟩ := h.nown.form
  have c1 := h.cells.at_ 1 rfl
  have HI := Lib.hid hI
  have hN64 := hI.small
  by_cases hm : s ∈ N
  · have He := Lib.hid (show delV N s = (N.filter fun x => !decide (x = s), 0) from if_pos hm)
    rw [decide_eq_true hm] at hha
    obtain ⟨L, hL⟩ : ∃ L, L = placesOf c N := ⟨_, rfl⟩
    have hL8 : L.length ≤ 8192 := by rw [hL]; exact hI.psmall
    rw [← hL] at h
    have HL := Lib.hid hL
    obtain ⟨Ap, cpp, rfl, _, _⟩ := h.pown.form
    clear hm hL
    have Hh := Lib.hid h
    clear h
    have Hhha := Lib.hid hha
    clear hha
    have HhI := Lib.hid hI
    clear hI
    have Hhn := Lib.hid hn
    clear hn
    have Hhp := Lib.hid hp
    clear hp
    have HhGr := Lib.hid hGr
    clear hGr
    have Hhold := Lib.hid hold
    clear hold
    unfold ks at Hhha ⊢
    go_enter Tryd.func40, Tryd.ntmps40
    go_wp2_with (first | (go_at_call 34; (refine ret_use (Hhha.out) ?_; rintro v w2 ⟨rfl, rfl⟩)) | ((with_reducible refine wp_region_por ?_ ?_ ?_ ?_); kernel_rfl; kernel_rfl; (with_reducible repeat (first | exact calm_ret | refine calm_then ?_ | refine calm_in ?_ | refine calm_chk ?_ | refine calm_noGoto ?_))) | ((with_reducible refine chk_end ?_ ?_); kernel_rfl))
    go_loopg [5, 6] N.length (fun k v5 v6 wr => ∃ (i : Nat), v6 = .int .i64 i ∧ i ≤ N.length ∧ k + i = N.length ∧ WoI w wr N s i v5)
    case atStart => exact ⟨0, rfl, Nat.zero_le _, rfl, Own.nil _ _ _ _, Mods.refl _ _⟩
    case round =>
      clear c1
      obtain ⟨i, rfl, hi, hki, hin⟩ := hrel
      have Hin := Lib.hid hin
      have Hki := Lib.hid hki
      obtain ⟨acc, hacc⟩ : ∃ acc, acc = less1 (N.take i) s := ⟨_, rfl⟩
      have ho := hin.own
      rw [← hacc] at ho
      have hac8 : acc.length ≤ 65536 := by rw [hacc]; have := List.length_filter_le (fun x => !decide (x = s)) (N.take i); rw [List.length_take] at this; unfold less1; omega
      have HA := Lib.hid hacc
      have HO := Lib.hid ho
      have j1 := (Hh.out.cells.mods hin.hm fun e => e).at_ 1 rfl
      obtain ⟨A7, c7, rfl, _, _⟩ := ho.form
      clear hin hki hacc ho
      rcases Nat.lt_or_ge i N.length with h1 | h1
      · obtain ⟨x, hx⟩ := lt_get h1
        obtain ⟨b1, o1, rfl, _, x0⟩ := (Hh.out.no Hin.out.hm).nrd.tx rfl hx
        unfold ks at x0
        by_cases e : x = s
        · have hs : (x == s) = true := by simp [e]
          have Hst := Lib.hid (Hin.out.stay hx e)
          clear hx e
          go_wp2_with (first | ((with_reducible refine wp_region_por ?_ ?_ ?_ ?_); kernel_rfl; kernel_rfl; (with_reducible repeat (first | exact calm_ret | refine calm_then ?_ | refine calm_in ?_ | refine calm_chk ?_ | refine calm_noGoto ?_))) | ((with_reducible refine chk_end ?_ ?_); kernel_rfl))
          go_roundg (gk - 1)
          case rel => exact ⟨i + 1, by go_num, h1, by have := Hki.out; omega, Hst.out⟩
          case measure => have := Hki.out; omega
        · have hs : (x == s) = false := by simp [e]
          have Hx := Lib.hid (And.intro hx e)
          clear hx e
          go_wp2_with (first | (at_builtin; ((refine wpList_append _ rfl (.tmp 34) (.tmp 42) 22 rfl 9 (.string ⟨#[]⟩) 1 16 Tryd.underlying22 infoTx rfl (by decide) (F := fun g => w.heap.size ≤ g) (n := acc.length) (xs := acc.map ks) (by rfl) (HO.out.mods ((Mods.refl No wr).alloc (.cells #[ks x] 9)) fun _ _ e => e) (G := fun g => g = wr.heap.size) (y := .slice (some ⟨wr.heap.size, 0, none⟩) 1 1) (m := 1) (news := [ks x]) (by rfl) (Rd.box _ #[ks x] _ rfl rfl (by decide)) (fun u hu => by rw [List.mem_singleton.1 hu]; rfl) (by omega) (by decide) ?_); intro v8 w8 hown8 hm8 _; have HE8 := Lib.hid (Hin.out.more Hx.out.1 Hx.out.2 HA.out ((Mods.refl No wr).alloc (.cells #[ks x] 9)) hown8 hm8); obtain ⟨A8, c8, rfl, _, _⟩ := hown8.form; clear hown8 hm8)) | ((with_reducible refine wp_region_por ?_ ?_ ?_ ?_); kernel_rfl; kernel_rfl; (with_reducible repeat (first | exact calm_ret | refine calm_then ?_ | refine calm_in ?_ | refine calm_chk ?_ | refine calm_noGoto ?_))) | ((with_reducible refine chk_end ?_ ?_); kernel_rfl))
          go_roundg (gk - 1)
          case rel => exact ⟨i + 1, by go_num, h1, by have := Hki.out; omega, HE8.out⟩
          case measure => have := Hki.out; omega
      · obtain rfl : i = N.length := by omega
        have hA := HA.out
        rw [List.take_length] at hA
        have HF := Lib.hid hA
        have HM1 := Lib.hid Hin.out.hm
        have HR1 := Lib.hid (Hh.out.no Hin.out.hm)
        clear HA Hin hA Hki
        obtain ⟨W, rfl⟩ : ∃ W, W = wr := ⟨_, rfl⟩
        go_wp2_with (first | ((with_reducible refine wp_region_por ?_ ?_ ?_ ?_); kernel_rfl; kernel_rfl; (with_reducible repeat (first | exact calm_ret | refine calm_then ?_ | refine calm_in ?_ | refine calm_chk ?_ | refine calm_noGoto ?_))) | ((with_reducible refine chk_end ?_ ?_); kernel_rfl))
        go_loopg [7, 8] L.length (fun k v7 v8 wx => ∃ (i : Nat), v8 = .int .i64 i ∧ i ≤ L.length ∧ k + i = L.length ∧ WpI W wx L s i v7)
        case atStart => exact ⟨0, rfl, Nat.zero_le _, rfl, Own.nil _ _ _ _, Mods.refl _ _⟩
        case round =>
          obtain ⟨i, rfl, hi, hki, hin⟩ := hrel
          have Hin := Lib.hid hin
          have Hki := Lib.hid hki
          obtain ⟨ac2, hac2⟩ : ∃ ac2, ac2 = (L.take i).filter (notOf s) := ⟨_, rfl⟩
          have ho := hin.own
          rw [← hac2] at ho
          have hac9 : ac2.length ≤ 65536 := by rw [hac2]; have := List.length_filter_le (notOf s) (L.take i); rw [List.length_take] at this; omega
          have HA2 := Lib.hid hac2
          have HO2 := Lib.hid ho
          have j2 := (HR1.out.cells.mods hin.hm fun e => e).at_ 2 rfl
          have HCx := Lib.hid (HR1.out.cells.mods hin.hm fun e => e)
          obtain ⟨A9, c9, rfl, _, _⟩ := ho.form
          clear hin hki hac2 ho
          rcases Nat.lt_or_ge i L.length with h2 | h2
          · obtain ⟨x, hx⟩ := lt_get h2
            obtain ⟨b2, o2, rfl, _, x0, x1⟩ := (HR1.out.no Hin.out.hm).prd.plc rfl hx
            unfold ks at x1
            by_cases e : x.2 = s
            · have hs : (x.2 == s) = true := by simp [e]
              have Hst := Lib.hid (Hin.out.stay hx e)
              clear hx e
              go_wp2_with (first | ((with_reducible refine wp_region_por ?_ ?_ ?_ ?_); kernel_rfl; kernel_rfl; (with_reducible repeat (first | exact calm_ret | refine calm_then ?_ | refine calm_in ?_ | refine calm_chk ?_ | refine calm_noGoto ?_))) | ((with_reducible refine chk_end ?_ ?_); kernel_rfl))
              go_roundg (gk - 1)
              case rel => exact ⟨i + 1, by go_num, h2, by have := Hki.out; omega, Hst.out⟩
              case measure => have := Hki.out; omega
            · have hs : (x.2 == s) = false := by simp [e]
              have Hx := Lib.hid (And.intro hx e)
              clear hx e
              go_wp2_with (first | (at_builtin; ((refine wpList_append _ rfl (.tmp 63) (.tmp 71) 27 rfl 39 (.agg #[.int .u64 0, .string ⟨#[]⟩]) 2 24 Tryd.underlying27 infoPl rfl (by decide) (F := fun g => W.heap.size ≤ g) (n := ac2.length) (xs := plcs ac2) (by rfl) (HO2.out.mods ((Mods.refl No wr).alloc (.cells #[.int .u64 (x.1 : Int), ks x.2] 39)) fun _ _ e => e) (G := fun g => g = wr.heap.size) (y := .slice (some ⟨wr.heap.size, 0, none⟩) 1 1) (m := 1) (news := [.int .u64 (x.1 : Int), ks x.2]) (by rfl) (Rd.box _ #[.int .u64 (x.1 : Int), ks x.2] _ rfl rfl (by decide)) (plc_one _ _) (by omega) (by decide) ?_); intro v8 w8 hown8 hm8 _; have HE8 := Lib.hid (Hin.out.more Hx.out.1 Hx.out.2 HA2.out ((Mods.refl No wr).alloc (.cells #[.int .u64 (x.1 : Int), ks x.2] 39)) hown8 hm8); obtain ⟨A8, c8, rfl, _, _⟩ := hown8.form; clear hown8 hm8)) | ((with_reducible refine wp_region_por ?_ ?_ ?_ ?_); kernel_rfl; kernel_rfl; (with_reducible repeat (first | exact calm_ret | refine calm_then ?_ | refine calm_in ?_ | refine calm_chk ?_ | refine calm_noGoto ?_))) | ((with_reducible refine chk_end ?_ ?_); kernel_rfl))
              go_roundg (gk - 1)
              case rel => exact ⟨i + 1, by go_num, h2, by have := Hki.out; omega, HE8.out⟩
              case measure => have := Hki.out; omega
          · obtain rfl : i = L.length := by omega
            have hA2 := HA2.out
            rw [List.take_length] at hA2
            have HF2 := Lib.hid hA2
            have j1 := HCx.out.at_ 1 rfl
            have f1 := HCx.out.frozen 1
            have f2 := HCx.out.frozen 2
            have fl := HCx.out.lt
            clear hA2
            go_wp2_with (first | ((with_reducible refine wp_region_por ?_ ?_ ?_ ?_); kernel_rfl; kernel_rfl; (with_reducible repeat (first | exact calm_ret | refine calm_then ?_ | refine calm_in ?_ | refine calm_chk ?_ | refine calm_noGoto ?_))) | ((with_reducible refine chk_end ?_ ?_); kernel_rfl))
            go_ret
            rw [He.out]
            have hs2 := rset2 Hh.out (HM1.out.trans Hin.out.hm fun _ _ e => e) (HO.out.mods Hin.out.hm fun _ _ e => e) (HO2.out.more fun g e => Nat.le_trans HM1.out.size e)
            have hpl : ac2 = placesOf c acc := by rw [HF2.out, HF.out, HL.out]; exact placesOf_del c N s
            have hacc : acc = N.filter fun x => !decide (x = s) := HF.out
            refine ⟨rfl, ⟨hacc ▸ ringI_del HI.out s, _, _, ?_, .inl HhGr.out, fun g hg => .inr (HO.out.2 g hg), fun g hg => .inr (Nat.le_trans HM1.out.size (HO2.out.2 g hg))⟩, hs2.2⟩
            rw [← hacc, ← hpl]
            exact hs2.1
  · have He := Lib.hid (show delV N s = (N, 133) from if_neg hm)
    rw [decide_eq_false hm] at hha
    clear hm
    have Hh := Lib.hid h
    clear h
    have Hhha := Lib.hid hha
    clear hha
    have HhI := Lib.hid hI
    clear hI
    have Hhn := Lib.hid hn
    clear hn
    have Hhp := Lib.hid hp
    clear hp
    have HhGr := Lib.hid hGr
    clear hGr
    have Hhold := Lib.hid hold
    clear hold
    unfold ks at Hhha ⊢
    go_enter Tryd.func40, Tryd.ntmps40
    go_wp2_with (first | (go_at_call 34; (refine ret_use (Hhha.out) ?_; rintro v w2 ⟨rfl, rfl⟩)) | ((with_reducible refine wp_region_por ?_ ?_ ?_ ?_); kernel_rfl; kernel_rfl; (with_reducible repeat (first | exact calm_ret | refine calm_then ?_ | refine calm_in ?_ | refine calm_chk ?_ | refine calm_noGoto ?_))) | ((with_reducible refine chk_end ?_ ?_); kernel_rfl))
    go_ret
    rw [He.out]
    exact ⟨rfl, Hhold.out, Mods.refl _ _⟩
end Go.Proofs.YtilkepmmkhmghaaDoor
