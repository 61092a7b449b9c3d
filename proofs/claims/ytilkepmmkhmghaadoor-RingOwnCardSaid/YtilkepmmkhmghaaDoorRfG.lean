/- The reference's ring: Pick, Get. -/
import Derived.Test.YtilkepmmkhmghaaDoorRfF
namespace Go.Proofs.YtilkepmmkhmghaaDoor
open Go.RowKit Go.Tum Go.Lib Go.Sort
set_option maxRecDepth 100000
/-- Between two rounds of Pick's second loop. -/
structure RpI (w wr : World) (T : List Tx) (i : Nat) (n : Int) (v : Value) : Prop where
  own : Own wr (fun g => w.heap.size ≤ g) 9 1 v (dd [] (T.take i)).length ((dd [] (T.take i)).map ks)
  le : (dd [] (T.take i)).length ≤ n.toNat
  hm : Mods No w wr
theorem RpI.stay {w wr wx : World} {T : List Tx} {i : Nat} {n : Int} {v : Value} (h : RpI w wr T i n v) {x : Tx} (hx : T[i]? = some x) (ha : x ∈ dd [] (T.take i)) (hm : Mods No wr wx) : RpI w wx T (i + 1) n v := by
  have e := dd_step hx
  rw [if_pos ha] at e
  exact ⟨by rw [e]; exact h.own.mods hm fun _ _ e => e, by rw [e]; exact h.le, h.hm.trans hm fun _ _ e => e⟩
theorem RpI.more {w wr wx w3 : World} {T : List Tx} {i : Nat} {n : Int} {v u : Value} (h : RpI w wr T i n v) {x : Tx} (hx : T[i]? = some x) {acc : List Tx} (hacc : acc = dd [] (T.take i)) (ha : x ∉ acc) (hl : (acc.length : Int) < n) (hm : Mods No wr wx)
    (h3 : Own w3 (fun k => v.ownBlock = some k ∨ k = wx.heap.size) 9 1 u (acc.length + 1) (acc.map ks ++ [ks x])) (hm3 : Mods (fun k => v.ownBlock = some k) wx w3) : RpI w w3 T (i + 1) n u := by
  subst hacc
  have e := dd_step hx
  rw [if_neg ha] at e
  have hsz := Nat.le_trans h.hm.size hm.size
  refine ⟨?_, by rw [e, List.length_append, List.length_singleton]; omega, (h.hm.trans hm fun _ _ e => e).trans hm3 fun k hk e => absurd hk (Nat.not_lt.2 (h.own.2 k e))⟩
  rw [e, List.map_append, List.length_append]
  refine h3.more fun g hg => ?_
  rcases hg with e | e
  · exact h.own.2 g e
  · exact e ▸ hsz
theorem pick_exit {L : List Plc} {g f : Nat} {n : Int} (hf : f = pickV.posOf L g) {T : List Tx} (hT : T = (turned L f).map (·.2)) {i : Nat} (h : L.length ≤ i ∨ ¬ ((dd [] (T.take i)).length : Int) < n) (hle : (dd [] (T.take i)).length ≤ n.toNat) : pickV L g n = dd [] (T.take i) := by
  by_cases h1 : n < 1
  · rw [pick_none h1]
    exact (List.eq_nil_of_length_eq_zero (by omega)).symm
  · by_cases h2 : ((dd [] (T.take i)).length : Int) = n
    · exact pick_cut h1 hf hT h2
    · rcases h with h | h
      · have ht : T.take i = T := List.take_of_length_le (by rw [hT, List.length_map, turned_len]; exact h)
        rw [ht] at h2 hle ⊢
        exact pick_all h1 hf hT (by omega)
      · omega
set_option maxHeartbeats 6400000 in
theorem rpick_K (w : World) (r c : Nat) (N : List Tx) (s : Tx) (n : Int) (G : Nat → Prop) (h : RefK w r c N G) (hsl : s.length ≤ maxLen) :
    Calls Tryd.prog 18 #[(.pointer (some ⟨r, 0, none⟩)), ks s, .int .i64 n] w (Ret fun v w' => Own w' (fun g => w.heap.size ≤ g) 9 1 v (pickV (placesOf c N) (fnv64 s) n).length ((pickV (placesOf c N) (fnv64 s) n).map ks) ∧ Mods No w w') := by
  obtain ⟨hI, nv, pv, h, _, _, _⟩ := h
  have hps8 := hI.psmall
  have hris := placesOf_rising c N
  obtain ⟨L, hL⟩ : ∃ L, L = placesOf c N := ⟨_, rfl⟩
  rw [← hL] at h hps8 hris ⊢
  clear hL
  obtain ⟨g, hg⟩ : ∃ g, g = fnv64 s := ⟨_, rfl⟩
  have hha := rhash64_K w s hsl
  rw [← hg] at hha ⊢
  obtain ⟨f, hf⟩ : ∃ f, f = pickV.posOf L g := ⟨_, rfl⟩
  have hfl : f ≤ L.length := hf ▸ posOf_le L g
  obtain ⟨T, hT⟩ : ∃ T, T = (turned L f).map (·.2) := ⟨_, rfl⟩
  have hTl : T.length = L.length := by rw [hT, List.length_map, turned_len]
  have HF := Lib.hid hf
  have HT := Lib.hid hT
  have c2 := h.cells.at_ 2 rfl
  have rl := h.cells.lt
  obtain ⟨A, cp, rfl, hac, _⟩ := h.pown.form
  clear hf hT hg hris
  have Hh := Lib.hid h
  clear h
  have HhI := Lib.hid hI
  clear hI
  have Hhha := Lib.hid hha
  clear hha
  unfold ks at Hhha ⊢
  go_enter Tryd.func18, Tryd.ntmps18
  go_upto_block 0 with (first | (go_at_call 24; (refine ret_use (Hhha.out) ?_; rintro v w2 ⟨rfl, rfl⟩)) | ((with_reducible refine wp_region_por ?_ ?_ ?_ ?_); kernel_rfl; kernel_rfl; (with_reducible repeat (first | exact calm_ret | refine calm_then ?_ | refine calm_in ?_ | refine calm_chk ?_ | refine calm_noGoto ?_))) | ((with_reducible refine chk_end ?_ ?_); kernel_rfl))
  go_cut [8] from 14 to 34 (fun v8 wx => v8 = .int .i64 ((f : Nat) : Int) ∧ wx = w)
  case first =>
    go_wp2_with (first | ((with_reducible refine wp_region_por ?_ ?_ ?_ ?_); kernel_rfl; kernel_rfl; (with_reducible repeat (first | exact calm_ret | refine calm_then ?_ | refine calm_in ?_ | refine calm_chk ?_ | refine calm_noGoto ?_))) | ((with_reducible refine chk_end ?_ ?_); kernel_rfl))
    go_loopg [8] L.length (fun k v8 wr => ∃ i : Nat, v8 = .int .i64 i ∧ i ≤ L.length ∧ k + i = L.length ∧ (∀ y ∈ L.take i, decide (y.1 < g) = true) ∧ wr = w)
    case atStart => exact ⟨0, rfl, Nat.zero_le _, rfl, fun y hy => (by simp at hy), rfl⟩
    case round =>
      obtain ⟨i, rfl, hi, hki, hno, rfl⟩ := hrel
      have Hki := Lib.hid hki
      have Hno := Lib.hid hno
      clear hki hno
      rcases Nat.lt_or_ge i L.length with h1 | h1
      · obtain ⟨x, hx⟩ := lt_get h1
        obtain ⟨b, o, rfl, _, x0, x1⟩ := Hh.out.prd.plc rfl hx
        cases hlt : decide (x.1 < g) with
        | true =>
          have hlt' := hlt
          have Hx := Lib.hid (And.intro hx hlt)
          clear hx hlt
          go_wp2_with (first | ((with_reducible refine wp_region_por ?_ ?_ ?_ ?_); kernel_rfl; kernel_rfl; (with_reducible repeat (first | exact calm_ret | refine calm_then ?_ | refine calm_in ?_ | refine calm_chk ?_ | refine calm_noGoto ?_))) | ((with_reducible refine chk_end ?_ ?_); kernel_rfl))
          go_roundg (gk - 1)
          case rel => exact ⟨i + 1, by go_num, h1, by have := Hki.out; omega, fun y hy => by
            rw [take_nx Hx.out.1] at hy
            rcases List.mem_append.1 hy with hy | hy
            · exact Hno.out y hy
            · rw [List.mem_singleton.1 hy]; exact Hx.out.2, rfl⟩
          case measure => have := Hki.out; omega
        | false =>
          have hlt' := hlt
          have He := Lib.hid (show f = i by rw [HF.out]; exact tw_len (by omega) Hno.out (.inr ⟨x, hx, hlt⟩))
          clear hx hlt
          go_wp2_with (first | ((with_reducible refine wp_region_por ?_ ?_ ?_ ?_); kernel_rfl; kernel_rfl; (with_reducible repeat (first | exact calm_ret | refine calm_then ?_ | refine calm_in ?_ | refine calm_chk ?_ | refine calm_noGoto ?_))) | ((with_reducible refine chk_end ?_ ?_); kernel_rfl))
          go_meet
          case rel => exact ⟨by rw [He.out], rfl⟩
      · obtain rfl : i = L.length := by omega
        have He := Lib.hid (show f = L.length by rw [HF.out]; exact tw_len (by omega) Hno.out (.inl (Nat.le_refl _)))
        go_wp2_with (first | ((with_reducible refine wp_region_por ?_ ?_ ?_ ?_); kernel_rfl; kernel_rfl; (with_reducible repeat (first | exact calm_ret | refine calm_then ?_ | refine calm_in ?_ | refine calm_chk ?_ | refine calm_noGoto ?_))) | ((with_reducible refine chk_end ?_ ?_); kernel_rfl))
        go_meet
        case rel => exact ⟨by rw [He.out], rfl⟩
  case rest =>
    obtain ⟨rfl, hwc⟩ := hcut
    obtain rfl : w = wc := hwc.symm
    go_wp2_with (first | ((with_reducible refine wp_region_por ?_ ?_ ?_ ?_); kernel_rfl; kernel_rfl; (with_reducible repeat (first | exact calm_ret | refine calm_then ?_ | refine calm_in ?_ | refine calm_chk ?_ | refine calm_noGoto ?_))) | ((with_reducible refine chk_end ?_ ?_); kernel_rfl))
    go_loopg [9, 10] L.length (fun k v9 v10 wr => ∃ (i : Nat), v10 = .int .i64 i ∧ i ≤ L.length ∧ k + i = L.length ∧ RpI w wr T i n v9)
    case atStart => exact ⟨0, rfl, Nat.zero_le _, rfl, Own.nil _ _ _ _, Nat.zero_le _, Mods.refl _ _⟩
    case round =>
      obtain ⟨W, rfl⟩ : ∃ W, W = wr := ⟨_, rfl⟩
      obtain ⟨i, rfl, hi, hki, hin⟩ := hrel
      have Hin := Lib.hid hin
      have Hki := Lib.hid hki
      have j2 := (Hh.out.cells.mods hin.hm fun e => e).at_ 2 rfl
      have jl := (Hh.out.cells.mods hin.hm fun e => e).lt
      obtain ⟨acc, hacc⟩ : ∃ acc, acc = dd [] (T.take i) := ⟨_, rfl⟩
      have ho := hin.own
      rw [← hacc] at ho
      have hac8 : acc.length ≤ 8192 := by rw [hacc]; have := dd_len (T.take i) []; simp only [List.length_take, List.length_nil] at this; omega
      have HA := Lib.hid hacc
      have HO := Lib.hid ho
      obtain ⟨A7, c7, rfl, _, _⟩ := ho.form
      clear hin hki hacc ho
      rcases Nat.lt_or_ge i L.length with h1 | h1
      · by_cases hln : (acc.length : Int) < n
        · have hln' : decide ((acc.length : Int) < n) = true := decide_eq_true hln
          have Hln := Lib.hid hln
          obtain ⟨m, p, hm, hLm, hTi, htm⟩ := turned_idx hfl h1 HT.out
          obtain ⟨b1, o1, rfl, _, x0, x1⟩ := (Tum.Own.mods Hh.out.pown Hin.out.hm fun _ _ e => e).rd.plc rfl hLm
          obtain ⟨cur, hcur⟩ := (Tum.Own.mods Hh.out.pown Hin.out.hm fun _ _ e => e).typed b1 rfl
          have Hcur := Lib.hid hcur
          have Hno1 := Lib.hid (fun e : b1 = W.heap.size => Nat.ne_of_lt hcur.lt e)
          have HTi := Lib.hid hTi
          have hha2 := fun w' (hm' : Mods No W w') => has_K w' (fun g => w.heap.size ≤ g) (.slice A7 acc.length c7) acc p.2 ((HO.out.mods hm' fun _ _ e => e).rd)
          unfold ks at x1
          clear hcur hTi hLm hln
          have hpj : PkJ W (W.alloc (.cells #[.int .u64 (p.1 : Int), ks p.2] 39)).drew p := ⟨(Cells.new W _ _).drew, ((Mods.refl No W).alloc _).drew⟩
          have HJ := Lib.hid hpj
          have k1 := hpj.box.at_ 1 rfl
          have kl := hpj.box.lt
          unfold ks at k1
          clear hpj
          by_cases hpa : p.2 ∈ acc
          · rw [decide_eq_true hpa] at hha2
            have Hst := Lib.hid (fun w' (hm' : Mods No W w') => Hin.out.stay HTi.out (by rw [← HA.out]; exact hpa) hm')
            clear hpa
            have Hhha2 := Lib.hid hha2
            clear hha2
            unfold ks at Hhha2
            go_wp2_with (first | ((with_reducible refine wp_region_one 9 (fun g => g = r ∨ g = b1) [3, 10, 14] 15 ?_ ?_ ?_ ?_ ?_); kernel_rfl; kernel_rfl; kernel_rfl; (with_reducible repeat (first | exact calm_ret | refine calm_then ?_ | refine calm_in ?_ | refine calm_chk ?_ | refine calm_noGoto ?_)); simp only [List.drop_succ_cons, List.drop_zero, List.take_succ_cons, List.take_zero]) | (with_reducible refine segEnd ?_) | (refine And.intro (Keep.two ((Mods.refl No _).alloc _) (Hh.out.cells.mods Hin.out.hm fun e => e).drew (fun e => e) Hcur.out.drew (fun e => e)) ?_) | ((with_reducible refine chkM_end (fun g => g = r ∨ g = b1) ?_ [.pointer (some ⟨r, 2, none⟩), .pointer (some ⟨r, 2, none⟩), .pointer (some ⟨b1, o1 + m * 2, none⟩)] ?_ ?_ ?_); kernel_rfl; kernel_rfl; (intro v hv x hx; simp only [List.mem_cons, List.not_mem_nil, or_false] at hv; rcases hv with rfl | rfl | rfl <;> (injection hx with hx; injection hx with hx; subst hx; simp))) | (go_at_call 34; (refine ret_use (Hhha2.out _ ((Mods.refl No W).alloc (.cells #[.int .u64 (p.1 : Int), ks p.2] 39)).drew) ?_; rintro v w5 ⟨rfl, rfl⟩)) | ((with_reducible refine wp_region_por ?_ ?_ ?_ ?_); kernel_rfl; kernel_rfl; (with_reducible repeat (first | exact calm_ret | refine calm_then ?_ | refine calm_in ?_ | refine calm_chk ?_ | refine calm_noGoto ?_))) | ((with_reducible refine chk_end ?_ ?_); kernel_rfl))
            go_roundg (gk - 1)
            case rel => exact ⟨i + 1, by go_num, h1, by have := Hki.out; omega, Hst.out _ HJ.out.hm⟩
            case measure => have := Hki.out; omega
          · rw [decide_eq_false hpa] at hha2
            have Hna := Lib.hid hpa
            clear hpa
            have Hhha2 := Lib.hid hha2
            clear hha2
            unfold ks at Hhha2
            go_wp2_with (first | ((with_reducible refine wp_region_one 9 (fun g => g = r ∨ g = b1) [3, 10, 14] 15 ?_ ?_ ?_ ?_ ?_); kernel_rfl; kernel_rfl; kernel_rfl; (with_reducible repeat (first | exact calm_ret | refine calm_then ?_ | refine calm_in ?_ | refine calm_chk ?_ | refine calm_noGoto ?_)); simp only [List.drop_succ_cons, List.drop_zero, List.take_succ_cons, List.take_zero]) | (with_reducible refine segEnd ?_) | (refine And.intro (Keep.two ((Mods.refl No _).alloc _) (Hh.out.cells.mods Hin.out.hm fun e => e).drew (fun e => e) Hcur.out.drew (fun e => e)) ?_) | ((with_reducible refine chkM_end (fun g => g = r ∨ g = b1) ?_ [.pointer (some ⟨r, 2, none⟩), .pointer (some ⟨r, 2, none⟩), .pointer (some ⟨b1, o1 + m * 2, none⟩)] ?_ ?_ ?_); kernel_rfl; kernel_rfl; (intro v hv x hx; simp only [List.mem_cons, List.not_mem_nil, or_false] at hv; rcases hv with rfl | rfl | rfl <;> (injection hx with hx; injection hx with hx; subst hx; simp))) | (go_at_call 34; (refine ret_use (Hhha2.out _ ((Mods.refl No W).alloc (.cells #[.int .u64 (p.1 : Int), ks p.2] 39)).drew) ?_; rintro v w5 ⟨rfl, rfl⟩)) | (at_builtin; ((refine wpList_append _ rfl (.tmp 70) (.tmp 73) 22 rfl 9 (.string ⟨#[]⟩) 1 16 Tryd.underlying22 infoTx rfl (by decide) (F := fun g => w.heap.size ≤ g) (n := acc.length) (xs := acc.map ks) (by rfl) ((HO.out.mods HJ.out.hm fun _ _ e => e).mods ((Mods.refl No _).alloc (.cells #[ks p.2] 9)) fun _ _ e => e) (G := fun g => g = W.heap.size + 1) (y := .slice (some ⟨W.heap.size + 1, 0, none⟩) 1 1) (m := 1) (news := [ks p.2]) (by rfl) (Rd.box (W.alloc (.cells #[.int .u64 (p.1 : Int), ks p.2] 39)).drew #[ks p.2] _ (show W.heap.size + 1 = (W.alloc (.cells #[.int .u64 (p.1 : Int), ks p.2] 39)).heap.size by rw [World.size_alloc]) rfl (by decide)) (ks_one p.2) (by omega) (by decide) ?_); intro v8 w8 hown8 hm8 _; have HE8 := Lib.hid (Hin.out.more HTi.out HA.out Hna.out Hln.out (HJ.out.hm.alloc (.cells #[ks p.2] 9)) hown8 hm8); obtain ⟨A8, c8, rfl, _, _⟩ := hown8.form; clear hown8 hm8)) | ((with_reducible refine wp_region_por ?_ ?_ ?_ ?_); kernel_rfl; kernel_rfl; (with_reducible repeat (first | exact calm_ret | refine calm_then ?_ | refine calm_in ?_ | refine calm_chk ?_ | refine calm_noGoto ?_))) | ((with_reducible refine chk_end ?_ ?_); kernel_rfl))
            go_roundg (gk - 1)
            case rel => exact ⟨i + 1, by go_num, h1, by have := Hki.out; omega, HE8.out⟩
            case measure => have := Hki.out; omega
        · have hln' : decide ((acc.length : Int) < n) = false := decide_eq_false hln
          have He := Lib.hid (pick_exit HF.out HT.out (.inr (by rw [← HA.out]; exact hln)) Hin.out.le)
          clear hln
          go_wp2_with (first | ((with_reducible refine wp_region_por ?_ ?_ ?_ ?_); kernel_rfl; kernel_rfl; (with_reducible repeat (first | exact calm_ret | refine calm_then ?_ | refine calm_in ?_ | refine calm_chk ?_ | refine calm_noGoto ?_))) | ((with_reducible refine chk_end ?_ ?_); kernel_rfl))
          go_ret
          rw [He.out, ← HA.out]
          exact ⟨HO.out, Hin.out.hm⟩
      · obtain rfl : i = L.length := by omega
        have He := Lib.hid (pick_exit HF.out HT.out (.inl (Nat.le_refl _)) Hin.out.le)
        go_wp2_with (first | ((with_reducible refine wp_region_por ?_ ?_ ?_ ?_); kernel_rfl; kernel_rfl; (with_reducible repeat (first | exact calm_ret | refine calm_then ?_ | refine calm_in ?_ | refine calm_chk ?_ | refine calm_noGoto ?_))) | ((with_reducible refine chk_end ?_ ?_); kernel_rfl))
        go_ret
        rw [He.out, ← HA.out]
        exact ⟨HO.out, Hin.out.hm⟩
set_option maxHeartbeats 1600000 in
theorem rget_K (w : World) (r c : Nat) (N : List Tx) (s : Tx) (G : Nat → Prop) (h : RefK w r c N G) (hsl : s.length ≤ maxLen) :
    Calls Tryd.prog 41 #[(.pointer (some ⟨r, 0, none⟩)), ks s] w (Ret fun v w' => v = .tuple #[ks (getV (placesOf c N) (fnv64 s)).1, .bool (getV (placesOf c N) (fnv64 s)).2] ∧ Mods No w w') := by
  have hp := rpick_K w r c N s 1 G h hsl
  obtain ⟨l, hl⟩ : ∃ l, l = pickV (placesOf c N) (fnv64 s) 1 := ⟨_, rfl⟩
  rw [← hl] at hp
  clear h
  cases l with
  | nil =>
    have He := Lib.hid (show getV (placesOf c N) (fnv64 s) = ([], false) by unfold getV; rw [← hl])
    clear hl
    have Hhp := Lib.hid hp
    clear hp
    unfold ks at Hhp
    rw [He.out]
    unfold ks
    go_enter Tryd.func41, Tryd.ntmps41
    go_wp2_with (first | (go_at_call 18; (refine ret_use (Hhp.out) ?_; rintro v w2 ⟨ho2, hm2⟩; have HM2 := Lib.hid hm2; obtain ⟨A2, c2, rfl, _, _⟩ := ho2.form; clear ho2 hm2)) | ((with_reducible refine wp_region_por ?_ ?_ ?_ ?_); kernel_rfl; kernel_rfl; (with_reducible repeat (first | exact calm_ret | refine calm_then ?_ | refine calm_in ?_ | refine calm_chk ?_ | refine calm_noGoto ?_))) | ((with_reducible refine chk_end ?_ ?_); kernel_rfl))
    go_ret2
    exact ⟨rfl, HM2.out⟩
  | cons x l =>
    have He := Lib.hid (show getV (placesOf c N) (fnv64 s) = (x, true) by unfold getV; rw [← hl])
    clear hl
    have Hhp := Lib.hid hp
    clear hp
    unfold ks at Hhp
    rw [He.out]
    unfold ks
    go_enter Tryd.func41, Tryd.ntmps41
    go_wp2_with (first | (go_at_call 18; (refine ret_use (Hhp.out) ?_; rintro v w2 ⟨ho2, hm2⟩; have HM2 := Lib.hid hm2; obtain ⟨A2, c2, rfl, _, _⟩ := ho2.form; obtain ⟨b2, o2, rfl, _, x2⟩ := ho2.rd.tx (x := x) (i := 0) (l := x :: l) rfl rfl; (rw [Nat.add_zero] at x2; unfold ks at x2); clear ho2 hm2)) | ((with_reducible refine wp_region_por ?_ ?_ ?_ ?_); kernel_rfl; kernel_rfl; (with_reducible repeat (first | exact calm_ret | refine calm_then ?_ | refine calm_in ?_ | refine calm_chk ?_ | refine calm_noGoto ?_))) | ((with_reducible refine chk_end ?_ ?_); kernel_rfl))
    go_ret2
    exact ⟨rfl, HM2.out⟩
end Go.Proofs.YtilkepmmkhmghaaDoor
