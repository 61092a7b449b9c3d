/- Texts of one part together. -/
import Derived.Test.YtcifajfmdpjfiaaDoorRkC
import Derived.Test.YtcifajfmdpjfiaaDoorRlKp
/- The reference's relay: its ring's Pick. -/
namespace Go.Proofs.YtcifajfmdpjfiaaDoor
open Go.RowKit Go.Tum Go.Lib Go.Sort
set_option maxRecDepth 100000
/-- Between two rounds of Pick's second loop. -/
structure RpI (w wr : World) (T : List Tx) (i : Nat) (n : Int) (v : Value) : Prop where
  own : Own wr (fun g => w.heap.size ≤ g) 9 1 v (dd [] (T.take i)).length ((dd [] (T.take i)).map ks)
  le : (dd [] (T.take i)).length ≤ n.toNat
  hm : Mods No w wr
theorem RpI.stay {w wr wx : World} {T : List Tx} {i : Nat} {n : Int} {v : Value} (h : RpI w wr T i n v) {x : Tx} (hx : T[i]? = some x) (ha : x ∈ dd [] (T.take i)) (hm : Mods No wr wx) : RpI w wx T (i + 1) n v := by
  have e := dd_step hx
  rw [if_pos ha] at e
  exact ⟨by rw [e]; exact h.own.mods hm fun _ _ e => e, by rw [e]; exact h.le, h.hm.trans hm fun _ _ e => e⟩
theorem RpI.more {w wr wx w3 : World} {T : List Tx} {i : Nat} {n : Int} {v u : Value} (h : RpI w wr T i n v) {x : Tx} (hx : T[i]? = some x) {acc : List Tx} (hacc : acc = dd [] (T.take i)) (ha : x ∉ acc) (hl : (acc.length : Int) < n) (hm : Mods No wr wx)
    (h3 : Own w3 (fun k => v.ownBlock = some k ∨ k = wx.heap.size) 9 1 u (acc.length + 1) (acc.map ks ++ [ks x])) (hm3 : Mods (fun k => v.ownBlock = some k) wx w3) : RpI w w3 T (i + 1) n u := by
  subst hacc
  have e := dd_step hx
  rw [if_neg ha] at e
  have hsz := Nat.le_trans h.hm.size hm.size
  refine ⟨?_, by rw [e, List.length_append, List.length_singleton]; omega, (h.hm.trans hm fun _ _ e => e).trans hm3 fun k hk e => absurd hk (Nat.not_lt.2 (h.own.2 k e))⟩
  rw [e, List.map_append, List.length_append]
  refine h3.more fun g hg => ?_
  rcases hg with e | e
  · exact h.own.2 g e
  · exact e ▸ hsz
theorem pick_exit {L : List Plc} {g f : Nat} {n : Int} (hf : f = pickV.posOf L g) {T : List Tx} (hT : T = (turned L f).map (·.2)) {i : Nat} (h : L.length ≤ i ∨ ¬ ((dd [] (T.take i)).length : Int) < n) (hle : (dd [] (T.take i)).length ≤ n.toNat) : pickV L g n = dd [] (T.take i) := by
  by_cases h1 : n < 1
  · rw [pick_none h1]
    exact (List.eq_nil_of_length_eq_zero (by omega)).symm
  · by_cases h2 : ((dd [] (T.take i)).length : Int) = n
    · exact pick_cut h1 hf hT h2
    · rcases h with h | h
      · have ht : T.take i = T := List.take_of_length_le (by rw [hT, List.length_map, turned_len]; exact h)
        rw [ht] at h2 hle ⊢
        exact pick_all h1 hf hT (by omega)
      · omega
set_option maxHeartbeats 6400000 in
theorem rrpick_K (w : World) (r c : Nat) (N : List Tx) (s : Tx) (n : Int) (cs : Array Value) (pv : Value) (hc : Cells w r 36 cs) (c7 : cs[7]? = some pv) (hps8 : (placesOf c N).length ≤ 8192) (ho : Own w (fun g => g < w.heap.size ∧ g ≠ r) 103 2 pv (placesOf c N).length (plcs (placesOf c N))) (hsl : s.length ≤ maxLen) :
    Calls Tryd.prog 36 #[.pointer (some ⟨r, 5, none⟩), ks s, .int .i64 n] w (Ret fun v w' => Own w' (fun g => w.heap.size ≤ g) 9 1 v (pickV (placesOf c N) (fnv64 s) n).length ((pickV (placesOf c N) (fnv64 s) n).map ks) ∧ Mods No w w') := by
  have hris := placesOf_rising c N
  obtain ⟨L, hL⟩ : ∃ L, L = placesOf c N := ⟨_, rfl⟩
  rw [← hL] at ho hps8 hris ⊢
  clear hL
  obtain ⟨g, hg⟩ : ∃ g, g = fnv64 s := ⟨_, rfl⟩
  have hha := rhash64_K w s hsl
  rw [← hg] at hha ⊢
  obtain ⟨f, hf⟩ : ∃ f, f = pickV.posOf L g := ⟨_, rfl⟩
  have hfl : f ≤ L.length := hf ▸ posOf_le L g
  obtain ⟨T, hT⟩ : ∃ T, T = (turned L f).map (·.2) := ⟨_, rfl⟩
  have hTl : T.length = L.length := by rw [hT, List.length_map, turned_len]
  have HF := Lib.hid hf
  have HT := Lib.hid hT
  have c2 := hc.at_ 7 c7
  have rl := hc.lt
  obtain ⟨A, cp, rfl, hac, _⟩ := ho.form
  have C7 := Lib.hid c7
  clear hf hT hg hris c7
  have Hhc := Lib.hid hc
  clear hc
  have Hho := Lib.hid ho
  clear ho
  have Hhha := Lib.hid hha
  clear hha
  unfold ks at Hhha ⊢
  go_enter Tryd.func36, Tryd.ntmps36
  go_upto_block 0 with (first | (go_at_call 51; (refine ret_use (Hhha.out) ?_; rintro v w2 ⟨rfl, rfl⟩)) | ((with_reducible refine wp_region_por ?_ ?_ ?_ ?_); kernel_rfl; kernel_rfl; (with_reducible repeat (first | exact calm_ret | refine calm_then ?_ | refine calm_in ?_ | refine calm_chk ?_ | refine calm_noGoto ?_))) | ((with_reducible refine chk_end ?_ ?_); kernel_rfl))
  go_cut [8] from 14 to 34 (fun v8 wx => v8 = .int .i64 ((f : Nat) : Int) ∧ wx = w)
  case first =>
    go_wp2_with (first | ((with_reducible refine wp_region_por ?_ ?_ ?_ ?_); kernel_rfl; kernel_rfl; (with_reducible repeat (first | exact calm_ret | refine calm_then ?_ | refine calm_in ?_ | refine calm_chk ?_ | refine calm_noGoto ?_))) | ((with_reducible refine chk_end ?_ ?_); kernel_rfl))
    go_loopg [8] L.length (fun k v8 wr => ∃ i : Nat, v8 = .int .i64 i ∧ i ≤ L.length ∧ k + i = L.length ∧ (∀ y ∈ L.take i, decide (y.1 < g) = true) ∧ wr = w)
    case atStart => exact ⟨0, rfl, Nat.zero_le _, rfl, fun y hy => (by simp at hy), rfl⟩
    case round =>
      obtain ⟨i, rfl, hi, hki, hno, rfl⟩ := hrel
      have Hki := Lib.hid hki
      have Hno := Lib.hid hno
      clear hki hno
      rcases Nat.lt_or_ge i L.length with h1 | h1
      · obtain ⟨x, hx⟩ := lt_get h1
        obtain ⟨b, o, rfl, _, x0, x1⟩ := Hho.out.rd.plc rfl hx
        cases hlt : decide (x.1 < g) with
        | true =>
          have hlt' := hlt
          have Hx := Lib.hid (And.intro hx hlt)
          clear hx hlt
          go_wp2_with (first | ((with_reducible refine wp_region_por ?_ ?_ ?_ ?_); kernel_rfl; kernel_rfl; (with_reducible repeat (first | exact calm_ret | refine calm_then ?_ | refine calm_in ?_ | refine calm_chk ?_ | refine calm_noGoto ?_))) | ((with_reducible refine chk_end ?_ ?_); kernel_rfl))
          go_roundg (gk - 1)
          case rel => exact ⟨i + 1, by go_num, h1, by have := Hki.out; omega, fun y hy => by
            rw [take_nx Hx.out.1] at hy
            rcases List.mem_append.1 hy with hy | hy
            · exact Hno.out y hy
            · rw [List.mem_singleton.1 hy]; exact Hx.out.2, rfl⟩
          case measure => have := Hki.out; omega
        | false =>
          have hlt' := hlt
          have He := Lib.hid (show f = i by rw [HF.out]; exact tw_len (by omega) Hno.out (.inr ⟨x, hx, hlt⟩))
          clear hx hlt
          go_wp2_with (first | ((with_reducible refine wp_region_por ?_ ?_ ?_ ?_); kernel_rfl; kernel_rfl; (with_reducible repeat (first | exact calm_ret | refine calm_then ?_ | refine calm_in ?_ | refine calm_chk ?_ | refine calm_noGoto ?_))) | ((with_reducible refine chk_end ?_ ?_); kernel_rfl))
          go_meet
          case rel => exact ⟨by rw [He.out], rfl⟩
      · obtain rfl : i = L.length := by omega
        have He := Lib.hid (show f = L.length by rw [HF.out]; exact tw_len (by omega) Hno.out (.inl (Nat.le_refl _)))
        go_wp2_with (first | ((with_reducible refine wp_region_por ?_ ?_ ?_ ?_); kernel_rfl; kernel_rfl; (with_reducible repeat (first | exact calm_ret | refine calm_then ?_ | refine calm_in ?_ | refine calm_chk ?_ | refine calm_noGoto ?_))) | ((with_reducible refine chk_end ?_ ?_); kernel_rfl))
        go_meet
        case rel => exact ⟨by rw [He.out], rfl⟩
  case rest =>
    obtain ⟨rfl, hwc⟩ := hcut
    obtain rfl : w = wc := hwc.symm
    go_wp2_with (first | ((with_reducible refine wp_region_por ?_ ?_ ?_ ?_); kernel_rfl; kernel_rfl; (with_reducible repeat (first | exact calm_ret | refine calm_then ?_ | refine calm_in ?_ | refine calm_chk ?_ | refine calm_noGoto ?_))) | ((with_reducible refine chk_end ?_ ?_); kernel_rfl))
    go_loopg [9, 10] L.length (fun k v9 v10 wr => ∃ (i : Nat), v10 = .int .i64 i ∧ i ≤ L.length ∧ k + i = L.length ∧ RpI w wr T i n v9)
    case atStart => exact ⟨0, rfl, Nat.zero_le _, rfl, Own.nil _ _ _ _, Nat.zero_le _, Mods.refl _ _⟩
    case round =>
      obtain ⟨W, rfl⟩ : ∃ W, W = wr := ⟨_, rfl⟩
      obtain ⟨i, rfl, hi, hki, hin⟩ := hrel
      have Hin := Lib.hid hin
      have Hki := Lib.hid hki
      have j2 := (Hhc.out.mods hin.hm fun e => e).at_ 7 C7.out
      have jl := (Hhc.out.mods hin.hm fun e => e).lt
      obtain ⟨acc, hacc⟩ : ∃ acc, acc = dd [] (T.take i) := ⟨_, rfl⟩
      have ho := hin.own
      rw [← hacc] at ho
      have hac8 : acc.length ≤ 8192 := by rw [hacc]; have := dd_len (T.take i) []; simp only [List.length_take, List.length_nil] at this; omega
      have HA := Lib.hid hacc
      have HO := Lib.hid ho
      obtain ⟨A7, c7, rfl, _, _⟩ := ho.form
      clear hin hki hacc ho
      rcases Nat.lt_or_ge i L.length with h1 | h1
      · by_cases hln : (acc.length : Int) < n
        · have hln' : decide ((acc.length : Int) < n) = true := decide_eq_true hln
          have Hln := Lib.hid hln
          obtain ⟨m, p, hm, hLm, hTi, htm⟩ := turned_idx hfl h1 HT.out
          obtain ⟨b1, o1, rfl, _, x0, x1⟩ := (Tum.Own.mods Hho.out Hin.out.hm fun _ _ e => e).rd.plc rfl hLm
          obtain ⟨cur, hcur⟩ := (Tum.Own.mods Hho.out Hin.out.hm fun _ _ e => e).typed b1 rfl
          have Hcur := Lib.hid hcur
          have Hno1 := Lib.hid (fun e : b1 = W.heap.size => Nat.ne_of_lt hcur.lt e)
          have HTi := Lib.hid hTi
          have hha2 := fun w' (hm' : Mods No W w') => has_K w' (fun g => w.heap.size ≤ g) (.slice A7 acc.length c7) acc p.2 ((HO.out.mods hm' fun _ _ e => e).rd)
          unfold ks at x1
          clear hcur hTi hLm hln
          have hpj : PkJ W (W.alloc (.cells #[.int .u64 (p.1 : Int), ks p.2] 103)).drew p := ⟨(Cells.new W _ _).drew, ((Mods.refl No W).alloc _).drew⟩
          have HJ := Lib.hid hpj
          have k1 := hpj.box.at_ 1 rfl
          have kl := hpj.box.lt
          unfold ks at k1
          clear hpj
          by_cases hpa : p.2 ∈ acc
          · rw [decide_eq_true hpa] at hha2
            have Hst := Lib.hid (fun w' (hm' : Mods No W w') => Hin.out.stay HTi.out (by rw [← HA.out]; exact hpa) hm')
            clear hpa
            have Hhha2 := Lib.hid hha2
            clear hha2
            unfold ks at Hhha2
            go_wp2_with (first | ((with_reducible refine wp_region_one 9 (fun g => g = r ∨ g = b1) [3, 10, 14] 15 ?_ ?_ ?_ ?_ ?_); kernel_rfl; kernel_rfl; kernel_rfl; (with_reducible repeat (first | exact calm_ret | refine calm_then ?_ | refine calm_in ?_ | refine calm_chk ?_ | refine calm_noGoto ?_)); simp only [List.drop_succ_cons, List.drop_zero, List.take_succ_cons, List.take_zero]) | (with_reducible refine segEnd ?_) | (refine And.intro (Keep.two ((Mods.refl No _).alloc _) (Hhc.out.mods Hin.out.hm fun e => e).drew (fun e => e) Hcur.out.drew (fun e => e)) ?_) | ((with_reducible refine chkM_end (fun g => g = r ∨ g = b1) ?_ [.pointer (some ⟨r, 7, none⟩), .pointer (some ⟨r, 7, none⟩), .pointer (some ⟨b1, o1 + m * 2, none⟩)] ?_ ?_ ?_); kernel_rfl; kernel_rfl; (intro v hv x hx; simp only [List.mem_cons, List.not_mem_nil, or_false] at hv; rcases hv with rfl | rfl | rfl <;> (injection hx with hx; injection hx with hx; subst hx; simp))) | (go_at_call 43; (refine ret_use (Hhha2.out _ ((Mods.refl No W).alloc (.cells #[.int .u64 (p.1 : Int), ks p.2] 103)).drew) ?_; rintro v w5 ⟨rfl, rfl⟩)) | ((with_reducible refine wp_region_por ?_ ?_ ?_ ?_); kernel_rfl; kernel_rfl; (with_reducible repeat (first | exact calm_ret | refine calm_then ?_ | refine calm_in ?_ | refine calm_chk ?_ | refine calm_noGoto ?_))) | ((with_reducible refine chk_end ?_ ?_); kernel_rfl))
            go_roundg (gk - 1)
            case rel => exact ⟨i + 1, by go_num, h1, by have := Hki.out; omega, Hst.out _ HJ.out.hm⟩
            case measure => have := Hki.out; omega
          · rw [decide_eq_false hpa] at hha2
            have Hna := Lib.hid hpa
            clear hpa
            have Hhha2 := Lib.hid hha2
            clear hha2
            unfold ks at Hhha2
            go_wp2_with (first | ((with_reducible refine wp_region_one 9 (fun g => g = r ∨ g = b1) [3, 10, 14] 15 ?_ ?_ ?_ ?_ ?_); kernel_rfl; kernel_rfl; kernel_rfl; (with_reducible repeat (first | exact calm_ret | refine calm_then ?_ | refine calm_in ?_ | refine calm_chk ?_ | refine calm_noGoto ?_)); simp only [List.drop_succ_cons, List.drop_zero, List.take_succ_cons, List.take_zero]) | (with_reducible refine segEnd ?_) | (refine And.intro (Keep.two ((Mods.refl No _).alloc _) (Hhc.out.mods Hin.out.hm fun e => e).drew (fun e => e) Hcur.out.drew (fun e => e)) ?_) | ((with_reducible refine chkM_end (fun g => g = r ∨ g = b1) ?_ [.pointer (some ⟨r, 7, none⟩), .pointer (some ⟨r, 7, none⟩), .pointer (some ⟨b1, o1 + m * 2, none⟩)] ?_ ?_ ?_); kernel_rfl; kernel_rfl; (intro v hv x hx; simp only [List.mem_cons, List.not_mem_nil, or_false] at hv; rcases hv with rfl | rfl | rfl <;> (injection hx with hx; injection hx with hx; subst hx; simp))) | (go_at_call 43; (refine ret_use (Hhha2.out _ ((Mods.refl No W).alloc (.cells #[.int .u64 (p.1 : Int), ks p.2] 103)).drew) ?_; rintro v w5 ⟨rfl, rfl⟩)) | (at_builtin; ((refine wpList_append _ rfl (.tmp 70) (.tmp 73) 22 rfl 9 (.string ⟨#[]⟩) 1 16 Tryd.underlying22 infoTx rfl (by decide) (F := fun g => w.heap.size ≤ g) (n := acc.length) (xs := acc.map ks) (by rfl) ((HO.out.mods HJ.out.hm fun _ _ e => e).mods ((Mods.refl No _).alloc (.cells #[ks p.2] 9)) fun _ _ e => e) (G := fun g => g = W.heap.size + 1) (y := .slice (some ⟨W.heap.size + 1, 0, none⟩) 1 1) (m := 1) (news := [ks p.2]) (by rfl) (Rd.box (W.alloc (.cells #[.int .u64 (p.1 : Int), ks p.2] 103)).drew #[ks p.2] _ (show W.heap.size + 1 = (W.alloc (.cells #[.int .u64 (p.1 : Int), ks p.2] 103)).heap.size by rw [World.size_alloc]) rfl (by decide)) (ks_one p.2) (by omega) (by decide) ?_); intro v8 w8 hown8 hm8 _; have HE8 := Lib.hid (Hin.out.more HTi.out HA.out Hna.out Hln.out (HJ.out.hm.alloc (.cells #[ks p.2] 9)) hown8 hm8); obtain ⟨A8, c8, rfl, _, _⟩ := hown8.form; clear hown8 hm8)) | ((with_reducible refine wp_region_por ?_ ?_ ?_ ?_); kernel_rfl; kernel_rfl; (with_reducible repeat (first | exact calm_ret | refine calm_then ?_ | refine calm_in ?_ | refine calm_chk ?_ | refine calm_noGoto ?_))) | ((with_reducible refine chk_end ?_ ?_); kernel_rfl))
            go_roundg (gk - 1)
            case rel => exact ⟨i + 1, by go_num, h1, by have := Hki.out; omega, HE8.out⟩
            case measure => have := Hki.out; omega
        · have hln' : decide ((acc.length : Int) < n) = false := decide_eq_false hln
          have He := Lib.hid (pick_exit HF.out HT.out (.inr (by rw [← HA.out]; exact hln)) Hin.out.le)
          clear hln
          go_wp2_with (first | ((with_reducible refine wp_region_por ?_ ?_ ?_ ?_); kernel_rfl; kernel_rfl; (with_reducible repeat (first | exact calm_ret | refine calm_then ?_ | refine calm_in ?_ | refine calm_chk ?_ | refine calm_noGoto ?_))) | ((with_reducible refine chk_end ?_ ?_); kernel_rfl))
          go_ret
          rw [He.out, ← HA.out]
          exact ⟨HO.out, Hin.out.hm⟩
      · obtain rfl : i = L.length := by omega
        have He := Lib.hid (pick_exit HF.out HT.out (.inl (Nat.le_refl _)) Hin.out.le)
        go_wp2_with (first | ((with_reducible refine wp_region_por ?_ ?_ ?_ ?_); kernel_rfl; kernel_rfl; (with_reducible repeat (first | exact calm_ret | refine calm_then ?_ | refine calm_in ?_ | refine calm_chk ?_ | refine calm_noGoto ?_))) | ((with_reducible refine chk_end ?_ ?_); kernel_rfl))
        go_ret
        rw [He.out, ← HA.out]
        exact ⟨HO.out, Hin.out.hm⟩
end Go.Proofs.YtcifajfmdpjfiaaDoor

/- The reference's relay in memory; where a destination stands. -/
namespace Go.Proofs.YtcifajfmdpjfiaaDoor
open Go.RowKit Go.Tum Go.Lib Go.Sort
set_option maxRecDepth 100000
/-- The reference's relay at x: destinations in block gd (label 3), the records of place i in a block of label 4 + i. -/
structure RrP (w : World) (x C R H : Nat) (nw : Bool) (N : List Tx) (S : List Stn) (dn : List Tx) (col : Nat → Nat) (gd cd : Nat) (v0 sn sp : Value) (xs lv : List Value) : Prop where
  rel : Cells w x 36 #[v0, .int .i64 (C : Int), .int .i64 (R : Int), .int .i64 (H : Int), .bool nw, .int .i64 (C : Int), sn, sp, .slice (some ⟨gd, 0, none⟩) N.length cd]
  crx : col x = 1
  pl : Own w (fun b => col b = 2) 103 2 sp (placesOf C N).length (plcs (placesOf C N))
  own : Own w (fun b => col b = 3) 87 6 (.slice (some ⟨gd, 0, none⟩) N.length cd) N.length xs
  row : ∀ i s st v, N[i]? = some s → S[i]? = some st → lv[i]? = some v → xs[i * 6]? = some (ks s) ∧ xs[i * 6 + 1]? = some (.bool (!decide (s ∈ dn))) ∧ xs[i * 6 + 2]? = some (.int .i64 0) ∧ xs[i * 6 + 3]? = some (.int .i64 (st.sent : Int)) ∧ xs[i * 6 + 4]? = some (.int .i64 (st.dropped : Int)) ∧ xs[i * 6 + 5]? = some v
  each : ∀ i st v, S[i]? = some st → lv[i]? = some v → OwnAt w (fun b => col b = 4 + i) 45 4 v st.L.length (rcs st.L)
  len : lv.length = N.length
structure RrI0 (C : Nat) (N : List Tx) : Prop where
  strict : Strict ltT N
  n1 : 1 ≤ N.length
  small : N.length ≤ 64
  psmall : (placesOf C N).length ≤ 8192
  c1 : 1 ≤ C
  fit : ∀ s ∈ N, s.length ≤ 200
section
variable {w w' : World} {x C R H : Nat} {nw : Bool} {N : List Tx} {S : List Stn} {dn : List Tx} {col : Nat → Nat} {gd cd : Nat} {v0 sn sp : Value} {xs lv : List Value}
theorem ownAt_recol {e : TypeId} {size n mid j L : Nat} {v : Value} {xs : List Value} {T : Nat → Prop} (h : OwnAt w (fun b => col b = j) e size v n xs) (hm : Mods T w w') (hT : ∀ b, b < w.heap.size → T b → col b ≠ j) : OwnAt w' (fun b => recol2 w.heap.size mid col L b = j) e size v n xs := by
  have h1 := h.mods hm fun b hb hc ht => hT b hb ht hc
  have h0 := h
  refine ⟨h1.1, ?_⟩
  rcases h.2 with hn | ⟨g, off, cap, cur, rfl, hF, hg, rest⟩
  · exact .inl hn
  · have hlt := (Array.getElem?_eq_some_iff.1 hg).1
    exact .inr ⟨g, off, cap, cur, rfl, (recol2_old hlt).trans hF, (hm.block g hlt fun ht => hT g hlt ht hF).trans hg, rest⟩
theorem RrP.mods {T : Nat → Prop} (h : RrP w x C R H nw N S dn col gd cd v0 sn sp xs lv) (hm : Mods T w w') (hT : ∀ b, b < w.heap.size → T b → col b = 0) : RrP w' x C R H nw N S dn (recol2 w.heap.size w'.heap.size col 0) gd cd v0 sn sp xs lv := by
  have hk : ∀ j, j ≠ 0 → ∀ b, b < w.heap.size → T b → col b ≠ j := fun j hj b hb e => by rw [hT b hb e]; exact fun e => hj e.symm
  exact ⟨h.rel.mods hm fun e => by have := hT _ h.rel.lt e; rw [h.crx] at this; omega, by rw [recol2_old h.rel.lt]; exact h.crx, own_recol h.pl hm (hk 2 (by decide)), own_recol h.own hm (hk 3 (by decide)), h.row, fun i st v e1 e2 => ownAt_recol (h.each i st v e1 e2) hm (hk _ (by omega)), h.len⟩
/-- The cells of place i. -/
theorem RrP.at_ (h : RrP w x C R H nw N S dn col gd cd v0 sn sp xs lv) {i : Nat} {s : Tx} {st : Stn} {v : Value} (h1 : N[i]? = some s) (h2 : S[i]? = some st) (h3 : lv[i]? = some v) :
    w.cell? ⟨gd, i * 6, none⟩ = some (ks s) ∧ w.cell? ⟨gd, i * 6 + 1, none⟩ = some (.bool (!decide (s ∈ dn))) ∧ w.cell? ⟨gd, i * 6 + 2, none⟩ = some (.int .i64 0) ∧ w.cell? ⟨gd, i * 6 + 3, none⟩ = some (.int .i64 (st.sent : Int)) ∧ w.cell? ⟨gd, i * 6 + 4, none⟩ = some (.int .i64 (st.dropped : Int)) ∧ w.cell? ⟨gd, i * 6 + 5, none⟩ = some v ∧
      ∀ r, r < 6 → w.frozen? ⟨gd, i * 6 + r, none⟩ = false := by
  have hi := (List.getElem?_eq_some_iff.1 h1).1
  obtain ⟨g, c, e, _, _, hc⟩ := h.own.cells (by omega)
  injection e with e
  injection e with e
  injection e with e
  subst e
  obtain ⟨r0, r1, r2, r3, r4, r5⟩ := h.row i s st v h1 h2 h3
  have hg : ∀ r, r < 6 → w.cell? ⟨gd, i * 6 + r, none⟩ = xs[i * 6 + r]? ∧ w.frozen? ⟨gd, i * 6 + r, none⟩ = false := fun r hr => hc _ (by omega)
  exact ⟨(hg 0 (by decide)).1.trans r0, (hg 1 (by decide)).1.trans r1, (hg 2 (by decide)).1.trans r2, (hg 3 (by decide)).1.trans r3, (hg 4 (by decide)).1.trans r4, (hg 5 (by decide)).1.trans r5, fun r hr => (hg r hr).2⟩
theorem RrP.gd_lt (h : RrP w x C R H nw N S dn col gd cd v0 sn sp xs lv) : gd < w.heap.size := h.own.lt gd rfl
end
set_option maxHeartbeats 1600000 in
theorem rfind_K {w : World} {x C R H : Nat} {nw : Bool} {N : List Tx} {S : List Stn} {dn : List Tx} {col : Nat → Nat} {gd cd : Nat} {v0 sn sp : Value} {xs lv : List Value} (h : RrP w x C R H nw N S dn col gd cd v0 sn sp xs lv) (hS : S.length = N.length) (hN : N.length ≤ 64) (s : Tx) :
    Calls Tryd.prog 35 #[(.pointer (some ⟨x, 0, none⟩)), ks s] w (Ret fun u w' => u = .int .i64 (idxV N s) ∧ w = w') := by
  have r8 := h.rel.at_ 8 rfl
  have rl := h.rel.lt
  have gl := h.gd_lt
  have hcd : N.length ≤ cd := by obtain ⟨_, _, e, h1, _⟩ := h.own.form; injection e with _ _ e; omega
  have Hlen := Lib.hid (And.intro hS h.len)
  clear hS
  have Hh := Lib.hid h
  clear h
  unfold ks
  go_enter Tryd.func35, Tryd.ntmps35
  go_wp2_with (first | ((with_reducible refine wp_region_por ?_ ?_ ?_ ?_); kernel_rfl; kernel_rfl; (with_reducible repeat (first | exact calm_ret | refine calm_then ?_ | refine calm_in ?_ | refine calm_chk ?_ | refine calm_noGoto ?_))) | ((with_reducible refine chk_end ?_ ?_); kernel_rfl))
  go_loopg [5] N.length (fun k v5 wr => ∃ i : Nat, v5 = .int .i64 i ∧ i ≤ N.length ∧ k + i = N.length ∧ s ∉ N.take i ∧ wr = w)
  case atStart => exact ⟨0, rfl, Nat.zero_le _, rfl, by simp, rfl⟩
  case round =>
    obtain ⟨i, rfl, hi, hki, hno, rfl⟩ := hrel
    have Hki := Lib.hid hki
    have Hno := Lib.hid hno
    clear hki hno
    rcases Nat.lt_or_ge i N.length with h1 | h1
    · obtain ⟨t, hx⟩ := lt_get h1
      obtain ⟨st, hst⟩ := lt_get (show i < S.length by rw [Hlen.out.1]; exact h1)
      obtain ⟨v, hv⟩ := lt_get (show i < lv.length by rw [Hlen.out.2]; exact h1)
      have x0 := (Hh.out.at_ hx hst hv).1
      clear hst hv
      unfold ks at x0
      by_cases e : t = s
      · have hs : (t == s) = true := by simp [e]
        have He := Lib.hid (show idxV N s = i from idxV_at (e ▸ hx) Hno.out)
        clear hx e
        go_wp2_with (first | ((with_reducible refine wp_region_por ?_ ?_ ?_ ?_); kernel_rfl; kernel_rfl; (with_reducible repeat (first | exact calm_ret | refine calm_then ?_ | refine calm_in ?_ | refine calm_chk ?_ | refine calm_noGoto ?_))) | ((with_reducible refine chk_end ?_ ?_); kernel_rfl))
        go_ret
        exact ⟨by rw [He.out]; rfl, rfl⟩
      · have hs : (t == s) = false := by simp [e]
        have Hx := Lib.hid (And.intro hx e)
        clear hx e
        go_wp2_with (first | ((with_reducible refine wp_region_por ?_ ?_ ?_ ?_); kernel_rfl; kernel_rfl; (with_reducible repeat (first | exact calm_ret | refine calm_then ?_ | refine calm_in ?_ | refine calm_chk ?_ | refine calm_noGoto ?_))) | ((with_reducible refine chk_end ?_ ?_); kernel_rfl))
        go_roundg (gk - 1)
        case rel => exact ⟨i + 1, by go_num, h1, by have := Hki.out; omega, fun h => by
          rw [take_nx Hx.out.1] at h
          rcases List.mem_append.1 h with h | h
          · exact Hno.out h
          · exact Hx.out.2 (List.mem_singleton.1 h).symm, rfl⟩
        case measure => have := Hki.out; omega
    · obtain rfl : i = N.length := by omega
      go_wp2_with (first | ((with_reducible refine wp_region_por ?_ ?_ ?_ ?_); kernel_rfl; kernel_rfl; (with_reducible repeat (first | exact calm_ret | refine calm_then ?_ | refine calm_in ?_ | refine calm_chk ?_ | refine calm_noGoto ?_))) | ((with_reducible refine chk_end ?_ ?_); kernel_rfl))
      go_ret
      have h := Hno.out
      rw [List.take_length] at h
      exact ⟨by rw [idxV_out h]; rfl, rfl⟩
end Go.Proofs.YtcifajfmdpjfiaaDoor

/- The reference's relay: Where, Turn. -/
namespace Go.Proofs.YtcifajfmdpjfiaaDoor
open Go.RowKit Go.Tum Go.Lib Go.Sort
set_option maxRecDepth 100000
theorem idxV_pos {N : List Tx} (hN : Strict ltT N) {i : Nat} {s : Tx} (h : N[i]? = some s) : idxV N s = i := by
  refine idxV_at h fun hm => ?_
  obtain ⟨k, hk, e⟩ := mem_take_idx hm
  have h1 := pos_at hN h
  have h2 := pos_at hN e
  omega
/-- Between two rounds of Where. -/
structure RwI (w wr : World) (dn : List Tx) (R : Nat) (P : List Tx) (i : Nat) (v : Value) : Prop where
  own : Own wr (fun g => w.heap.size ≤ g) 9 1 v (wants dn R (P.take i)).length ((wants dn R (P.take i)).map ks)
  hm : Mods No w wr
theorem RwI.stay {w wr wx : World} {dn : List Tx} {R i : Nat} {P : List Tx} {v : Value} {s : Tx} (h : RwI w wr dn R P i v) (hs : P[i]? = some s) (hd : s ∈ dn) (hm : Mods No wr wx) : RwI w wx dn R P (i + 1) v := by
  have e : wants dn R (P.take (i + 1)) = wants dn R (P.take i) := by rw [take_nx hs, wants_snoc, if_pos (.inl hd)]
  exact ⟨by rw [e]; exact Tum.Own.mods h.own hm fun _ _ e => e, h.hm.trans hm fun _ _ e => e⟩
theorem RwI.more {w wr wx w3 : World} {dn : List Tx} {R i : Nat} {P : List Tx} {v u : Value} {s : Tx} {acc : List Tx} (h : RwI w wr dn R P i v) (hacc : acc = wants dn R (P.take i)) (hs : P[i]? = some s) (hd : s ∉ dn) (hl : acc.length < R) (hm : Mods No wr wx)
    (h3 : Own w3 (fun k => v.ownBlock = some k ∨ k = wx.heap.size) 9 1 u (acc.length + 1) (acc.map ks ++ [ks s])) (hm3 : Mods (fun k => v.ownBlock = some k) wx w3) : RwI w w3 dn R P (i + 1) u := by
  subst hacc
  have e : wants dn R (P.take (i + 1)) = wants dn R (P.take i) ++ [s] := by rw [take_nx hs, wants_snoc, if_neg (by rintro (h1 | h1); exact hd h1; omega)]
  have hsz := Nat.le_trans h.hm.size hm.size
  refine ⟨?_, (h.hm.trans hm fun _ _ e => e).trans hm3 fun k hk e => absurd hk (Nat.not_lt.2 (h.own.2 k e))⟩
  rw [e, List.map_append, List.length_append]
  refine h3.more fun g hg => ?_
  rcases hg with e | e
  · exact h.own.2 g e
  · exact e ▸ hsz
theorem wants_full {dn : List Tx} {R : Nat} {P : List Tx} {i : Nat} (h : R ≤ (wants dn R (P.take i)).length) : wants dn R P = wants dn R (P.take i) := by
  unfold wants at h ⊢
  rw [List.length_take] at h
  have h1 : P = P.take i ++ P.drop i := (List.take_append_drop i P).symm
  conv => lhs; rw [h1]
  rw [List.filter_append, List.take_append_of_le_length (by omega)]
set_option maxHeartbeats 3200000 in
theorem rwhere_K {w : World} {x C R H : Nat} {nw : Bool} {N : List Tx} {S : List Stn} {dn : List Tx} {col : Nat → Nat} {gd cd : Nat} {v0 sn sp : Value} {xs lv : List Value} (h : RrP w x C R H nw N S dn col gd cd v0 sn sp xs lv) (hI : RlI N S dn R H) (h0 : RrI0 C N) (p : Tx) (hp : p.length ≤ maxLen) :
    Calls Tryd.prog 23 #[(.pointer (some ⟨x, 0, none⟩)), ks p] w (Ret fun v w' => Own w' (fun g => w.heap.size ≤ g) 9 1 v (wants dn R (allV (placesOf C N) (fnv64 p))).length ((wants dn R (allV (placesOf C N) (fnv64 p))).map ks) ∧ Mods No w w') := by
  obtain ⟨P, hP⟩ : ∃ P, P = allV (placesOf C N) (fnv64 p) := ⟨_, rfl⟩
  have hPp : P.Perm N := by rw [hP]; exact allV_perm h0.c1 (h0.strict.nodup sto_T) _
  have hPl : P.length = N.length := hPp.length_eq
  have hpk : pickV (placesOf C N) (fnv64 p) (N.length : Int) = P := by rw [pick_take, ← hP, Int.toNat_natCast, ← hPl, List.take_length]
  have hpick := fun w' (hm : Mods No w w') => rrpick_K w' x C N p (N.length : Int) _ sp (h.rel.mods hm fun e => e) rfl h0.psmall ⟨(Tum.Own.mods h.pl hm fun _ _ e => e).1, fun g hg => ⟨Nat.lt_of_lt_of_le (h.pl.lt g hg) hm.size, fun e => by have h1 := h.pl.2 g hg; rw [e, h.crx] at h1; omega⟩⟩ hp
  rw [hpk, hPl] at hpick
  rw [← hP]
  have HPp := Lib.hid hPp
  have HPl := Lib.hid hPl
  have hN64 := h0.small
  have hR8 := hI.r2
  have r8 := h.rel.at_ 8 rfl
  have r2 := h.rel.at_ 2 rfl
  have rl := h.rel.lt
  have gl := h.gd_lt
  have hcd : N.length ≤ cd := by obtain ⟨_, _, e, h1, _⟩ := h.own.form; injection e with _ _ e; omega
  have HM0 := Lib.hid (Mods.refl No w)
  clear hP hpk hPp hPl
  have Hh := Lib.hid h
  clear h
  have HhI := Lib.hid hI
  clear hI
  have Hh0 := Lib.hid h0
  clear h0
  have Hhpick := Lib.hid hpick
  clear hpick
  unfold ks at Hhpick ⊢
  go_enter Tryd.func23, Tryd.ntmps23
  go_wp2_with (first | (go_at_call 36; (refine ret_use (Hhpick.out _ (by repeat (with_reducible first | exact HM0.out | apply Mods.drew))) ?_; rintro v w2 ⟨ho2, hm2⟩; have HO2 := Lib.hid ho2; have HM2 := Lib.hid (HM0.out.drew.trans hm2 fun _ _ e => e); obtain ⟨A2, c2, rfl, hac2, _⟩ := ho2.form; clear ho2 hm2)) | ((with_reducible refine wp_region_por ?_ ?_ ?_ ?_); kernel_rfl; kernel_rfl; (with_reducible repeat (first | exact calm_ret | refine calm_then ?_ | refine calm_in ?_ | refine calm_chk ?_ | refine calm_noGoto ?_))) | ((with_reducible refine chk_end ?_ ?_); kernel_rfl))
  clear r8 r2 rl gl
  go_loopg [6, 7] N.length (fun k v6 v7 wr => ∃ i : Nat, v7 = .int .i64 i ∧ i ≤ N.length ∧ k + i = N.length ∧ RwI w2 wr dn R P i v6)
  case atStart => exact ⟨0, rfl, Nat.zero_le _, rfl, by rw [show wants dn R (P.take 0) = [] by simp [wants]]; exact Own.nil _ _ _ _, Mods.refl _ _⟩
  case round =>
    obtain ⟨i, rfl, hi, hki, hin⟩ := hrel
    have Hki := Lib.hid hki
    have Hin := Lib.hid hin
    have HMr := Lib.hid (HM2.out.trans hin.hm fun _ _ e => e)
    obtain ⟨acc, hacc⟩ : ∃ acc, acc = wants dn R (P.take i) := ⟨_, rfl⟩
    have ho := hin.own
    rw [← hacc] at ho
    have HA := Lib.hid hacc
    have HO := Lib.hid ho
    have haR : acc.length ≤ R := by rw [hacc]; exact wants_le _ _ _
    obtain ⟨A6, c6, rfl, _, _⟩ := ho.form
    have HRR := Lib.hid (Hh.out.mods HMr.out (fun _ _ e => e.elim))
    have r8 := HRR.out.rel.at_ 8 rfl
    have r2 := HRR.out.rel.at_ 2 rfl
    have rl := HRR.out.rel.lt
    have gl := HRR.out.gd_lt
    clear hki hin hacc ho
    rcases Nat.lt_or_ge i N.length with h1 | h1
    · by_cases hlt : acc.length < R
      · obtain ⟨s, hs⟩ := lt_get (show i < P.length by rw [HPl.out]; exact h1)
        have hsN : s ∈ N := HPp.out.mem_iff.1 (List.mem_of_getElem? hs)
        obtain ⟨k, hk⟩ := List.getElem?_of_mem hsN
        have hkN := (List.getElem?_eq_some_iff.1 hk).1
        obtain ⟨st, hst⟩ := lt_get (show k < S.length by rw [HhI.out.len]; exact hkN)
        obtain ⟨v, hv⟩ := lt_get (show k < lv.length by rw [Hh.out.len]; exact hkN)
        obtain ⟨_, y1, _⟩ := HRR.out.at_ hk hst hv
        obtain ⟨b1, o1, rfl, _, x0⟩ := (Tum.Own.mods HO2.out Hin.out.hm fun _ _ e => e).rd.tx HPl.out hs
        have hfd := fun w' (hm : Mods No wr w') => rfind_K (HRR.out.mods hm fun _ _ e => e.elim) HhI.out.len Hh0.out.small s
        rw [idxV_pos Hh0.out.strict hk] at hfd
        unfold ks at x0
        have Hs := Lib.hid hs
        clear hs hk hst hv hsN
        by_cases hd : s ∈ dn
        · rw [decide_eq_true hd] at y1
          have Hd := Lib.hid hd
          clear hd
          have Hhfd := Lib.hid hfd
          clear hfd
          unfold ks at Hhfd
          go_wp2_with (first | ((with_reducible refine wp_region_one 6 (fun g => g = x) [3] 9 ?_ ?_ ?_ ?_ ?_); kernel_rfl; kernel_rfl; kernel_rfl; (with_reducible repeat (first | exact calm_ret | refine calm_then ?_ | refine calm_in ?_ | refine calm_chk ?_ | refine calm_noGoto ?_)); simp only [List.drop_succ_cons, List.drop_zero, List.take_succ_cons, List.take_zero]) | (with_reducible refine segEnd ?_) | (refine And.intro (Keep.one (Mods.refl No _) HRR.out.rel.drew (fun e => e)) ?_) | ((with_reducible refine chkM_end (fun g => g = x) ?_ [.pointer (some ⟨x, 8, none⟩)] ?_ ?_ ?_); kernel_rfl; kernel_rfl; (intro v hv x hx; simp only [List.mem_cons, List.not_mem_nil, or_false] at hv; subst hv; (injection hx with hx; injection hx with hx; subst hx; simp))) | (go_at_call 35; (refine ret_use (Hhfd.out _ (by repeat (with_reducible first | exact Mods.refl _ _ | apply Mods.drew))) ?_; rintro u w5 ⟨rfl, rfl⟩)) | ((with_reducible refine wp_region_por ?_ ?_ ?_ ?_); kernel_rfl; kernel_rfl; (with_reducible repeat (first | exact calm_ret | refine calm_then ?_ | refine calm_in ?_ | refine calm_chk ?_ | refine calm_noGoto ?_))) | ((with_reducible refine chk_end ?_ ?_); kernel_rfl))
          go_roundg (gk - 1)
          case rel => exact ⟨i + 1, by go_num, h1, by have := Hki.out; omega, Hin.out.stay Hs.out Hd.out (by repeat (first | exact Mods.refl _ _ | apply Mods.drew | apply Mods.drewN))⟩
          case measure => have := Hki.out; omega
        · rw [decide_eq_false hd] at y1
          have Hd := Lib.hid hd
          have Hlt := Lib.hid hlt
          have HX1 := Lib.hid (ks_one s)
          clear hd
          have Hhfd := Lib.hid hfd
          clear hfd
          unfold ks at Hhfd
          go_wp2_with (first | ((with_reducible refine wp_region_one 6 (fun g => g = x) [3] 9 ?_ ?_ ?_ ?_ ?_); kernel_rfl; kernel_rfl; kernel_rfl; (with_reducible repeat (first | exact calm_ret | refine calm_then ?_ | refine calm_in ?_ | refine calm_chk ?_ | refine calm_noGoto ?_)); simp only [List.drop_succ_cons, List.drop_zero, List.take_succ_cons, List.take_zero]) | (with_reducible refine segEnd ?_) | (refine And.intro (Keep.one (Mods.refl No _) HRR.out.rel.drew (fun e => e)) ?_) | ((with_reducible refine chkM_end (fun g => g = x) ?_ [.pointer (some ⟨x, 8, none⟩)] ?_ ?_ ?_); kernel_rfl; kernel_rfl; (intro v hv x hx; simp only [List.mem_cons, List.not_mem_nil, or_false] at hv; subst hv; (injection hx with hx; injection hx with hx; subst hx; simp))) | (go_at_call 35; (refine ret_use (Hhfd.out _ (by repeat (with_reducible first | exact Mods.refl _ _ | apply Mods.drew))) ?_; rintro u w5 ⟨rfl, rfl⟩)) | (at_builtin; ((refine wpList_append _ rfl (.tmp 48) (.tmp 53) 22 rfl 9 (.string ⟨#[]⟩) 1 16 Tryd.underlying22 infoTx rfl (by decide) (F := fun g => w2.heap.size ≤ g) (n := acc.length) (xs := acc.map ks) (by rfl) (HO.out.mods ((Mods.refl No wr).drew.alloc (.cells #[ks s] 9)) fun _ _ e => e) (G := fun g => g = wr.heap.size) (y := .slice (some ⟨wr.heap.size, 0, none⟩) 1 1) (m := 1) (news := [ks s]) (by rfl) (Rd.box wr.drew #[ks s] _ rfl rfl (by decide)) HX1.out (by omega) (by decide) ?_); intro v8 w8 hown8 hm8 _; have HE8 := Lib.hid (Hin.out.more HA.out Hs.out Hd.out Hlt.out ((Mods.refl No wr).drew.alloc (.cells #[ks s] 9)) hown8 hm8); obtain ⟨A8, c8, rfl, _, _⟩ := hown8.form; clear hown8 hm8)) | ((with_reducible refine wp_region_por ?_ ?_ ?_ ?_); kernel_rfl; kernel_rfl; (with_reducible repeat (first | exact calm_ret | refine calm_then ?_ | refine calm_in ?_ | refine calm_chk ?_ | refine calm_noGoto ?_))) | ((with_reducible refine chk_end ?_ ?_); kernel_rfl))
          go_roundg (gk - 1)
          case rel => exact ⟨i + 1, by go_num, h1, by have := Hki.out; omega, HE8.out⟩
          case measure => have := Hki.out; omega
      · have He := Lib.hid (show wants dn R P = acc by rw [HA.out]; exact wants_full (by rw [← HA.out]; omega))
        go_wp2_with (first | ((with_reducible refine wp_region_por ?_ ?_ ?_ ?_); kernel_rfl; kernel_rfl; (with_reducible repeat (first | exact calm_ret | refine calm_then ?_ | refine calm_in ?_ | refine calm_chk ?_ | refine calm_noGoto ?_))) | ((with_reducible refine chk_end ?_ ?_); kernel_rfl))
        go_ret
        rw [He.out]
        have hs2 := HM2.out.size
        exact ⟨HO.out.more fun g hg => Nat.le_trans hs2 hg, HMr.out⟩
    · obtain rfl : i = N.length := by omega
      have He := Lib.hid (show wants dn R P = acc by rw [HA.out, ← HPl.out, List.take_length])
      go_wp2_with (first | ((with_reducible refine wp_region_por ?_ ?_ ?_ ?_); kernel_rfl; kernel_rfl; (with_reducible repeat (first | exact calm_ret | refine calm_then ?_ | refine calm_in ?_ | refine calm_chk ?_ | refine calm_noGoto ?_))) | ((with_reducible refine chk_end ?_ ?_); kernel_rfl))
      go_ret
      rw [He.out]
      have hs2 := HM2.out.size
      exact ⟨HO.out.more fun g hg => Nat.le_trans hs2 hg, HMr.out⟩
end Go.Proofs.YtcifajfmdpjfiaaDoor

/- The reference's relay: one destination turned. -/
namespace Go.Proofs.YtcifajfmdpjfiaaDoor
open Go.RowKit Go.Tum Go.Lib Go.Sort
set_option maxRecDepth 100000
theorem _root_.Go.Tum.OwnAt.far {w : World} {F : Nat → Prop} {e : TypeId} {size n : Nat} {v : Value} {xs : List Value} (h : OwnAt w F e size v n xs) {p : Addr} (hp : ∀ g, F g → g ≠ p.block) (u : Value) : OwnAt (w.setCell p u) F e size v n xs :=
  h.mods ((Mods.refl (fun g => g = p.block) w).setCell p u fun _ => rfl) fun g _ hF e => hp g hF e
section
variable {w w' : World} {x C R H : Nat} {nw : Bool} {N : List Tx} {S : List Stn} {dn : List Tx} {col : Nat → Nat} {gd cd : Nat} {v0 sn sp : Value} {xs lv : List Value}
/-- Place k turned: its records lie in blocks of its label or new ones. -/
theorem RrP.step {k : Nat} {st st' : Stn} {v v' : Value} {xs' : List Value} (h : RrP w x C R H nw N S dn col gd cd v0 sn sp xs lv) (hk : S[k]? = some st) (hv : lv[k]? = some v) (hm : Mods (fun b => col b = 4 + k ∨ b = gd) w w')
    (ho : OwnAt w' (fun b => (b < w.heap.size ∧ col b = 4 + k) ∨ w.heap.size ≤ b) 45 4 v' st'.L.length (rcs st'.L)) (hown : Own w' (fun b => b = gd) 87 6 (.slice (some ⟨gd, 0, none⟩) N.length cd) N.length xs')
    (hoth : ∀ i r, i ≠ k → r < 6 → xs'[i * 6 + r]? = xs[i * 6 + r]?) (h0 : xs'[k * 6]? = xs[k * 6]?) (h1 : xs'[k * 6 + 1]? = xs[k * 6 + 1]?) (h2 : xs'[k * 6 + 2]? = xs[k * 6 + 2]?) (h3 : xs'[k * 6 + 3]? = some (.int .i64 (st'.sent : Int))) (h4 : xs'[k * 6 + 4]? = some (.int .i64 (st'.dropped : Int))) (h5 : xs'[k * 6 + 5]? = some v') :
    RrP w' x C R H nw N (S.set k st') dn (recol2 w.heap.size 0 col (4 + k)) gd cd v0 sn sp xs' (lv.set k v') := by
  have hg3 : col gd = 3 := h.own.2 gd rfl
  have hlt := h.rel.lt
  have hkS := (List.getElem?_eq_some_iff.1 hk).1
  have hkl := (List.getElem?_eq_some_iff.1 hv).1
  refine ⟨h.rel.mods hm (by rintro (e | e); have := h.crx; omega; rw [← e, h.crx] at hg3; omega), by rw [recol2_old hlt]; exact h.crx, own_recol h.pl hm (by rintro b _ (e | e); omega; rw [e]; omega), ⟨hown.1, fun b hb => ?_⟩, fun i s t u e1 e2 e3 => ?_, fun i t u e2 e3 => ?_, by rw [List.length_set]; exact h.len⟩
  · have := hown.2 b hb
    subst this
    show recol2 _ _ _ _ _ = 3
    rw [recol2_old h.gd_lt]; exact hg3
  · by_cases hik : i = k
    · subst hik
      rw [List.getElem?_set_self hkS] at e2
      rw [List.getElem?_set_self hkl] at e3
      injection e2 with e2
      injection e3 with e3
      subst e2 e3
      obtain ⟨a0, a1, a2, _⟩ := h.row i s st v e1 hk hv
      exact ⟨h0.trans a0, h1.trans a1, h2.trans a2, h3, h4, h5⟩
    · rw [List.getElem?_set_ne (fun e => hik e.symm)] at e2 e3
      obtain ⟨a0, a1, a2, a3, a4, a5⟩ := h.row i s t u e1 e2 e3
      exact ⟨(hoth i 0 hik (by decide)).trans a0, (hoth i 1 hik (by decide)).trans a1, (hoth i 2 hik (by decide)).trans a2, (hoth i 3 hik (by decide)).trans a3, (hoth i 4 hik (by decide)).trans a4, (hoth i 5 hik (by decide)).trans a5⟩
  · by_cases hik : i = k
    · subst hik
      rw [List.getElem?_set_self hkS] at e2
      rw [List.getElem?_set_self hkl] at e3
      injection e2 with e2
      injection e3 with e3
      subst e2 e3
      refine ho.more fun b _ hb => ?_
      rcases hb with ⟨hb1, hb2⟩ | hb
      · rw [recol2_old hb1]; exact hb2
      · exact recol2_new hb (Nat.zero_le _)
    · rw [List.getElem?_set_ne (fun e => hik e.symm)] at e2 e3
      exact ownAt_recol (h.each i t u e2 e3) hm (by rintro b _ (e | e); omega; rw [e]; omega)
end
theorem set_oth {xs : List Value} {k i r q : Nat} (u : Value) (h : i ≠ k) (hr : r < 6) (hq : q < 6) : (xs.set (k * 6 + q) u)[i * 6 + r]? = xs[i * 6 + r]? := List.getElem?_set_ne (by omega)
theorem set_ne {xs : List Value} {k r q : Nat} (u : Value) (h : q ≠ r) : (xs.set (k * 6 + q) u)[k * 6 + r]? = xs[k * 6 + r]? := List.getElem?_set_ne (by omega)
theorem set_ne0 {xs : List Value} {k q : Nat} (u : Value) (h : q ≠ 0) : (xs.set (k * 6 + q) u)[k * 6]? = xs[k * 6]? := List.getElem?_set_ne (by omega)
theorem set_eq {xs : List Value} {k q : Nat} (u : Value) (h : k * 6 + q < xs.length) : (xs.set (k * 6 + q) u)[k * 6 + q]? = some u := List.getElem?_set_self h
/-- Between two rounds of Put's loop. -/
structure RpuI (W wr : World) (x C R H : Nat) (nw : Bool) (N : List Tx) (S : List Stn) (dn : List Tx) (c0 : Nat → Nat) (gd cd : Nat) (v0 sn sp : Value) (r : Rcd) (Q : List Tx) (i : Nat) : Prop where
  rp : ∃ col xs lv, RrP wr x C R H nw N (dealAll H nw N r (Q.take i) S) dn col gd cd v0 sn sp xs lv ∧ ∀ b, b < W.heap.size → col b = c0 b
  hm : Mods (fun b => c0 b ≠ 0) W wr
theorem RpuI.next {W wr w' : World} {x C R H i k : Nat} {nw : Bool} {N : List Tx} {S : List Stn} {dn : List Tx} {c0 col : Nat → Nat} {gd cd : Nat} {v0 sn sp : Value} {r : Rcd} {Q : List Tx} {s : Tx} {st : Stn} {v v' : Value} {xs xs' lv : List Value}
    (hm : Mods (fun b => c0 b ≠ 0) W wr) (hN : Strict ltT N) (h : RrP wr x C R H nw N (dealAll H nw N r (Q.take i) S) dn col gd cd v0 sn sp xs lv) (hc : ∀ b, b < W.heap.size → col b = c0 b) (hs : Q[i]? = some s) (hks : N[k]? = some s)
    (hk : (dealAll H nw N r (Q.take i) S)[k]? = some st) (hv : lv[k]? = some v) (hm2 : Mods (fun b => col b = 4 + k ∨ b = gd) wr w')
    (ho : OwnAt w' (fun b => (b < wr.heap.size ∧ col b = 4 + k) ∨ wr.heap.size ≤ b) 45 4 v' (deal H nw r st).L.length (rcs (deal H nw r st).L)) (hown : Own w' (fun b => b = gd) 87 6 (.slice (some ⟨gd, 0, none⟩) N.length cd) N.length xs')
    (hoth : ∀ i r, i ≠ k → r < 6 → xs'[i * 6 + r]? = xs[i * 6 + r]?) (h0 : xs'[k * 6]? = xs[k * 6]?) (h1 : xs'[k * 6 + 1]? = xs[k * 6 + 1]?) (h2 : xs'[k * 6 + 2]? = xs[k * 6 + 2]?) (h3 : xs'[k * 6 + 3]? = some (.int .i64 ((deal H nw r st).sent : Int))) (h4 : xs'[k * 6 + 4]? = some (.int .i64 ((deal H nw r st).dropped : Int))) (h5 : xs'[k * 6 + 5]? = some v') :
    RpuI W w' x C R H nw N S dn c0 gd cd v0 sn sp r Q (i + 1) := by
  have h9 := h.step hk hv hm2 ho hown hoth h0 h1 h2 h3 h4 h5
  have e2 : (dealAll H nw N r (Q.take i) S).set k (deal H nw r st) = dealAll H nw N r (Q.take (i + 1)) S := by
    rw [take_nx hs, dealAll_snoc, pos_at hN hks]
    exact modify_set hk
  rw [e2] at h9
  have hg3 : col gd = 3 := h.own.2 gd rfl
  refine ⟨⟨_, _, _, h9, fun b hb => ?_⟩, hm.trans hm2 fun b hb e => ?_⟩
  · rw [recol2_old (Nat.lt_of_lt_of_le hb hm.size)]; exact hc b hb
  · rw [← hc b hb]
    rcases e with e | e
    · omega
    · rw [e]; omega
/-- The reference's relay at x, its blocks in F. -/
def RrK (w : World) (x C R H : Nat) (nw : Bool) (N : List Tx) (S : List Stn) (dn : List Tx) (F : Nat → Prop) : Prop :=
  RlI N S dn R H ∧ RrI0 C N ∧ ∃ col gd cd v0 sn sp xs lv, RrP w x C R H nw N S dn col gd cd v0 sn sp xs lv ∧ ∀ b, b < w.heap.size → col b ≠ 0 → F b
theorem RrK.mods {w w' : World} {x C R H : Nat} {nw : Bool} {N : List Tx} {S : List Stn} {dn : List Tx} {F T : Nat → Prop} (h : RrK w x C R H nw N S dn F) (hm : Mods T w w') (hT : ∀ b, b < w.heap.size → F b → ¬ T b) : RrK w' x C R H nw N S dn F := by
  obtain ⟨hi, h0, col, gd, cd, v0, sn, sp, xs, lv, hp, hF⟩ := h
  refine ⟨hi, h0, _, gd, cd, v0, sn, sp, xs, lv, hp.mods hm (fun b hb e => ?_), fun b hb e => ?_⟩
  · rcases Nat.eq_zero_or_pos (col b) with h0 | h0
    · exact h0
    · exact absurd e (hT b hb (hF b hb (by omega)))
  · rcases recol2_ne e with ⟨h1, h2⟩ | ⟨h1, h2⟩
    · exact hF b h1 h2
    · omega
theorem RrK.no {w w' : World} {x C R H : Nat} {nw : Bool} {N : List Tx} {S : List Stn} {dn : List Tx} {F : Nat → Prop} (h : RrK w x C R H nw N S dn F) (hm : Mods No w w') : RrK w' x C R H nw N S dn F := h.mods hm fun _ _ _ e => e
theorem RrK.more {w : World} {x C R H : Nat} {nw : Bool} {N : List Tx} {S : List Stn} {dn : List Tx} {F G : Nat → Prop} (h : RrK w x C R H nw N S dn F) (hs : ∀ b, b < w.heap.size → F b → G b) : RrK w x C R H nw N S dn G := by
  obtain ⟨hi, h0, col, gd, cd, v0, sn, sp, xs, lv, hp, hF⟩ := h
  exact ⟨hi, h0, col, gd, cd, v0, sn, sp, xs, lv, hp, fun b hb e => hs b hb (hF b hb e)⟩
end Go.Proofs.YtcifajfmdpjfiaaDoor
