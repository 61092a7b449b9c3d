/- Ring.Pick. -/
import Derived.Test.YtcifajfmdpjfiaaDoorRgM
import Derived.Test.YtcifajfmdpjfiaaDoorMPl
import Derived.WalkMore
namespace Go.Proofs.YtcifajfmdpjfiaaDoor
open Go.RowKit Go.Tum Go.Lib Go.Sort
set_option maxRecDepth 100000
/-- Between two rounds of Pick's loop. -/
structure PkI (w wr : World) (T : List Tx) (i : Nat) (n : Int) (v : Value) : Prop where
  own : Own wr (fun g => w.heap.size ≤ g) 9 1 v (dd [] (T.take i)).length ((dd [] (T.take i)).map ks)
  lt : ((dd [] (T.take i)).length : Int) < n
  hm : Mods No w wr
theorem PkI.stay {w wr wx : World} {T : List Tx} {i : Nat} {n : Int} {v : Value} (h : PkI w wr T i n v) {x : Tx} (hx : T[i]? = some x) (ha : x ∈ dd [] (T.take i)) (hm : Mods No wr wx) : PkI w wx T (i + 1) n v := by
  have e := dd_step hx
  rw [if_pos ha] at e
  exact ⟨by rw [e]; exact h.own.mods hm fun _ _ e => e, by rw [e]; exact h.lt, h.hm.trans hm fun _ _ e => e⟩
theorem PkI.more {w wr wx w3 : World} {T : List Tx} {i : Nat} {n : Int} {v u : Value} (h : PkI w wr T i n v) {x : Tx} (hx : T[i]? = some x) {acc : List Tx} (hacc : acc = dd [] (T.take i)) (ha : x ∉ acc) (hm : Mods No wr wx)
    (h3 : Own w3 (fun k => v.ownBlock = some k ∨ k = wx.heap.size) 9 1 u (acc.length + 1) (acc.map ks ++ [ks x])) (hm3 : Mods (fun k => v.ownBlock = some k) wx w3) :
    Own w3 (fun g => w.heap.size ≤ g) 9 1 u (dd [] (T.take (i + 1))).length ((dd [] (T.take (i + 1))).map ks) ∧ (dd [] (T.take (i + 1))).length = acc.length + 1 ∧ Mods No w w3 := by
  subst hacc
  have e := dd_step hx
  rw [if_neg ha] at e
  have hsz := Nat.le_trans h.hm.size hm.size
  rw [e, List.map_append, List.length_append]
  refine ⟨h3.more fun g hg => ?_, rfl, (h.hm.trans hm fun _ _ e => e).trans hm3 fun k hk e => ?_⟩
  · rcases hg with e | e
    · exact h.own.2 g e
    · exact e ▸ hsz
  · exact absurd hk (Nat.not_lt.2 (h.own.2 k e))
theorem turned_idx {L : List Plc} {f i : Nat} (hf : f ≤ L.length) (hi : i < L.length) {T : List Tx} (hT : T = (turned L f).map (·.2)) : ∃ (m : Nat) (p : Plc), m < L.length ∧ L[m]? = some p ∧ T[i]? = some p.2 ∧ ((f : Int) + (i : Int)).tmod (L.length : Int) = (m : Int) := by
  have h1 : (f + i) % L.length < L.length := Nat.mod_lt _ (by omega)
  obtain ⟨p, hp⟩ := lt_get h1
  refine ⟨(f + i) % L.length, p, h1, hp, ?_, ?_⟩
  · rw [hT, List.getElem?_map, turned_get L hf hi, hp]; rfl
  · rw [← Int.natCast_add]; rfl
theorem take_mem {α : Type} {l : List α} {x : α} : (∀ y ∈ l.take l.length, y ≠ x) → x ∉ l := fun h e => by
  rw [List.take_length] at h
  exact h x e rfl
structure PkJ (wr wx : World) (p : Plc) : Prop where
  box : Cells wx wr.heap.size 103 #[.int .u64 (p.1 : Int), ks p.2]
  hm : Mods No wr wx
theorem ks_one (x : Tx) : ∀ u ∈ [ks x], u.oneCell' = true := fun u hu => by rw [List.mem_singleton.1 hu]; rfl
set_option maxHeartbeats 6400000 in
theorem pick_K (w : World) (q c : Nat) (N : List Tx) (s : Tx) (n : Int) (F : Nat → Prop) (h : RingK w q c N F) (hsl : s.length ≤ maxLen) :
    Calls Tryd.prog 31 #[(.pointer (some ⟨q, 0, none⟩)), ks s, .int .i64 n] w (Ret fun v w' => Own w' (fun g => w.heap.size ≤ g) 9 1 v (pickV (placesOf c N) (fnv64 s) n).length ((pickV (placesOf c N) (fnv64 s) n).map ks) ∧ Mods No w w') := by
  obtain ⟨hI, nv, pv, h⟩ := h
  have hmade := made_some w q (c : Int) (h.cells.at_ 0 rfl) true (decide_eq_true (by have := hI.c1; omega))
  have hps8 := hI.psmall
  have hris := placesOf_rising c N
  obtain ⟨L, hL⟩ : ∃ L, L = placesOf c N := ⟨_, rfl⟩
  rw [← hL] at h hps8 hris ⊢
  clear hL
  by_cases hn : n < 1
  · have He := Lib.hid (pick_none (L := L) (h := fnv64 s) hn)
    have hn' : decide (n < 1) = true := decide_eq_true hn
    have Hh := Lib.hid h
    clear h
    have Hhmade := Lib.hid hmade
    clear hmade
    have HhI := Lib.hid hI
    clear hI
    have Hhris := Lib.hid hris
    clear hris
    unfold ks
    go_enter Tryd.func31, Tryd.ntmps31
    go_wp2
    go_step3
    go_wp2_with (first | (go_at_call 41; (refine ret_use (Hhmade.out) ?_; rintro v w2 ⟨rfl, rfl⟩)) | ((with_reducible refine wp_region_por ?_ ?_ ?_ ?_); kernel_rfl; kernel_rfl; (with_reducible repeat (first | exact calm_ret | refine calm_then ?_ | refine calm_in ?_ | refine calm_chk ?_ | refine calm_noGoto ?_))) | ((with_reducible refine chk_end ?_ ?_); kernel_rfl))
    try rw [Exit.noGoto_ret]
    go_ret
    rw [He.out]
    exact ⟨Own.nil _ _ _ _, Mods.refl _ _⟩
  · have hn' : decide (n < 1) = false := decide_eq_false hn
    have Hn := Lib.hid hn
    obtain ⟨g, hg⟩ : ∃ g, g = fnv64 s := ⟨_, rfl⟩
    have hha := fun w => hash64_K w s hsl
    rw [← hg] at hha ⊢
    obtain ⟨f, hf⟩ : ∃ f, f = posP L g := ⟨_, rfl⟩
    have hbs := fun w1 (hm : Mods No w w1) => bsearchF_K w1 (fun k => k < w.heap.size) pv L g (Rd.of_own (h.pown.mods hm fun _ _ e => e).1 fun k hk => h.pown.lt k hk) (fun k hk => Nat.lt_of_lt_of_le hk hm.size) (by omega) hris
    rw [← hf] at hbs
    have hfl : f ≤ L.length := hf ▸ posOf_le L g
    obtain ⟨T, hT⟩ : ∃ T, T = (turned L f).map (·.2) := ⟨_, rfl⟩
    have hTl : T.length = L.length := by rw [hT, List.length_map, turned_len]
    have HF := Lib.hid (show f = pickV.posOf L g from hf)
    have HT := Lib.hid hT
    have c2 := h.cells.at_ 2 rfl
    have ql := h.cells.lt
    obtain ⟨A, cp, rfl, hac, _⟩ := h.pown.form
    have h0n : (0 : Int) < n := by omega
    clear hf hT hg hris
    have Hh := Lib.hid h
    clear h
    have Hhmade := Lib.hid hmade
    clear hmade
    have HhI := Lib.hid hI
    clear hI
    have Hhha := Lib.hid hha
    clear hha
    have Hhbs := Lib.hid hbs
    clear hbs
    unfold ks at Hhha ⊢
    go_enter Tryd.func31, Tryd.ntmps31
    go_wp2
    go_step3
    go_wp2_with (first | (go_at_call 41; (refine ret_use (Hhmade.out) ?_; rintro v w2 ⟨rfl, rfl⟩)) | (go_at_call 46; (refine ret_use (Hhha.out _) ?_; rintro v w3 ⟨rfl, rfl⟩)) | (go_at_call 45; (refine ret_use (Hhbs.out w.drew (Mods.refl No w).drew) ?_; rintro v w4 ⟨⟨b, rfl⟩, hm4⟩; have HM4 := Lib.hid hm4; have HC4 := Lib.hid (Hh.out.cells.drew.mods hm4 fun e => e); have k2 := HC4.out.at_ 2 rfl; clear hm4)) | ((with_reducible refine wp_region_one 4 (fun g => g = q) [3] 5 ?_ ?_ ?_ ?_ ?_); kernel_rfl; kernel_rfl; kernel_rfl; (with_reducible repeat (first | exact calm_ret | refine calm_then ?_ | refine calm_in ?_ | refine calm_chk ?_ | refine calm_noGoto ?_)); simp only [List.drop_succ_cons, List.drop_zero, List.take_succ_cons, List.take_zero]) | (with_reducible refine segEnd ?_) | (refine And.intro (Keep.one (Mods.refl No _) Hh.out.cells (fun e => e)) ?_) | ((with_reducible refine chkM_end (fun g => g = q) ?_ [.pointer (some ⟨q, 2, none⟩)] ?_ ?_ ?_); kernel_rfl; kernel_rfl; (intro v hv x hx; simp only [List.mem_cons, List.not_mem_nil, or_false] at hv; subst hv; (injection hx with hx; injection hx with hx; subst hx; simp))) | ((with_reducible refine wp_region_por ?_ ?_ ?_ ?_); kernel_rfl; kernel_rfl; (with_reducible repeat (first | exact calm_ret | refine calm_then ?_ | refine calm_in ?_ | refine calm_chk ?_ | refine calm_noGoto ?_))) | ((with_reducible refine chk_end ?_ ?_); kernel_rfl))
    go_step3
    go_wp2_with (first | ((with_reducible refine wp_region_por ?_ ?_ ?_ ?_); kernel_rfl; kernel_rfl; (with_reducible repeat (first | exact calm_ret | refine calm_then ?_ | refine calm_in ?_ | refine calm_chk ?_ | refine calm_noGoto ?_))) | ((with_reducible refine chk_end ?_ ?_); kernel_rfl))
    go_loopg [7, 36] L.length (fun k v7 v36 wr => ∃ (i : Nat), v36 = .int .i64 i ∧ i ≤ L.length ∧ k + i = L.length ∧ PkI w wr T i n v7)
    case atStart => exact ⟨0, rfl, Nat.zero_le _, rfl, Own.nil _ _ _ _, h0n, (Mods.refl No w).drew.trans HM4.out fun _ _ e => e⟩
    case round =>
      obtain ⟨W, rfl⟩ : ∃ W, W = wr := ⟨_, rfl⟩
      obtain ⟨i, rfl, hi, hki, hin⟩ := hrel
      have Hin := Lib.hid hin
      have Hki := Lib.hid hki
      have j2 := (Hh.out.cells.mods hin.hm fun e => e).at_ 2 rfl
      have jl := (Hh.out.cells.mods hin.hm fun e => e).lt
      obtain ⟨acc, hacc⟩ : ∃ acc, acc = dd [] (T.take i) := ⟨_, rfl⟩
      have ho := hin.own
      have hlt := hin.lt
      rw [← hacc] at ho hlt
      have hac8 : acc.length ≤ 8192 := by rw [hacc]; have := dd_len (T.take i) []; simp only [List.length_take, List.length_nil] at this; omega
      have HA := Lib.hid hacc
      have HO := Lib.hid ho
      obtain ⟨A7, c7, rfl, _, _⟩ := ho.form
      clear hin hki hacc ho
      rcases Nat.lt_or_ge i L.length with h1 | h1
      · obtain ⟨m, p, hm, hLm, hTi, htm⟩ := turned_idx hfl h1 HT.out
        obtain ⟨b1, o1, rfl, _, x0, x1⟩ := (Hh.out.pown.mods Hin.out.hm fun _ _ e => e).rd.plc rfl hLm
        obtain ⟨cur, hcur⟩ := (Hh.out.pown.mods Hin.out.hm fun _ _ e => e).typed b1 rfl
        have Hcur := Lib.hid hcur
        have Hno1 := Lib.hid (fun e : b1 = W.heap.size => Nat.ne_of_lt hcur.lt e)
        have HTi := Lib.hid hTi
        unfold ks at x1
        clear hcur hTi hLm
        go_wp2_with (first | ((with_reducible refine wp_region_one 8 (fun g => g = q ∨ g = b1) [3, 10, 14] 15 ?_ ?_ ?_ ?_ ?_); kernel_rfl; kernel_rfl; kernel_rfl; (with_reducible repeat (first | exact calm_ret | refine calm_then ?_ | refine calm_in ?_ | refine calm_chk ?_ | refine calm_noGoto ?_)); simp only [List.drop_succ_cons, List.drop_zero, List.take_succ_cons, List.take_zero]) | (with_reducible refine segEnd ?_) | (refine And.intro (Keep.two ((Mods.refl No _).alloc _) (Hh.out.cells.mods Hin.out.hm fun e => e).drew (fun e => e) Hcur.out.drew (fun e => e)) ?_) | ((with_reducible refine chkM_end (fun g => g = q ∨ g = b1) ?_ [.pointer (some ⟨q, 2, none⟩), .pointer (some ⟨q, 2, none⟩), .pointer (some ⟨b1, o1 + m * 2, none⟩)] ?_ ?_ ?_); kernel_rfl; kernel_rfl; (intro v hv x hx; simp only [List.mem_cons, List.not_mem_nil, or_false] at hv; rcases hv with rfl | rfl | rfl <;> (injection hx with hx; injection hx with hx; subst hx; simp))) | ((with_reducible refine wp_region_por ?_ ?_ ?_ ?_); kernel_rfl; kernel_rfl; (with_reducible repeat (first | exact calm_ret | refine calm_then ?_ | refine calm_in ?_ | refine calm_chk ?_ | refine calm_noGoto ?_))) | ((with_reducible refine chk_end ?_ ?_); kernel_rfl))
        go_loopg [56] acc.length (fun k v56 wx => ∃ (j : Nat), v56 = .int .i64 j ∧ j ≤ acc.length ∧ k + j = acc.length ∧ (∀ y ∈ acc.take j, y ≠ p.2) ∧ PkJ W wx p)
        case atStart => exact ⟨0, rfl, Nat.zero_le _, rfl, fun y hy => by simp at hy, (Cells.new W _ _).drew, ((Mods.refl No W).alloc _).drew⟩
        case round =>
          obtain ⟨j, rfl, hj, hkj, hnot, hpj⟩ := hrel
          have Hkj := Lib.hid hkj
          have Hnot := Lib.hid hnot
          have HJ := Lib.hid hpj
          have b0 := hpj.box.at_ 1 rfl
          have bl := hpj.box.lt
          unfold ks at b0
          clear hkj hnot hpj
          rcases Nat.lt_or_ge j acc.length with h2 | h2
          · obtain ⟨y, hy⟩ := lt_get h2
            obtain ⟨b2, o2, rfl, _, y0⟩ := (HO.out.mods HJ.out.hm fun _ _ e => e).rd.tx rfl hy
            unfold ks at y0
            by_cases hyp : y = p.2
            · have hs : (y == p.2) = true := by simp [hyp]
              have Hst := Lib.hid (Hin.out.stay HTi.out (by rw [← HA.out, ← hyp]; exact List.mem_of_getElem? hy) HJ.out.hm)
              clear hyp hy
              go_wp2_with (first | ((with_reducible refine wp_region_por ?_ ?_ ?_ ?_); kernel_rfl; kernel_rfl; (with_reducible repeat (first | exact calm_ret | refine calm_then ?_ | refine calm_in ?_ | refine calm_chk ?_ | refine calm_noGoto ?_))) | ((with_reducible refine chk_end ?_ ?_); kernel_rfl))
              go_roundg (L.length - (i + 1))
              case rel => exact ⟨i + 1, by go_num, h1, by omega, Hst.out⟩
              case measure => have := Hki.out; omega
            · have hs : (y == p.2) = false := by simp [hyp]
              have Hyp := Lib.hid (And.intro hy hyp)
              clear hyp hy
              go_wp2_with (first | ((with_reducible refine wp_region_por ?_ ?_ ?_ ?_); kernel_rfl; kernel_rfl; (with_reducible repeat (first | exact calm_ret | refine calm_then ?_ | refine calm_in ?_ | refine calm_chk ?_ | refine calm_noGoto ?_))) | ((with_reducible refine chk_end ?_ ?_); kernel_rfl))
              go_roundg (gk - 1)
              case rel => exact ⟨j + 1, by go_num, h2, by have := Hkj.out; omega, fun z hz => by
                rw [take_nx Hyp.out.1] at hz
                rcases List.mem_append.1 hz with hz | hz
                · exact Hnot.out z hz
                · rw [List.mem_singleton.1 hz]; exact Hyp.out.2, HJ.out⟩
              case measure => have := Hkj.out; omega
          · obtain rfl : j = acc.length := by omega
            have Hna := Lib.hid (take_mem Hnot.out)
            have hbx : wr.heap.size ≠ W.heap.size := Nat.ne_of_gt HJ.out.box.lt
            by_cases hb : (acc.length : Int) + 1 = n
            · have hb' : decide ((acc.length : Int) + 1 = n) = true := decide_eq_true hb
              have hb2 : (((acc.length : Int) + 1) == n) = true := by simp [hb]
              have Hb := Lib.hid hb
              clear hb
              go_wp2_with (first | (at_builtin; ((refine wpList_append _ rfl (.tmp 65) (.tmp 68) 22 rfl 9 (.string ⟨#[]⟩) 1 16 Tryd.underlying22 infoTx rfl (by decide) (F := fun g => w.heap.size ≤ g) (n := acc.length) (xs := acc.map ks) (by rfl) ((HO.out.mods HJ.out.hm fun _ _ e => e).mods ((Mods.refl No _).alloc (.cells #[ks p.2] 9)) fun _ _ e => e) (G := fun g => g = wr.heap.size) (y := .slice (some ⟨wr.heap.size, 0, none⟩) 1 1) (m := 1) (news := [ks p.2]) (by rfl) (Rd.box _ #[ks p.2] _ rfl rfl (by decide)) (ks_one p.2) (by omega) (by decide) ?_); intro v8 w8 hown8 hm8 _; have HE8 := Lib.hid (Hin.out.more HTi.out HA.out Hna.out (HJ.out.hm.alloc (.cells #[ks p.2] 9)) hown8 hm8); obtain ⟨A8, c8, rfl, _, _⟩ := hown8.form; clear hown8 hm8)) | ((with_reducible refine wp_region_por ?_ ?_ ?_ ?_); kernel_rfl; kernel_rfl; (with_reducible repeat (first | exact calm_ret | refine calm_then ?_ | refine calm_in ?_ | refine calm_chk ?_ | refine calm_noGoto ?_))) | ((with_reducible refine chk_end ?_ ?_); kernel_rfl))
              try rw [Exit.noGoto_ret]
              go_ret
              rw [pick_cut (i := i + 1) (by have := Hn.out; omega) HF.out HT.out (by rw [HE8.out.2.1]; have := Hb.out; omega)]
              exact ⟨by rw [HE8.out.2.1]; rw [HE8.out.2.1] at HE8; exact HE8.out.1, HE8.out.2.2⟩
            · have hb' : decide ((acc.length : Int) + 1 = n) = false := decide_eq_false hb
              have hb2 : (((acc.length : Int) + 1) == n) = false := by simp [hb]
              have Hb := Lib.hid hb
              clear hb
              go_wp2_with (first | (at_builtin; ((refine wpList_append _ rfl (.tmp 65) (.tmp 68) 22 rfl 9 (.string ⟨#[]⟩) 1 16 Tryd.underlying22 infoTx rfl (by decide) (F := fun g => w.heap.size ≤ g) (n := acc.length) (xs := acc.map ks) (by rfl) ((HO.out.mods HJ.out.hm fun _ _ e => e).mods ((Mods.refl No _).alloc (.cells #[ks p.2] 9)) fun _ _ e => e) (G := fun g => g = wr.heap.size) (y := .slice (some ⟨wr.heap.size, 0, none⟩) 1 1) (m := 1) (news := [ks p.2]) (by rfl) (Rd.box _ #[ks p.2] _ rfl rfl (by decide)) (ks_one p.2) (by omega) (by decide) ?_); intro v8 w8 hown8 hm8 _; have HE8 := Lib.hid (Hin.out.more HTi.out HA.out Hna.out (HJ.out.hm.alloc (.cells #[ks p.2] 9)) hown8 hm8); obtain ⟨A8, c8, rfl, _, _⟩ := hown8.form; clear hown8 hm8)) | ((with_reducible refine wp_region_por ?_ ?_ ?_ ?_); kernel_rfl; kernel_rfl; (with_reducible repeat (first | exact calm_ret | refine calm_then ?_ | refine calm_in ?_ | refine calm_chk ?_ | refine calm_noGoto ?_))) | ((with_reducible refine chk_end ?_ ?_); kernel_rfl))
              go_roundg (L.length - (i + 1))
              case rel => exact ⟨i + 1, by go_num, h1, by omega, HE8.out.1, by rw [HE8.out.2.1]; have := Hb.out; omega, HE8.out.2.2⟩
              case measure => have := Hki.out; omega
      · obtain rfl : i = L.length := by omega
        go_wp2_with (first | ((with_reducible refine wp_region_por ?_ ?_ ?_ ?_); kernel_rfl; kernel_rfl; (with_reducible repeat (first | exact calm_ret | refine calm_then ?_ | refine calm_in ?_ | refine calm_chk ?_ | refine calm_noGoto ?_))) | ((with_reducible refine chk_end ?_ ?_); kernel_rfl))
        try rw [Exit.noGoto_ret]
        go_ret
        have hto : T.take L.length = T := List.take_of_length_le (by omega)
        have hA := HA.out
        rw [hto] at hA
        rw [pick_all (by have := Hn.out; omega) HF.out HT.out (by rw [← hA]; exact hlt), ← hA]
        exact ⟨HO.out, Hin.out.hm⟩
end Go.Proofs.YtcifajfmdpjfiaaDoor
