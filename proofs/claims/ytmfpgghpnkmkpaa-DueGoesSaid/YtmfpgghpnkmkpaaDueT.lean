/- The reference's queue: Set. -/
import Derived.Test.YtmfpgghpnkmkpaaDueS
namespace Go.Proofs.Ytmfpgghpnkmkpaa
open Go.RowKit Go.Tum Go.Shelf
set_option maxRecDepth 100000
def ins (L : List Ent) (x : Ent) : List Ent := L.takeWhile (before · x) ++ x :: L.dropWhile (before · x)
def refSet (lim : Int) (L : List Ent) (key : List UInt8) (t : Int) : List Ent × Int :=
  match fi L key with
  | some i => (ins (L.take i ++ L.drop (i + 1)) (key, t), 0)
  | none => if lim ≤ L.length then (L, 70) else (ins L (key, t), 0)
/-- One append: what is owned behind it is younger than n1. -/
theorem app_ge {n1 n m : Nat} {e : TypeId} {w3 w4 : World} {v u : Value} {xs ys : List Value} (hO : Tum.Own w3 (Ge n1) e 2 v n xs) (hn : n1 ≤ w3.heap.size)
    (O : Tum.Own w4 (fun k => v.ownBlock = some k ∨ k = w3.heap.size) e 2 u m ys) (hM : Mods (fun k => v.ownBlock = some k) w3 w4) : Tum.Own w4 (Ge n1) e 2 u m ys ∧ Mods (Ge n1) w3 w4 ∧ n1 ≤ w4.heap.size :=
  ⟨O.more fun k hk => by rcases hk with hk | hk; exact hO.2 k hk; exact hk ▸ hn, hM.mono fun k _ hk => hO.2 k hk, Nat.le_trans hn hM.size⟩
theorem set_end {w wr w6 : World} {r i n : Nat} {lim : Int} {v u : Value} {L L' : List Ent} {x : Ent} {F F0 : Nat → Prop} {ys : List Value} (hrk : RK wr r lim v L F0) (hm : Mods (fun k => k = r) w wr) (hw : r < w.heap.size) 
    (hO : Tum.Own w6 (Ge wr.heap.size) 29 2 u n ys) (hM : Mods (Ge wr.heap.size) wr w6) (hn : n = (L.take i ++ x :: L.drop i).length) (e : ys = entsL (L.take i ++ x :: L.drop i)) (hL : L' = L.take i ++ x :: L.drop i) (hs : (L'.length : Int) ≤ 65536) :
    Mods (fun k => k = r) w (w6.setCell ⟨r, 1, none⟩ u) ∧ ∃ G, RefK (w6.setCell ⟨r, 1, none⟩ u) r lim L' G ∧ ∀ g, G g → F g ∨ w.heap.size ≤ g := by
  subst hn e
  rw [← hL] at hO
  have h1 := hrk.cells.mods hM (by have := hm.size; have := hrk.cells.lt; omega)
  refine ⟨(hm.trans hM fun k hk e => by have := hm.size; omega).setCell _ _ fun _ => rfl, fun g => wr.heap.size ≤ g ∧ g < w6.heap.size, ⟨_, RK.put h1 (Rd.of_own hO.1 fun g hg => ⟨hO.2 g hg, hO.lt g hg⟩) (fun g hg => ⟨by have := hm.size; omega, hg.2⟩) (by omega)⟩, fun g hg => .inr (by have := hm.size; omega)⟩
theorem gen_q {Q : Exit → Act → World → Prop} {e : Exit} {a : Act} {w : World} (h : ∀ w', w' = w → Q e a w') : Q e a w := h w rfl
theorem RK.no' {w w' : World} {r : Nat} {lim : Int} {v : Value} {L : List Ent} {F : Nat → Prop} (h : RK w r lim v L F) (hm : Mods No w w') : RK w' r lim v L F := h.mods hm (fun e => e) fun _ _ e => e
theorem ins_eq (L : List Ent) (i : Nat) (x : Ent) : ((entsL L).take (i * 2) ++ [ks x.1, .int .i64 x.2]) ++ ((entsL L).take (L.length * 2)).drop (i * 2) = entsL (L.take i ++ x :: L.drop i) := by
  rw [entsL_take, entsL_take, List.take_length, entsL_drop, entsL_snoc, entsL_append]
  simp
set_option maxHeartbeats 3200000 in
theorem rset_K (w : World) (r : Nat) (lim : Int) (L : List Ent) (F : Nat → Prop) (key : List UInt8) (t : Int) (h : RefK w r lim L F) (hlim : lim ≤ 65536) :
    Calls Try.prog 17 #[(.pointer (some ⟨r, 0, none⟩)), ks key, .int .i64 t] w (Ret fun v w' => v = .int .i64 (refSet lim L key t).2 ∧ Mods (fun k => k = r) w w' ∧ ∃ G, RefK w' r lim (refSet lim L key t).1 G ∧ ∀ g, G g → F g ∨ w.heap.size ≤ g) := by
  have hf := find_K w r lim L F key h
  have h' := h
  obtain ⟨v, h⟩ := h
  obtain ⟨A, c, rfl, hac, hac2⟩ := h.rd.form
  have hsm := h.small
  have Hh := Lib.hid h
  clear h
  have Hhf := Lib.hid hf
  clear hf
  have Hh' := Lib.hid h'
  clear h'
  rcases fi_cases L key with ⟨e1, e2⟩ | ⟨i, x, e1, e2, e3, e4, e5⟩
  · have hp : place L key = -1 := by rw [place_fi, e1]
    rw [hp] at Hhf
    have HE := Lib.hid e1
    clear e1 e2 hp
    by_cases hful : lim ≤ (L.length : Int)
    · have hful' : decide (lim ≤ (L.length : Int)) = true := decide_eq_true hful
      unfold ks at *
      go_enter Try.func17, Try.ntmps17
      go_wp2_with (first | (go_at_call 30; (refine ret_use (Hhf.out) ?_; rintro v w2 ⟨rfl, hm2⟩; have HM2 := Lib.hid hm2; have c2 := (Hh.out.cells.mods hm2 fun e => e).at_ 0 rfl; have c3 := (Hh.out.cells.mods hm2 fun e => e).at_ 1 rfl; clear hm2)) | ((with_reducible refine wp_region_por ?_ ?_ ?_ ?_); kernel_rfl; kernel_rfl; (with_reducible repeat (first | exact calm_ret | refine calm_then ?_ | refine calm_in ?_ | refine calm_chk ?_ | refine calm_noGoto ?_))) | ((with_reducible refine chk_end ?_ ?_); kernel_rfl))
      go_ret
      unfold refSet
      rw [HE.out]
      dsimp only
      rw [if_pos hful]
      exact ⟨rfl, by have := HM2.out.mono (T := fun k => k = r) no_sub; repeat (first | exact this | apply Mods.drew | apply Mods.drewN), F, Hh'.out.no (by have := HM2.out; repeat (first | exact this | apply Mods.drew | apply Mods.drewN)), fun g e => .inl e⟩
    · have hful' : decide (lim ≤ (L.length : Int)) = false := decide_eq_false hful
      unfold ks at *
      go_enter Try.func17, Try.ntmps17
      go_wp2_with (first | (go_at_call 30; (refine ret_use (Hhf.out) ?_; rintro v w2 ⟨rfl, hm2⟩; have HM2 := Lib.hid hm2; have c2 := (Hh.out.cells.mods hm2 fun e => e).at_ 0 rfl; have c3 := (Hh.out.cells.mods hm2 fun e => e).at_ 1 rfl; clear hm2)) | ((with_reducible refine wp_region_por ?_ ?_ ?_ ?_); kernel_rfl; kernel_rfl; (with_reducible repeat (first | exact calm_ret | refine calm_then ?_ | refine calm_in ?_ | refine calm_chk ?_ | refine calm_noGoto ?_))) | ((with_reducible refine chk_end ?_ ?_); kernel_rfl))
      obtain ⟨wB, hwB⟩ : ∃ x, x = (w2.alloc (.cells #[.string ⟨key.toArray⟩, .int .i64 t] 29)).drew := ⟨_, rfl⟩
      rw [← hwB]
      have HMB' := Lib.hid (show Mods No w wB by rw [hwB]; exact (HM2.out.alloc _).drew)
      have HRB := Lib.hid (Hh.out.no' HMB'.out)
      have HMB := Lib.hid (show Mods (fun k => k = r) w wB from HMB'.out.mono no_sub)
      have HBB := Lib.hid (show Cells wB w2.heap.size 29 #[.string ⟨key.toArray⟩, .int .i64 t] by rw [hwB]; exact Cells.new w2 _ _)
      obtain ⟨bx, hbx⟩ : ∃ x, x = w2.heap.size := ⟨_, rfl⟩
      rw [← hbx] at HBB ⊢
      clear hwB hbx c2 c3
      have HSET := Lib.hid (show refSet lim L key t = (ins L (key, t), 0) by unfold refSet; rw [HE.out]; dsimp only; rw [if_neg (by omega)])
      have HLIM := Lib.hid (show L.length + 1 ≤ 65536 by omega)
      go_loopg [9] L.length (fun k v9 wr => ∃ i : Nat, v9 = .int .i64 i ∧ i ≤ L.length ∧ k + i = L.length ∧ (∀ y ∈ L.take i, before y (key, t) = true) ∧ Mods No wB wr)
      case atStart => exact ⟨0, rfl, Nat.zero_le _, rfl, fun y hy => by simp at hy, Mods.refl _ _⟩
      case round =>
        obtain ⟨i, rfl, hi, hki, hall, hm⟩ := hrel
        have HM := Lib.hid hm
        have HRK := Lib.hid (HRB.out.no' hm)
        have HBX := Lib.hid (HBB.out.mods hm fun e => e)
        have c1 := HRK.out.cells.at_ 1 rfl
        have x8 := HBX.out.at_ 0 rfl
        have x9 := HBX.out.at_ 1 rfl
        clear hm
        have Hki := Lib.hid hki
        have Hall := Lib.hid hall
        clear hki hall
        rcases Nat.lt_or_ge i L.length with h1 | h1
        · obtain ⟨x, hx⟩ := lt_get h1
          obtain ⟨b1, o1, rfl, _, x0, x1⟩ := HRK.out.rd.pair hx
          unfold ks at x0
          obtain ⟨bb, hbb⟩ : ∃ bb, before x (key, t) = bb := ⟨_, rfl⟩
          have Hbf := Lib.hid hbb
          cases bb with
          | true =>
            have Hk := Lib.hid (And.intro hx hbb)
            clear hx hbb
            go_wp2_with (first | (go_at_call 12; (refine ret_use (before_K _ x (key, t) true Hbf.out) ?_; rintro v w8 ⟨rfl, hm8⟩; have HM8 := Lib.hid (((Mods.refl No wr).drew).trans hm8 fun _ _ e => e); clear hm8)) | ((with_reducible refine wp_region_por ?_ ?_ ?_ ?_); kernel_rfl; kernel_rfl; (with_reducible repeat (first | exact calm_ret | refine calm_then ?_ | refine calm_in ?_ | refine calm_chk ?_ | refine calm_noGoto ?_))) | ((with_reducible refine chk_end ?_ ?_); kernel_rfl))
            go_roundg (gk - 1)
            case rel =>
              have h5 := Hki.out
              refine ⟨i + 1, by go_num, h1, by omega, fun y hy => ?_, by have := HM.out.trans HM8.out fun _ _ e => e; repeat (first | exact this | apply Mods.drew | apply Mods.drewN)⟩
              rw [take_next Hk.out.1] at hy
              rcases List.mem_append.1 hy with hy | hy
              · exact Hall.out y hy
              · rw [List.mem_singleton.1 hy]; exact Hk.out.2
            case measure => have := Hki.out; omega
          | false =>
            have Htw := Lib.hid (tw_at Hall.out (.inr ⟨x, hx, hbb⟩))
            have hci : ¬ c = i := by omega
            have hR1 := fun w' (hm : Mods No wB w') => (HRB.out.no' hm).rd.cut (k := i) (l := L.length) hi (Nat.le_refl _)
            simp only [if_neg hci, Option.map_some, Addr.add_lit] at hR1
            clear hx hbb
            have HR1 := Lib.hid hR1
            clear hR1
            go_wp2_with (first | (go_at_call 12; (refine ret_use (before_K _ x (key, t) false Hbf.out) ?_; rintro v w8 ⟨rfl, hm8⟩; have HME := Lib.hid (HM.out.trans (((Mods.refl No wr).drew).trans hm8 fun _ _ e => e) fun _ _ e => e); have HRKE := Lib.hid (HRB.out.no' HME.out); have HBXE := Lib.hid (HBB.out.mods HME.out fun e => e); have lbe := HBXE.out.lt; have e1 := HRKE.out.cells.at_ 1 rfl; clear hm8)) | (at_builtin; (fail_if_success have := O1); ((refine wpList_append _ rfl (.tmp 59) (.tmp 65) 22 rfl 29 (.agg #[.string ⟨#[]⟩, .int .i64 0]) 2 24 Try.underlying22 infoDue rfl (by decide) (F := Ge w8.heap.size) (n := 0) (xs := []) (by rfl) (Tum.Own.nil w8 (Ge w8.heap.size) 29 2) (G := F) (y := .slice (some ⟨b1, o1, none⟩) i c) (m := i) (news := (entsL L).take (i * 2)) (by rfl) (HRKE.out.rd.take hi) (fun u hu => entsL_one _ u (List.mem_of_mem_take hu)) (by omega) (by decide) ?_); intro v4 w4 hown4 hm4 _; obtain ⟨hown4, hm4, hn4⟩ := app_ge (Tum.Own.nil w8 (Ge w8.heap.size) 29 2) (Nat.le_refl _) hown4 hm4; (simp only [Nat.zero_add, List.nil_append] at hown4); have O1 := Lib.hid (fun o => Own.alloc' hown4 o); have HM4 := Lib.hid hm4; have HN4 := Lib.hid hn4; obtain ⟨A4, c4, rfl, _, _⟩ := hown4.form; have k0 := (HBXE.out.mods hm4 (Nat.not_le_of_lt lbe)).at_ 0 rfl; have k1 := (HBXE.out.mods hm4 (Nat.not_le_of_lt lbe)).at_ 1 rfl; clear hown4 hm4 hn4)) | (at_builtin; (fail_if_success have := O2); ((refine wpList_append _ rfl (.tmp 67) (.tmp 69) 22 rfl 29 (.agg #[.string ⟨#[]⟩, .int .i64 0]) 2 24 Try.underlying22 infoDue rfl (by decide) (F := Ge w8.heap.size) (n := i) (xs := (entsL L).take (i * 2)) (by rfl) (O1.out _) (G := fun g => g = w4.heap.size) (y := .slice (some ⟨w4.heap.size, 0, none⟩) 1 1) (m := 1) (news := [ks key, .int .i64 t]) (by rfl) (Rd.box _ #[ks key, .int .i64 t] _ rfl rfl (by decide)) (two_one' _ _) (by omega) (by decide) ?_); intro v5 w5 hown5 hm5 _; obtain ⟨hown5, hm5, hn5⟩ := app_ge (O1.out _) (Nat.le_trans HN4.out (by rw [World.size_alloc]; omega)) hown5 hm5; have O2 := Lib.hid hown5; have HM5 := Lib.hid ((HM4.out.alloc _).trans hm5 fun _ _ e => e); have HN5 := Lib.hid hn5; obtain ⟨A5, c5, rfl, _, _⟩ := hown5.form; clear hown5 hm5 hn5; have HC5 := Lib.hid (HRKE.out.cells.mods HM5.out (Nat.not_le_of_lt HRKE.out.cells.lt)); have q1 := HC5.out.at_ 1 rfl)) | (at_builtin; ((refine wpList_append _ rfl (.tmp 72) (.tmp 78) 22 rfl 29 (.agg #[.string ⟨#[]⟩, .int .i64 0]) 2 24 Try.underlying22 infoDue rfl (by decide) (F := Ge w8.heap.size) (n := i + 1) (xs := (entsL L).take (i * 2) ++ [ks key, .int .i64 t]) (by rfl) O2.out (G := F) (y := .slice (some ⟨b1, o1 + i * 2, none⟩) (L.length - i) (c - i)) (m := L.length - i) (news := ((entsL L).take (L.length * 2)).drop (i * 2)) (by rfl) ((HR1.out _ HME.out).same (HM5.out.same fun k hk => ⟨HRKE.out.lt k hk, Nat.not_le_of_lt (HRKE.out.lt k hk)⟩)) (fun u hu => entsL_one _ u (List.mem_of_mem_take (List.mem_of_mem_drop hu))) (by omega) (by decide) ?_); intro v6 w6 hown6 hm6 _; obtain ⟨hown6, hm6, hn6⟩ := app_ge O2.out HN5.out hown6 hm6; have O3 := Lib.hid hown6; have HM6 := Lib.hid (HM5.out.trans hm6 fun _ _ e => e); obtain ⟨A6, c6, rfl, _, _⟩ := hown6.form; clear hown6 hm6 hn6; have HC6 := Lib.hid (HRKE.out.cells.mods HM6.out (Nat.not_le_of_lt HRKE.out.cells.lt)); have q2 := HC6.out.at_ 1 rfl; have q3 := HC6.out.frozen 1)) | ((with_reducible refine wp_region_por ?_ ?_ ?_ ?_); kernel_rfl; kernel_rfl; (with_reducible repeat (first | exact calm_ret | refine calm_then ?_ | refine calm_in ?_ | refine calm_chk ?_ | refine calm_noGoto ?_))) | ((with_reducible refine chk_end ?_ ?_); kernel_rfl))
            go_ret
            rw [HSET.out]
            have hle := HLIM.out
            exact ⟨rfl, set_end HRKE.out (HMB.out.trans HME.out fun _ _ e => (e : False).elim) Hh.out.cells.lt O3.out HM6.out (by simp only [List.length_append, List.length_take, List.length_drop, List.length_cons]; omega) (ins_eq L i (key, t)) (by unfold ins; rw [Htw.out.1, Htw.out.2]) (by simp only [ins, Htw.out.1, Htw.out.2, List.length_append, List.length_take, List.length_drop, List.length_cons]; omega)⟩
        · obtain rfl : i = L.length := by omega
          have Htw := Lib.hid (tw_at Hall.out (.inl (Nat.le_refl _)))
          have hR1 := fun w' (hm : Mods No wB w') => (HRB.out.no' hm).rd.cut (k := L.length) (l := L.length) hi (Nat.le_refl _)
          go_wp2
          go_quiet (fail)
          refine gen_q ?_
          intro wE hwE
          have HME := Lib.hid (show Mods No wB wE by rw [hwE]; have := HM.out; repeat (first | exact this | apply Mods.drew | apply Mods.drewN))
          clear hwE c1 x8 x9
          have HRKE := Lib.hid (HRB.out.no' HME.out)
          have HBXE := Lib.hid (HBB.out.mods HME.out fun e => e)
          have lbe := HBXE.out.lt
          have e1 := HRKE.out.cells.at_ 1 rfl
          by_cases hci : c = L.length
          · simp only [if_pos hci, Nat.sub_self] at hR1
            rw [hci, Nat.sub_self] at hR1
            subst hci
            have HR1 := Lib.hid hR1
            clear hR1
            go_wp2_with (first | (at_builtin; (fail_if_success have := O1); ((refine wpList_append _ rfl (.tmp 59) (.tmp 65) 22 rfl 29 (.agg #[.string ⟨#[]⟩, .int .i64 0]) 2 24 Try.underlying22 infoDue rfl (by decide) (F := Ge wE.heap.size) (n := 0) (xs := []) (by rfl) (Tum.Own.nil wE (Ge wE.heap.size) 29 2) (G := F) (y := .slice A L.length L.length) (m := L.length) (news := (entsL L).take (L.length * 2)) (by rfl) (HRKE.out.rd.take hi) (fun u hu => entsL_one _ u (List.mem_of_mem_take hu)) (by omega) (by decide) ?_); intro v4 w4 hown4 hm4 _; obtain ⟨hown4, hm4, hn4⟩ := app_ge (Tum.Own.nil wE (Ge wE.heap.size) 29 2) (Nat.le_refl _) hown4 hm4; (simp only [Nat.zero_add, List.nil_append] at hown4); have O1 := Lib.hid (fun o => Own.alloc' hown4 o); have HM4 := Lib.hid hm4; have HN4 := Lib.hid hn4; obtain ⟨A4, c4, rfl, _, _⟩ := hown4.form; have k0 := (HBXE.out.mods hm4 (Nat.not_le_of_lt lbe)).at_ 0 rfl; have k1 := (HBXE.out.mods hm4 (Nat.not_le_of_lt lbe)).at_ 1 rfl; clear hown4 hm4 hn4)) | (at_builtin; (fail_if_success have := O2); ((refine wpList_append _ rfl (.tmp 67) (.tmp 69) 22 rfl 29 (.agg #[.string ⟨#[]⟩, .int .i64 0]) 2 24 Try.underlying22 infoDue rfl (by decide) (F := Ge wE.heap.size) (n := L.length) (xs := (entsL L).take (L.length * 2)) (by rfl) (O1.out _) (G := fun g => g = w4.heap.size) (y := .slice (some ⟨w4.heap.size, 0, none⟩) 1 1) (m := 1) (news := [ks key, .int .i64 t]) (by rfl) (Rd.box _ #[ks key, .int .i64 t] _ rfl rfl (by decide)) (two_one' _ _) (by omega) (by decide) ?_); intro v5 w5 hown5 hm5 _; obtain ⟨hown5, hm5, hn5⟩ := app_ge (O1.out _) (Nat.le_trans HN4.out (by rw [World.size_alloc]; omega)) hown5 hm5; have O2 := Lib.hid hown5; have HM5 := Lib.hid ((HM4.out.alloc _).trans hm5 fun _ _ e => e); have HN5 := Lib.hid hn5; obtain ⟨A5, c5, rfl, _, _⟩ := hown5.form; clear hown5 hm5 hn5; have HC5 := Lib.hid (HRKE.out.cells.mods HM5.out (Nat.not_le_of_lt HRKE.out.cells.lt)); have q1 := HC5.out.at_ 1 rfl)) | (at_builtin; ((refine wpList_append _ rfl (.tmp 72) (.tmp 78) 22 rfl 29 (.agg #[.string ⟨#[]⟩, .int .i64 0]) 2 24 Try.underlying22 infoDue rfl (by decide) (F := Ge wE.heap.size) (n := L.length + 1) (xs := (entsL L).take (L.length * 2) ++ [ks key, .int .i64 t]) (by rfl) O2.out (G := F) (y := .slice A 0 0) (m := 0) (news := ((entsL L).take (L.length * 2)).drop (L.length * 2)) (by rfl) ((HR1.out _ HME.out).same (HM5.out.same fun k hk => ⟨HRKE.out.lt k hk, Nat.not_le_of_lt (HRKE.out.lt k hk)⟩)) (fun u hu => entsL_one _ u (List.mem_of_mem_take (List.mem_of_mem_drop hu))) (by omega) (by decide) ?_); intro v6 w6 hown6 hm6 _; obtain ⟨hown6, hm6, hn6⟩ := app_ge O2.out HN5.out hown6 hm6; have O3 := Lib.hid hown6; have HM6 := Lib.hid (HM5.out.trans hm6 fun _ _ e => e); obtain ⟨A6, c6, rfl, _, _⟩ := hown6.form; clear hown6 hm6 hn6; have HC6 := Lib.hid (HRKE.out.cells.mods HM6.out (Nat.not_le_of_lt HRKE.out.cells.lt)); have q2 := HC6.out.at_ 1 rfl; have q3 := HC6.out.frozen 1)) | ((with_reducible refine wp_region_por ?_ ?_ ?_ ?_); kernel_rfl; kernel_rfl; (with_reducible repeat (first | exact calm_ret | refine calm_then ?_ | refine calm_in ?_ | refine calm_chk ?_ | refine calm_noGoto ?_))) | ((with_reducible refine chk_end ?_ ?_); kernel_rfl))
            go_ret
            rw [HSET.out]
            have hle := HLIM.out
            exact ⟨rfl, set_end HRKE.out (HMB.out.trans HME.out fun _ _ e => (e : False).elim) Hh.out.cells.lt O3.out HM6.out (by simp only [List.length_append, List.length_take, List.length_drop, List.length_cons]; omega) (ins_eq L L.length (key, t)) (by unfold ins; rw [Htw.out.1, Htw.out.2]) (by simp only [ins, Htw.out.1, Htw.out.2, List.length_append, List.length_take, List.length_drop, List.length_cons]; omega)⟩
          · simp only [if_neg hci, Nat.sub_self] at hR1
            have HR1 := Lib.hid hR1
            clear hR1
            go_wp2_with (first | (at_builtin; (fail_if_success have := O1); ((refine wpList_append _ rfl (.tmp 59) (.tmp 65) 22 rfl 29 (.agg #[.string ⟨#[]⟩, .int .i64 0]) 2 24 Try.underlying22 infoDue rfl (by decide) (F := Ge wE.heap.size) (n := 0) (xs := []) (by rfl) (Tum.Own.nil wE (Ge wE.heap.size) 29 2) (G := F) (y := .slice A L.length c) (m := L.length) (news := (entsL L).take (L.length * 2)) (by rfl) (HRKE.out.rd.take hi) (fun u hu => entsL_one _ u (List.mem_of_mem_take hu)) (by omega) (by decide) ?_); intro v4 w4 hown4 hm4 _; obtain ⟨hown4, hm4, hn4⟩ := app_ge (Tum.Own.nil wE (Ge wE.heap.size) 29 2) (Nat.le_refl _) hown4 hm4; (simp only [Nat.zero_add, List.nil_append] at hown4); have O1 := Lib.hid (fun o => Own.alloc' hown4 o); have HM4 := Lib.hid hm4; have HN4 := Lib.hid hn4; obtain ⟨A4, c4, rfl, _, _⟩ := hown4.form; have k0 := (HBXE.out.mods hm4 (Nat.not_le_of_lt lbe)).at_ 0 rfl; have k1 := (HBXE.out.mods hm4 (Nat.not_le_of_lt lbe)).at_ 1 rfl; clear hown4 hm4 hn4)) | (at_builtin; (fail_if_success have := O2); ((refine wpList_append _ rfl (.tmp 67) (.tmp 69) 22 rfl 29 (.agg #[.string ⟨#[]⟩, .int .i64 0]) 2 24 Try.underlying22 infoDue rfl (by decide) (F := Ge wE.heap.size) (n := L.length) (xs := (entsL L).take (L.length * 2)) (by rfl) (O1.out _) (G := fun g => g = w4.heap.size) (y := .slice (some ⟨w4.heap.size, 0, none⟩) 1 1) (m := 1) (news := [ks key, .int .i64 t]) (by rfl) (Rd.box _ #[ks key, .int .i64 t] _ rfl rfl (by decide)) (two_one' _ _) (by omega) (by decide) ?_); intro v5 w5 hown5 hm5 _; obtain ⟨hown5, hm5, hn5⟩ := app_ge (O1.out _) (Nat.le_trans HN4.out (by rw [World.size_alloc]; omega)) hown5 hm5; have O2 := Lib.hid hown5; have HM5 := Lib.hid ((HM4.out.alloc _).trans hm5 fun _ _ e => e); have HN5 := Lib.hid hn5; obtain ⟨A5, c5, rfl, _, _⟩ := hown5.form; clear hown5 hm5 hn5; have HC5 := Lib.hid (HRKE.out.cells.mods HM5.out (Nat.not_le_of_lt HRKE.out.cells.lt)); have q1 := HC5.out.at_ 1 rfl)) | (at_builtin; ((refine wpList_append _ rfl (.tmp 72) (.tmp 78) 22 rfl 29 (.agg #[.string ⟨#[]⟩, .int .i64 0]) 2 24 Try.underlying22 infoDue rfl (by decide) (F := Ge wE.heap.size) (n := L.length + 1) (xs := (entsL L).take (L.length * 2) ++ [ks key, .int .i64 t]) (by rfl) O2.out (G := F) (y := .slice (A.map (·.add (L.length * 2))) 0 (c - L.length)) (m := 0) (news := ((entsL L).take (L.length * 2)).drop (L.length * 2)) (by rfl) ((HR1.out _ HME.out).same (HM5.out.same fun k hk => ⟨HRKE.out.lt k hk, Nat.not_le_of_lt (HRKE.out.lt k hk)⟩)) (fun u hu => entsL_one _ u (List.mem_of_mem_take (List.mem_of_mem_drop hu))) (by omega) (by decide) ?_); intro v6 w6 hown6 hm6 _; obtain ⟨hown6, hm6, hn6⟩ := app_ge O2.out HN5.out hown6 hm6; have O3 := Lib.hid hown6; have HM6 := Lib.hid (HM5.out.trans hm6 fun _ _ e => e); obtain ⟨A6, c6, rfl, _, _⟩ := hown6.form; clear hown6 hm6 hn6; have HC6 := Lib.hid (HRKE.out.cells.mods HM6.out (Nat.not_le_of_lt HRKE.out.cells.lt)); have q2 := HC6.out.at_ 1 rfl; have q3 := HC6.out.frozen 1)) | ((with_reducible refine wp_region_por ?_ ?_ ?_ ?_); kernel_rfl; kernel_rfl; (with_reducible repeat (first | exact calm_ret | refine calm_then ?_ | refine calm_in ?_ | refine calm_chk ?_ | refine calm_noGoto ?_))) | ((with_reducible refine chk_end ?_ ?_); kernel_rfl))
            go_ret
            rw [HSET.out]
            have hle := HLIM.out
            exact ⟨rfl, set_end HRKE.out (HMB.out.trans HME.out fun _ _ e => (e : False).elim) Hh.out.cells.lt O3.out HM6.out (by simp only [List.length_append, List.length_take, List.length_drop, List.length_cons]; omega) (ins_eq L L.length (key, t)) (by unfold ins; rw [Htw.out.1, Htw.out.2]) (by simp only [ins, Htw.out.1, Htw.out.2, List.length_append, List.length_take, List.length_drop, List.length_cons]; omega)⟩
  · have hp : place L key = i := by rw [place_fi, e1]
    rw [hp] at Hhf
    have hw := fun w' (hm : Mods No w w') => without_K w' r lim L F i (Hh'.out.no hm) e2
    have hl : (L.take i ++ L.drop (i + 1)).length + 1 ≤ 65536 := by simp only [List.length_append, List.length_take, List.length_drop]; omega
    obtain ⟨M, hM⟩ : ∃ M, M = L.take i ++ L.drop (i + 1) := ⟨_, rfl⟩
    simp only [← hM] at hw hl
    have HSET := Lib.hid (show refSet lim L key t = (ins M (key, t), 0) by unfold refSet; rw [e1, hM])
    have HLIM := Lib.hid hl
    have Hhw := Lib.hid hw
    clear hw
    clear e1 e3 hp e4 e5 hM
    have hi0 : decide ((i : Int) < 0) = false := decide_eq_false (by omega)
    unfold ks at *
    go_enter Try.func17, Try.ntmps17
    go_wp2_with (first | (go_at_call 30; go_loud (refine ret_use Hhf.out ?_; rintro v w2 ⟨rfl, hm2⟩; have HM2 := Lib.hid hm2; have c2 := (Hh.out.cells.mods hm2 fun e => e).at_ 0 rfl; have c3 := (Hh.out.cells.mods hm2 fun e => e).at_ 1 rfl; clear hm2)))
    go_quiet (fail)
    refine gen_q ?_
    intro wE hwE
    have HME := Lib.hid (show Mods No w wE by rw [hwE]; have := HM2.out; repeat (first | exact this | apply Mods.drew | apply Mods.drewN))
    clear hwE c2 c3
    go_wp2_with (first | (go_at_call 31; (refine ret_use (Hhw.out _ HME.out) ?_; rintro v w3 ⟨ho3, hm3⟩; have HM3 := Lib.hid hm3; have HO3 := Lib.hid ho3; have HC3 := Lib.hid ((Hh.out.cells.mods HME.out fun e => e).mods hm3 fun e => e); have c3 := HC3.out.at_ 1 rfl; have f3 := HC3.out.frozen 1; have l3 := HC3.out.lt; obtain ⟨A, c, rfl, hac, hac2⟩ := ho3.form; clear ho3 hm3)) | ((with_reducible refine wp_region_por ?_ ?_ ?_ ?_); kernel_rfl; kernel_rfl; (with_reducible repeat (first | exact calm_ret | refine calm_then ?_ | refine calm_in ?_ | refine calm_chk ?_ | refine calm_noGoto ?_))) | ((with_reducible refine chk_end ?_ ?_); kernel_rfl))
    have hs := HM2.out.size
    have hsE := HME.out.size
    have hrw := Hh.out.cells.lt
    have HRK3 := Lib.hid (RK.put HC3.out (G := fun g => w.heap.size ≤ g ∧ g < w3.heap.size) (Rd.of_own HO3.out.1 fun g hg => ⟨by have := HO3.out.2 g hg; omega, HO3.out.lt g hg⟩) (fun g hg => ⟨by omega, hg.2⟩) (by omega))
    have HMR3 := Lib.hid (((HME.out.trans HM3.out fun _ _ e => e).mono (T := fun k => k = r) no_sub).setCell ⟨r, 1, none⟩ (.slice A M.length c) fun _ => rfl)
    obtain ⟨wB, hwB⟩ : ∃ x, x = (w3.setCell ⟨r, 1, none⟩ (.slice A M.length c)).alloc (.cells #[.string ⟨key.toArray⟩, .int .i64 t] 29) := ⟨_, rfl⟩
    rw [← hwB]
    have HRB := Lib.hid (show RK wB r lim (.slice A M.length c) M (fun g => w.heap.size ≤ g ∧ g < w3.heap.size) by rw [hwB]; exact HRK3.out.no' ((Mods.refl No _).alloc _))
    have HMB := Lib.hid (show Mods (fun k => k = r) w wB by rw [hwB]; exact HMR3.out.alloc _)
    have HBB := Lib.hid (show Cells wB w3.heap.size 29 #[.string ⟨key.toArray⟩, .int .i64 t] by
      have h1 := Cells.new (w3.setCell ⟨r, 1, none⟩ (.slice A M.length c)) 29 #[.string ⟨key.toArray⟩, .int .i64 t]
      rw [show (w3.setCell ⟨r, 1, none⟩ (.slice A M.length c)).heap.size = w3.heap.size by simp [World.setCell]] at h1
      rw [hwB]; exact h1)
    obtain ⟨bx, hbx⟩ : ∃ x, x = w3.heap.size := ⟨_, rfl⟩
    rw [← hbx] at HBB HRB ⊢
    clear hwB hbx c3 f3 hs hsE hrw l3 HRK3 HMR3
    go_loopg [9] M.length (fun k v9 wr => ∃ i : Nat, v9 = .int .i64 i ∧ i ≤ M.length ∧ k + i = M.length ∧ (∀ y ∈ M.take i, before y (key, t) = true) ∧ Mods No wB wr)
    case atStart => exact ⟨0, rfl, Nat.zero_le _, rfl, fun y hy => by simp at hy, Mods.refl _ _⟩
    case round =>
      obtain ⟨i, rfl, hi, hki, hall, hm⟩ := hrel
      have HM := Lib.hid hm
      have HRK := Lib.hid (HRB.out.no' hm)
      have HBX := Lib.hid (HBB.out.mods hm fun e => e)
      have c1 := HRK.out.cells.at_ 1 rfl
      have x8 := HBX.out.at_ 0 rfl
      have x9 := HBX.out.at_ 1 rfl
      clear hm
      have Hki := Lib.hid hki
      have Hall := Lib.hid hall
      clear hki hall
      rcases Nat.lt_or_ge i M.length with h1 | h1
      · obtain ⟨x, hx⟩ := lt_get h1
        obtain ⟨b1, o1, rfl, _, x0, x1⟩ := HRK.out.rd.pair hx
        unfold ks at x0
        obtain ⟨bb, hbb⟩ : ∃ bb, before x (key, t) = bb := ⟨_, rfl⟩
        have Hbf := Lib.hid hbb
        cases bb with
        | true =>
          have Hk := Lib.hid (And.intro hx hbb)
          clear hx hbb
          go_wp2_with (first | (go_at_call 12; (refine ret_use (before_K _ x (key, t) true Hbf.out) ?_; rintro v w8 ⟨rfl, hm8⟩; have HM8 := Lib.hid (((Mods.refl No wr).drew).trans hm8 fun _ _ e => e); clear hm8)) | ((with_reducible refine wp_region_por ?_ ?_ ?_ ?_); kernel_rfl; kernel_rfl; (with_reducible repeat (first | exact calm_ret | refine calm_then ?_ | refine calm_in ?_ | refine calm_chk ?_ | refine calm_noGoto ?_))) | ((with_reducible refine chk_end ?_ ?_); kernel_rfl))
          go_roundg (gk - 1)
          case rel =>
            have h5 := Hki.out
            refine ⟨i + 1, by go_num, h1, by omega, fun y hy => ?_, by have := HM.out.trans HM8.out fun _ _ e => e; repeat (first | exact this | apply Mods.drew | apply Mods.drewN)⟩
            rw [take_next Hk.out.1] at hy
            rcases List.mem_append.1 hy with hy | hy
            · exact Hall.out y hy
            · rw [List.mem_singleton.1 hy]; exact Hk.out.2
          case measure => have := Hki.out; omega
        | false =>
          have Htw := Lib.hid (tw_at Hall.out (.inr ⟨x, hx, hbb⟩))
          have hci : ¬ c = i := by omega
          have hR1 := fun w' (hm : Mods No wB w') => (HRB.out.no' hm).rd.cut (k := i) (l := M.length) hi (Nat.le_refl _)
          simp only [if_neg hci, Option.map_some, Addr.add_lit] at hR1
          clear hx hbb
          have HR1 := Lib.hid hR1
          clear hR1
          go_wp2_with (first | (go_at_call 12; (refine ret_use (before_K _ x (key, t) false Hbf.out) ?_; rintro v w8 ⟨rfl, hm8⟩; have HME := Lib.hid (HM.out.trans (((Mods.refl No wr).drew).trans hm8 fun _ _ e => e) fun _ _ e => e); have HRKE := Lib.hid (HRB.out.no' HME.out); have HBXE := Lib.hid (HBB.out.mods HME.out fun e => e); have lbe := HBXE.out.lt; have e1 := HRKE.out.cells.at_ 1 rfl; clear hm8)) | (at_builtin; (fail_if_success have := O1); ((refine wpList_append _ rfl (.tmp 59) (.tmp 65) 22 rfl 29 (.agg #[.string ⟨#[]⟩, .int .i64 0]) 2 24 Try.underlying22 infoDue rfl (by decide) (F := Ge w8.heap.size) (n := 0) (xs := []) (by rfl) (Tum.Own.nil w8 (Ge w8.heap.size) 29 2) (G := (fun g => w.heap.size ≤ g ∧ g < bx)) (y := .slice (some ⟨b1, o1, none⟩) i c) (m := i) (news := (entsL M).take (i * 2)) (by rfl) (HRKE.out.rd.take hi) (fun u hu => entsL_one _ u (List.mem_of_mem_take hu)) (by omega) (by decide) ?_); intro v4 w4 hown4 hm4 _; obtain ⟨hown4, hm4, hn4⟩ := app_ge (Tum.Own.nil w8 (Ge w8.heap.size) 29 2) (Nat.le_refl _) hown4 hm4; (simp only [Nat.zero_add, List.nil_append] at hown4); have O1 := Lib.hid (fun o => Own.alloc' hown4 o); have HM4 := Lib.hid hm4; have HN4 := Lib.hid hn4; obtain ⟨A4, c4, rfl, _, _⟩ := hown4.form; have k0 := (HBXE.out.mods hm4 (Nat.not_le_of_lt lbe)).at_ 0 rfl; have k1 := (HBXE.out.mods hm4 (Nat.not_le_of_lt lbe)).at_ 1 rfl; clear hown4 hm4 hn4)) | (at_builtin; (fail_if_success have := O2); ((refine wpList_append _ rfl (.tmp 67) (.tmp 69) 22 rfl 29 (.agg #[.string ⟨#[]⟩, .int .i64 0]) 2 24 Try.underlying22 infoDue rfl (by decide) (F := Ge w8.heap.size) (n := i) (xs := (entsL M).take (i * 2)) (by rfl) (O1.out _) (G := fun g => g = w4.heap.size) (y := .slice (some ⟨w4.heap.size, 0, none⟩) 1 1) (m := 1) (news := [ks key, .int .i64 t]) (by rfl) (Rd.box _ #[ks key, .int .i64 t] _ rfl rfl (by decide)) (two_one' _ _) (by omega) (by decide) ?_); intro v5 w5 hown5 hm5 _; obtain ⟨hown5, hm5, hn5⟩ := app_ge (O1.out _) (Nat.le_trans HN4.out (by rw [World.size_alloc]; omega)) hown5 hm5; have O2 := Lib.hid hown5; have HM5 := Lib.hid ((HM4.out.alloc _).trans hm5 fun _ _ e => e); have HN5 := Lib.hid hn5; obtain ⟨A5, c5, rfl, _, _⟩ := hown5.form; clear hown5 hm5 hn5; have HC5 := Lib.hid (HRKE.out.cells.mods HM5.out (Nat.not_le_of_lt HRKE.out.cells.lt)); have q1 := HC5.out.at_ 1 rfl)) | (at_builtin; ((refine wpList_append _ rfl (.tmp 72) (.tmp 78) 22 rfl 29 (.agg #[.string ⟨#[]⟩, .int .i64 0]) 2 24 Try.underlying22 infoDue rfl (by decide) (F := Ge w8.heap.size) (n := i + 1) (xs := (entsL M).take (i * 2) ++ [ks key, .int .i64 t]) (by rfl) O2.out (G := (fun g => w.heap.size ≤ g ∧ g < bx)) (y := .slice (some ⟨b1, o1 + i * 2, none⟩) (M.length - i) (c - i)) (m := M.length - i) (news := ((entsL M).take (M.length * 2)).drop (i * 2)) (by rfl) ((HR1.out _ HME.out).same (HM5.out.same fun k hk => ⟨HRKE.out.lt k hk, Nat.not_le_of_lt (HRKE.out.lt k hk)⟩)) (fun u hu => entsL_one _ u (List.mem_of_mem_take (List.mem_of_mem_drop hu))) (by omega) (by decide) ?_); intro v6 w6 hown6 hm6 _; obtain ⟨hown6, hm6, hn6⟩ := app_ge O2.out HN5.out hown6 hm6; have O3 := Lib.hid hown6; have HM6 := Lib.hid (HM5.out.trans hm6 fun _ _ e => e); obtain ⟨A6, c6, rfl, _, _⟩ := hown6.form; clear hown6 hm6 hn6; have HC6 := Lib.hid (HRKE.out.cells.mods HM6.out (Nat.not_le_of_lt HRKE.out.cells.lt)); have q2 := HC6.out.at_ 1 rfl; have q3 := HC6.out.frozen 1)) | ((with_reducible refine wp_region_por ?_ ?_ ?_ ?_); kernel_rfl; kernel_rfl; (with_reducible repeat (first | exact calm_ret | refine calm_then ?_ | refine calm_in ?_ | refine calm_chk ?_ | refine calm_noGoto ?_))) | ((with_reducible refine chk_end ?_ ?_); kernel_rfl))
          go_ret
          rw [HSET.out]
          have hle := HLIM.out
          exact ⟨rfl, set_end HRKE.out (HMB.out.trans HME.out fun _ _ e => (e : False).elim) Hh.out.cells.lt O3.out HM6.out (by simp only [List.length_append, List.length_take, List.length_drop, List.length_cons]; omega) (ins_eq M i (key, t)) (by unfold ins; rw [Htw.out.1, Htw.out.2]) (by simp only [ins, Htw.out.1, Htw.out.2, List.length_append, List.length_take, List.length_drop, List.length_cons]; omega)⟩
      · obtain rfl : i = M.length := by omega
        have Htw := Lib.hid (tw_at Hall.out (.inl (Nat.le_refl _)))
        have hR1 := fun w' (hm : Mods No wB w') => (HRB.out.no' hm).rd.cut (k := M.length) (l := M.length) hi (Nat.le_refl _)
        go_wp2
        go_quiet (fail)
        refine gen_q ?_
        intro wE hwE
        have HME := Lib.hid (show Mods No wB wE by rw [hwE]; have := HM.out; repeat (first | exact this | apply Mods.drew | apply Mods.drewN))
        clear hwE c1 x8 x9
        have HRKE := Lib.hid (HRB.out.no' HME.out)
        have HBXE := Lib.hid (HBB.out.mods HME.out fun e => e)
        have lbe := HBXE.out.lt
        have e1 := HRKE.out.cells.at_ 1 rfl
        by_cases hci : c = M.length
        · simp only [if_pos hci, Nat.sub_self] at hR1
          rw [hci, Nat.sub_self] at hR1
          subst hci
          have HR1 := Lib.hid hR1
          clear hR1
          go_wp2_with (first | (at_builtin; (fail_if_success have := O1); ((refine wpList_append _ rfl (.tmp 59) (.tmp 65) 22 rfl 29 (.agg #[.string ⟨#[]⟩, .int .i64 0]) 2 24 Try.underlying22 infoDue rfl (by decide) (F := Ge wE.heap.size) (n := 0) (xs := []) (by rfl) (Tum.Own.nil wE (Ge wE.heap.size) 29 2) (G := (fun g => w.heap.size ≤ g ∧ g < bx)) (y := .slice A M.length M.length) (m := M.length) (news := (entsL M).take (M.length * 2)) (by rfl) (HRKE.out.rd.take hi) (fun u hu => entsL_one _ u (List.mem_of_mem_take hu)) (by omega) (by decide) ?_); intro v4 w4 hown4 hm4 _; obtain ⟨hown4, hm4, hn4⟩ := app_ge (Tum.Own.nil wE (Ge wE.heap.size) 29 2) (Nat.le_refl _) hown4 hm4; (simp only [Nat.zero_add, List.nil_append] at hown4); have O1 := Lib.hid (fun o => Own.alloc' hown4 o); have HM4 := Lib.hid hm4; have HN4 := Lib.hid hn4; obtain ⟨A4, c4, rfl, _, _⟩ := hown4.form; have k0 := (HBXE.out.mods hm4 (Nat.not_le_of_lt lbe)).at_ 0 rfl; have k1 := (HBXE.out.mods hm4 (Nat.not_le_of_lt lbe)).at_ 1 rfl; clear hown4 hm4 hn4)) | (at_builtin; (fail_if_success have := O2); ((refine wpList_append _ rfl (.tmp 67) (.tmp 69) 22 rfl 29 (.agg #[.string ⟨#[]⟩, .int .i64 0]) 2 24 Try.underlying22 infoDue rfl (by decide) (F := Ge wE.heap.size) (n := M.length) (xs := (entsL M).take (M.length * 2)) (by rfl) (O1.out _) (G := fun g => g = w4.heap.size) (y := .slice (some ⟨w4.heap.size, 0, none⟩) 1 1) (m := 1) (news := [ks key, .int .i64 t]) (by rfl) (Rd.box _ #[ks key, .int .i64 t] _ rfl rfl (by decide)) (two_one' _ _) (by omega) (by decide) ?_); intro v5 w5 hown5 hm5 _; obtain ⟨hown5, hm5, hn5⟩ := app_ge (O1.out _) (Nat.le_trans HN4.out (by rw [World.size_alloc]; omega)) hown5 hm5; have O2 := Lib.hid hown5; have HM5 := Lib.hid ((HM4.out.alloc _).trans hm5 fun _ _ e => e); have HN5 := Lib.hid hn5; obtain ⟨A5, c5, rfl, _, _⟩ := hown5.form; clear hown5 hm5 hn5; have HC5 := Lib.hid (HRKE.out.cells.mods HM5.out (Nat.not_le_of_lt HRKE.out.cells.lt)); have q1 := HC5.out.at_ 1 rfl)) | (at_builtin; ((refine wpList_append _ rfl (.tmp 72) (.tmp 78) 22 rfl 29 (.agg #[.string ⟨#[]⟩, .int .i64 0]) 2 24 Try.underlying22 infoDue rfl (by decide) (F := Ge wE.heap.size) (n := M.length + 1) (xs := (entsL M).take (M.length * 2) ++ [ks key, .int .i64 t]) (by rfl) O2.out (G := (fun g => w.heap.size ≤ g ∧ g < bx)) (y := .slice A 0 0) (m := 0) (news := ((entsL M).take (M.length * 2)).drop (M.length * 2)) (by rfl) ((HR1.out _ HME.out).same (HM5.out.same fun k hk => ⟨HRKE.out.lt k hk, Nat.not_le_of_lt (HRKE.out.lt k hk)⟩)) (fun u hu => entsL_one _ u (List.mem_of_mem_take (List.mem_of_mem_drop hu))) (by omega) (by decide) ?_); intro v6 w6 hown6 hm6 _; obtain ⟨hown6, hm6, hn6⟩ := app_ge O2.out HN5.out hown6 hm6; have O3 := Lib.hid hown6; have HM6 := Lib.hid (HM5.out.trans hm6 fun _ _ e => e); obtain ⟨A6, c6, rfl, _, _⟩ := hown6.form; clear hown6 hm6 hn6; have HC6 := Lib.hid (HRKE.out.cells.mods HM6.out (Nat.not_le_of_lt HRKE.out.cells.lt)); have q2 := HC6.out.at_ 1 rfl; have q3 := HC6.out.frozen 1)) | ((with_reducible refine wp_region_por ?_ ?_ ?_ ?_); kernel_rfl; kernel_rfl; (with_reducible repeat (first | exact calm_ret | refine calm_then ?_ | refine calm_in ?_ | refine calm_chk ?_ | refine calm_noGoto ?_))) | ((with_reducible refine chk_end ?_ ?_); kernel_rfl))
          go_ret
          rw [HSET.out]
          have hle := HLIM.out
          exact ⟨rfl, set_end HRKE.out (HMB.out.trans HME.out fun _ _ e => (e : False).elim) Hh.out.cells.lt O3.out HM6.out (by simp only [List.length_append, List.length_take, List.length_drop, List.length_cons]; omega) (ins_eq M M.length (key, t)) (by unfold ins; rw [Htw.out.1, Htw.out.2]) (by simp only [ins, Htw.out.1, Htw.out.2, List.length_append, List.length_take, List.length_drop, List.length_cons]; omega)⟩
        · simp only [if_neg hci, Nat.sub_self] at hR1
          have HR1 := Lib.hid hR1
          clear hR1
          go_wp2_with (first | (at_builtin; (fail_if_success have := O1); ((refine wpList_append _ rfl (.tmp 59) (.tmp 65) 22 rfl 29 (.agg #[.string ⟨#[]⟩, .int .i64 0]) 2 24 Try.underlying22 infoDue rfl (by decide) (F := Ge wE.heap.size) (n := 0) (xs := []) (by rfl) (Tum.Own.nil wE (Ge wE.heap.size) 29 2) (G := (fun g => w.heap.size ≤ g ∧ g < bx)) (y := .slice A M.length c) (m := M.length) (news := (entsL M).take (M.length * 2)) (by rfl) (HRKE.out.rd.take hi) (fun u hu => entsL_one _ u (List.mem_of_mem_take hu)) (by omega) (by decide) ?_); intro v4 w4 hown4 hm4 _; obtain ⟨hown4, hm4, hn4⟩ := app_ge (Tum.Own.nil wE (Ge wE.heap.size) 29 2) (Nat.le_refl _) hown4 hm4; (simp only [Nat.zero_add, List.nil_append] at hown4); have O1 := Lib.hid (fun o => Own.alloc' hown4 o); have HM4 := Lib.hid hm4; have HN4 := Lib.hid hn4; obtain ⟨A4, c4, rfl, _, _⟩ := hown4.form; have k0 := (HBXE.out.mods hm4 (Nat.not_le_of_lt lbe)).at_ 0 rfl; have k1 := (HBXE.out.mods hm4 (Nat.not_le_of_lt lbe)).at_ 1 rfl; clear hown4 hm4 hn4)) | (at_builtin; (fail_if_success have := O2); ((refine wpList_append _ rfl (.tmp 67) (.tmp 69) 22 rfl 29 (.agg #[.string ⟨#[]⟩, .int .i64 0]) 2 24 Try.underlying22 infoDue rfl (by decide) (F := Ge wE.heap.size) (n := M.length) (xs := (entsL M).take (M.length * 2)) (by rfl) (O1.out _) (G := fun g => g = w4.heap.size) (y := .slice (some ⟨w4.heap.size, 0, none⟩) 1 1) (m := 1) (news := [ks key, .int .i64 t]) (by rfl) (Rd.box _ #[ks key, .int .i64 t] _ rfl rfl (by decide)) (two_one' _ _) (by omega) (by decide) ?_); intro v5 w5 hown5 hm5 _; obtain ⟨hown5, hm5, hn5⟩ := app_ge (O1.out _) (Nat.le_trans HN4.out (by rw [World.size_alloc]; omega)) hown5 hm5; have O2 := Lib.hid hown5; have HM5 := Lib.hid ((HM4.out.alloc _).trans hm5 fun _ _ e => e); have HN5 := Lib.hid hn5; obtain ⟨A5, c5, rfl, _, _⟩ := hown5.form; clear hown5 hm5 hn5; have HC5 := Lib.hid (HRKE.out.cells.mods HM5.out (Nat.not_le_of_lt HRKE.out.cells.lt)); have q1 := HC5.out.at_ 1 rfl)) | (at_builtin; ((refine wpList_append _ rfl (.tmp 72) (.tmp 78) 22 rfl 29 (.agg #[.string ⟨#[]⟩, .int .i64 0]) 2 24 Try.underlying22 infoDue rfl (by decide) (F := Ge wE.heap.size) (n := M.length + 1) (xs := (entsL M).take (M.length * 2) ++ [ks key, .int .i64 t]) (by rfl) O2.out (G := (fun g => w.heap.size ≤ g ∧ g < bx)) (y := .slice (A.map (·.add (M.length * 2))) 0 (c - M.length)) (m := 0) (news := ((entsL M).take (M.length * 2)).drop (M.length * 2)) (by rfl) ((HR1.out _ HME.out).same (HM5.out.same fun k hk => ⟨HRKE.out.lt k hk, Nat.not_le_of_lt (HRKE.out.lt k hk)⟩)) (fun u hu => entsL_one _ u (List.mem_of_mem_take (List.mem_of_mem_drop hu))) (by omega) (by decide) ?_); intro v6 w6 hown6 hm6 _; obtain ⟨hown6, hm6, hn6⟩ := app_ge O2.out HN5.out hown6 hm6; have O3 := Lib.hid hown6; have HM6 := Lib.hid (HM5.out.trans hm6 fun _ _ e => e); obtain ⟨A6, c6, rfl, _, _⟩ := hown6.form; clear hown6 hm6 hn6; have HC6 := Lib.hid (HRKE.out.cells.mods HM6.out (Nat.not_le_of_lt HRKE.out.cells.lt)); have q2 := HC6.out.at_ 1 rfl; have q3 := HC6.out.frozen 1)) | ((with_reducible refine wp_region_por ?_ ?_ ?_ ?_); kernel_rfl; kernel_rfl; (with_reducible repeat (first | exact calm_ret | refine calm_then ?_ | refine calm_in ?_ | refine calm_chk ?_ | refine calm_noGoto ?_))) | ((with_reducible refine chk_end ?_ ?_); kernel_rfl))
          go_ret
          rw [HSET.out]
          have hle := HLIM.out
          exact ⟨rfl, set_end HRKE.out (HMB.out.trans HME.out fun _ _ e => (e : False).elim) Hh.out.cells.lt O3.out HM6.out (by simp only [List.length_append, List.length_take, List.length_drop, List.length_cons]; omega) (ins_eq M M.length (key, t)) (by unfold ins; rw [Htw.out.1, Htw.out.2]) (by simp only [ins, Htw.out.1, Htw.out.2, List.length_append, List.length_take, List.length_drop, List.length_cons]; omega)⟩
end Go.Proofs.Ytmfpgghpnkmkpaa
