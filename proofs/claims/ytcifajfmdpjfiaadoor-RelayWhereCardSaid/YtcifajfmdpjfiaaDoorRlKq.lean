/- The law RelayKeeps, walked. -/
import Derived.Test.YtcifajfmdpjfiaaDoorRlKp
import Derived.Test.YtcifajfmdpjfiaaDoorRlArgs
import Derived.Laws.Cover1
namespace Go.Proofs.YtcifajfmdpjfiaaDoor
open Go.RowKit Go.Tum Go.Lib Go.Sort
set_option maxRecDepth 100000
def opcs (l : List OpA) : List Value := l.flatMap opc
theorem opcs_get (l : List OpA) (i r : Nat) (hr : r < 7) : (opcs l)[i * 7 + r]? = (l[i]?).bind fun x => (opc x)[r]? := flatMap_get opc_len l i r hr
/-- Call i of a script that reads. -/
theorem _root_.Go.Tum.Rd.opa {w : World} {F : Nat → Prop} {A : Option Addr} {c n : Nat} {l : List OpA} (h : Rd w F 7 (.slice A n c) n (opcs l)) (hn : l.length = n) {i : Nat} {kd hi lo tm m : Int} {p s : Tx} (hx : l[i]? = some (kd, (p, hi, lo, tm), s, m)) :
    ∃ b off, A = some ⟨b, off, none⟩ ∧ F b ∧ w.cell? ⟨b, off + i * 7, none⟩ = some (.int .i64 kd) ∧ w.cell? ⟨b, off + i * 7 + 1, none⟩ = some (.string ⟨p.toArray⟩) ∧ w.cell? ⟨b, off + i * 7 + 2, none⟩ = some (.int .i64 hi) ∧ w.cell? ⟨b, off + i * 7 + 3, none⟩ = some (.int .u64 lo) ∧ w.cell? ⟨b, off + i * 7 + 4, none⟩ = some (.int .i64 tm) ∧ w.cell? ⟨b, off + i * 7 + 5, none⟩ = some (.string ⟨s.toArray⟩) ∧ w.cell? ⟨b, off + i * 7 + 6, none⟩ = some (.int .i64 m) := by
  subst hn
  obtain ⟨hi', _⟩ := List.getElem?_eq_some_iff.1 hx
  obtain ⟨b, off, c', e, hF, hc⟩ := h.cells (by omega)
  injection e with e
  have hg : ∀ r, r < 7 → w.cell? ⟨b, off + (i * 7 + r), none⟩ = (opc (kd, (p, hi, lo, tm), s, m))[r]? := fun r hr => by
    rw [hc _ (by omega), opcs_get l i r hr, hx]; rfl
  exact ⟨b, off, e, hF, hg 0 (by decide), hg 1 (by decide), hg 2 (by decide), hg 3 (by decide), hg 4 (by decide), hg 5 (by decide), hg 6 (by decide)⟩
set_option maxHeartbeats 6400000 in
theorem relayKeeps_K (w : World) (nodes : List Tx) (C R H : Int) (nw : Bool) (sc : List OpA) (vn vs : Value) (ht : Tab w) (hrn : Rd w (fun g => g < w.heap.size) 1 vn nodes.length (nodes.map ks)) (hr : Rd w (fun g => g < w.heap.size) 7 vs sc.length (opcs sc)) (hp : ∀ o ∈ sc, o.2.1.1.length ≤ maxLen) (hn : sc.length ≤ 144115188075855872) :
    Calls Tryd.prog 8 #[.agg #[vn, .int .i64 C, .int .i64 R, .int .i64 H, .bool nw], vs] w (Ret fun v w' => v = .bool true ∧ Mods No w w') := by
  obtain ⟨An, cn, rfl, hnc, hnx⟩ := hrn.form
  obtain ⟨A, c, rfl, hac, hmx⟩ := hr.form
  have hM0 : Mods No w (w.alloc (.cells #[.slice An nodes.length cn, .int .i64 C, .int .i64 R, .int .i64 H, .bool nw] 26)) := (Mods.refl No w).alloc _
  have hbx := Cells.new w 26 #[.slice An nodes.length cn, .int .i64 C, .int .i64 R, .int .i64 H, .bool nw]
  have hnn := relnew_K (w.alloc (.cells #[.slice An nodes.length cn, .int .i64 C, .int .i64 R, .int .i64 H, .bool nw] 26)) _ nodes C R H nw (hrn.keep hM0) (ht.no hM0)
  have hrn2 := fun w' (hm : Mods No (w.alloc (.cells #[.slice An nodes.length cn, .int .i64 C, .int .i64 R, .int .i64 H, .bool nw] 26)) w') => rrnew_K w' An cn nodes C R H nw ((hrn.keep hM0).keep hm)
  have hal := fun w' (hm : Mods No (w.alloc (.cells #[.slice An nodes.length cn, .int .i64 C, .int .i64 R, .int .i64 H, .bool nw] 26)) w') => ralive_K w' ((ht.no hM0).no hm)
  obtain ⟨e, he⟩ : ∃ e, e = relE nodes C R H := ⟨_, rfl⟩
  unfold RrNewIs at hrn2
  rw [← he] at hrn2
  have HBX := Lib.hid hbx
  have HM0 := Lib.hid hM0
  have b0 := hbx.at_ 0 rfl
  have b1 := hbx.at_ 1 rfl
  have b2 := hbx.at_ 2 rfl
  have b3 := hbx.at_ 3 rfl
  have b4 := hbx.at_ 4 rfl
  have bl := hbx.lt
  unfold maxLen at hnx hmx
  by_cases h0 : e = 0
  · have hz := relE_zero (he.symm.trans h0)
    have hok := fun w' v (h : RelNew (w.alloc (.cells #[.slice An nodes.length cn, .int .i64 C, .int .i64 R, .int .i64 H, .bool nw] 26)) w' nodes C R H nw v) => relnew_ok h (he.symm.trans h0)
    have hn64 := (newE_zero hz.1).2.2.1
    have hc1 := (newE_zero hz.1).1
    obtain ⟨C, rfl⟩ : ∃ k : Nat, C = (k : Int) := ⟨C.toNat, by omega⟩
    obtain ⟨R, rfl⟩ : ∃ k : Nat, R = (k : Int) := ⟨R.toNat, by omega⟩
    obtain ⟨H, rfl⟩ : ∃ k : Nat, H = (k : Int) := ⟨H.toNat, by omega⟩
    have hR8 : R ≤ 8 := by omega
    have hH6 : H ≤ 65536 := by omega
    subst h0
    have HR := Lib.hid hr
    have HRN := Lib.hid hrn
    have Hp := Lib.hid hp
    clear hz he hbx hM0 hp hr hrn hrn2 hc1
    have Hht := Lib.hid ht
    clear ht
    have Hhnn := Lib.hid hnn
    clear hnn
    have Hhal := Lib.hid hal
    clear hal
    have Hhok := Lib.hid hok
    clear hok
    go_enter Tryd.func8, Tryd.ntmps8
    go_wp2_with (first | (go_at_call 10; (refine ret_use (Hhnn.out) ?_; rintro v w2 hn2; obtain ⟨rb, rfl, hr2, hm2⟩ := Hhok.out _ _ hn2; have HK2 := Lib.hid (kp_new hr2 hm2); clear hn2 hm2 hr2)) | ((with_reducible refine wp_region_por ?_ ?_ ?_ ?_); kernel_rfl; kernel_rfl; (with_reducible repeat (first | exact calm_ret | refine calm_then ?_ | refine calm_in ?_ | refine calm_chk ?_ | refine calm_noGoto ?_))) | ((with_reducible refine chk_end ?_ ?_); kernel_rfl))
    clear b0 b1 b2 b3 b4
    have HK0 := Lib.hid (show ∃ a b : Nat, a = tot (List.replicate nodes.length stn0) ∧ b = snt (List.replicate nodes.length stn0) ∧ a = 0 ∧ b = 0 from ⟨0, 0, (tot_new _).symm, (snt_new _).symm, rfl, rfl⟩)
    go_loopg [9, 10, 11] sc.length (fun k v9 v10 v11 wr => ∃ (i a b : Nat) (S : List Stn) (dn : List Tx), v9 = .int .i64 a ∧ v10 = .int .i64 b ∧ v11 = .int .i64 i ∧ i ≤ sc.length ∧ k + i = sc.length ∧ a = tot S ∧ b = snt S ∧ KpI (w.alloc (.cells #[.slice An nodes.length cn, .int .i64 (C : Int), .int .i64 (R : Int), .int .i64 (H : Int), .bool nw] 26)) wr rb C R H nw nodes i S dn)
    case atStart => exact ⟨0, 0, 0, _, _, rfl, rfl, rfl, Nat.zero_le _, rfl, (tot_new _).symm, (snt_new _).symm, HK2.out⟩
    case round =>
      obtain ⟨i, a, b, S, dn, rfl, rfl, rfl, hi, hki, ha, hb, hin⟩ := hrel
      have Hki := Lib.hid hki
      have Hin := Lib.hid hin
      have Hab := Lib.hid (And.intro ha hb)
      have has : a ≤ 8 * i := by rw [ha]; exact hin.small
      have hbs : b ≤ a := by rw [ha, hb]; exact snt_le S
      clear hki ha hb
      rcases Nat.lt_or_ge i sc.length with h1 | h1
      · obtain ⟨⟨kd, ⟨p, xh, xl, xt⟩, s, m⟩, hx⟩ := lt_get h1
        have hpl : p.length ≤ maxLen := Hp.out _ (List.mem_of_getElem? hx)
        obtain ⟨bs, os, rfl, _, y0, y1, y2, y3, y4, y5, y6⟩ := (HR.out.keep (HM0.out.trans hin.hm fun _ _ e => e)).opa rfl hx
        have hput := fun w' h => kp_put (W := (w.alloc (.cells #[.slice An nodes.length cn, .int .i64 (C : Int), .int .i64 (R : Int), .int .i64 (H : Int), .bool nw] 26))) (w := w') (rb := rb) (C := C) (R := R) (H := H) (i := i) (nw := nw) (nodes := nodes) (S := S) (dn := dn) h (p, xh, xl, xt) hpl (by omega)
        have htk := take_K (wr.alloc (.cells #[.int .i64 kd, .string ⟨p.toArray⟩, .int .i64 xh, .int .u64 xl, .int .i64 xt, .string ⟨s.toArray⟩, .int .i64 m] 61)) rb C R H nw (nodesOf nodes) S dn (fun b => ((w.alloc (.cells #[.slice An nodes.length cn, .int .i64 (C : Int), .int .i64 (R : Int), .int .i64 (H : Int), .bool nw] 26))).heap.size ≤ b ∧ b < wr.heap.size) s m ((hin.rel.more fun b hb e => ⟨e, hb⟩).no ((Mods.refl No wr).alloc _)) fun t ht => by
          have h2 := tot_mem ht
          have h3 := hin.small
          unfold sz at h2
          omega
        have HBO := Lib.hid (Cells.new wr 61 #[.int .i64 kd, .string ⟨p.toArray⟩, .int .i64 xh, .int .u64 xl, .int .i64 xt, .string ⟨s.toArray⟩, .int .i64 m])
        have hdw := fun w' (h : KpI (w.alloc (.cells #[.slice An nodes.length cn, .int .i64 (C : Int), .int .i64 (R : Int), .int .i64 (H : Int), .bool nw] 26)) w' rb C R H nw nodes i S dn) => down_K w' rb C R H nw (nodesOf nodes) S dn _ s h.rel
        have hup := fun w' (h : KpI (w.alloc (.cells #[.slice An nodes.length cn, .int .i64 (C : Int), .int .i64 (R : Int), .int .i64 (H : Int), .bool nw] 26)) w' rb C R H nw nodes i S dn) => up_K w' rb C R H nw (nodesOf nodes) S dn _ s h.rel
        clear hin hx
        have Hhput := Lib.hid hput
        clear hput
        have Hhtk := Lib.hid htk
        clear htk
        have Hhdw := Lib.hid hdw
        clear hdw
        have Hhup := Lib.hid hup
        clear hup
        unfold rv at Hhput
        unfold ks at Hhput Hhtk Hhdw Hhup
        go_upto_block 2 with (first | ((with_reducible refine wp_region_por ?_ ?_ ?_ ?_); kernel_rfl; kernel_rfl; (with_reducible repeat (first | exact calm_ret | refine calm_then ?_ | refine calm_in ?_ | refine calm_chk ?_ | refine calm_noGoto ?_))) | ((with_reducible refine chk_end ?_ ?_); kernel_rfl))
        go_cut [9, 10] from 54 to 118 (fun v9 v10 wx => ∃ (a b : Nat) (S' : List Stn) (dn' : List Tx), v9 = .int .i64 a ∧ v10 = .int .i64 b ∧ a = tot S' ∧ b = snt S' ∧ KpI (w.alloc (.cells #[.slice An nodes.length cn, .int .i64 (C : Int), .int .i64 (R : Int), .int .i64 (H : Int), .bool nw] 26)) wx rb C R H nw nodes (i + 1) S' dn')
        case first =>
          have HI := Lib.hid (Hin.out.no ((Mods.refl No wr).alloc (.cells #[.int .i64 kd, .string ⟨p.toArray⟩, .int .i64 xh, .int .u64 xl, .int .i64 xt, .string ⟨s.toArray⟩, .int .i64 m] 61)))
          by_cases e1 : kd = 1
          · subst e1
            go_wp2_with (first | (go_at_call 13; (refine ret_use (Hhput.out _ HI.out) ?_; rintro v w5 ⟨q, S5, rfl, hq1, hq2, ht5, hs5, hk5⟩; have hb5 := HBX.out.mods hk5.hm fun e => e; have d0 := hb5.at_ 0 rfl; have d2 := hb5.at_ 2 rfl; have dl := hb5.lt; have HT5 := Lib.hid (And.intro ht5 hs5); have HK5 := Lib.hid hk5; clear ht5 hs5 hk5 hb5)) | ((with_reducible refine wp_region_por ?_ ?_ ?_ ?_); kernel_rfl; kernel_rfl; (with_reducible repeat (first | exact calm_ret | refine calm_then ?_ | refine calm_in ?_ | refine calm_chk ?_ | refine calm_noGoto ?_))) | ((with_reducible refine chk_end ?_ ?_); kernel_rfl))
            go_meet
            case rel => exact ⟨a + q, b, S5, dn, by go_num, rfl, by rw [HT5.out.1, Hab.out.1], by rw [HT5.out.2, Hab.out.2], HK5.out⟩
          · have f1 : (kd == 1) = false := beq_eq_false_iff_ne.2 e1
            by_cases e2 : kd = 2
            · subst e2
              clear e1
              go_upto_region 18 with (first | (go_at_call 14; (refine ret_use (Hhtk.out) ?_; rintro v w5 ht5; have ht6 := kp_take HI.out (fun b e => e.1) ht5; obtain ⟨A5, m5, c5, e5, S5, rfl, hm5, hm6, ht5, hs5, hk5, hmm5⟩ := ht6; have HT5 := Lib.hid (And.intro ht5 hs5); have HK5 := Lib.hid hk5; have ho5 := HBO.out.mods hmm5 (fun e => Nat.lt_irrefl _ e.2); have o6 := ho5.at_ 6 rfl; have ol := ho5.lt; have HM5 := Lib.hid hm5; clear ht5 hs5 hk5 hm5 hmm5 ho5)) | ((with_reducible refine wp_region_por ?_ ?_ ?_ ?_); kernel_rfl; kernel_rfl; (with_reducible repeat (first | exact calm_ret | refine calm_then ?_ | refine calm_in ?_ | refine calm_chk ?_ | refine calm_noGoto ?_))) | ((with_reducible refine chk_end ?_ ?_); kernel_rfl))
              rcases HM5.out with h7 | ⟨h7, h8, h9⟩
              · subst h7
                go_wp2_with (first | ((with_reducible refine wp_region_por ?_ ?_ ?_ ?_); kernel_rfl; kernel_rfl; (with_reducible repeat (first | exact calm_ret | refine calm_then ?_ | refine calm_in ?_ | refine calm_chk ?_ | refine calm_noGoto ?_))) | ((with_reducible refine chk_end ?_ ?_); kernel_rfl))
                go_meet
                case rel => exact ⟨a, b, S5, dn, rfl, by go_num, by rw [HT5.out.1, Hab.out.1], by rw [HT5.out.2, Hab.out.2, Nat.add_zero], HK5.out⟩
              · subst h8
                have h9' : decide (m < (m5 : Int)) = false := decide_eq_false (by omega)
                go_wp2_with (first | ((with_reducible refine wp_region_por ?_ ?_ ?_ ?_); kernel_rfl; kernel_rfl; (with_reducible repeat (first | exact calm_ret | refine calm_then ?_ | refine calm_in ?_ | refine calm_chk ?_ | refine calm_noGoto ?_))) | ((with_reducible refine chk_end ?_ ?_); kernel_rfl))
                go_meet
                case rel => exact ⟨a, b + m5, S5, dn, rfl, by go_num, by rw [HT5.out.1, Hab.out.1], by rw [HT5.out.2, Hab.out.2], HK5.out⟩
            · have f2 : (kd == 2) = false := beq_eq_false_iff_ne.2 e2
              by_cases e3 : kd = 3
              · subst e3
                clear e1 e2
                go_wp2_with (first | (go_at_call 21; (refine ret_use (Hhdw.out _ HI.out) ?_; rintro v w5 ⟨rfl, hr5, hm5⟩; have HK5 := Lib.hid (kp_turn HI.out hr5 hm5); clear hr5 hm5)) | ((with_reducible refine wp_region_por ?_ ?_ ?_ ?_); kernel_rfl; kernel_rfl; (with_reducible repeat (first | exact calm_ret | refine calm_then ?_ | refine calm_in ?_ | refine calm_chk ?_ | refine calm_noGoto ?_))) | ((with_reducible refine chk_end ?_ ?_); kernel_rfl))
                go_meet
                case rel => exact ⟨a, b, S, _, rfl, rfl, Hab.out.1, Hab.out.2, HK5.out⟩
              · have f3 : (kd == 3) = false := beq_eq_false_iff_ne.2 e3
                by_cases e4 : kd = 4
                · subst e4
                  clear e1 e2 e3
                  go_wp2_with (first | (go_at_call 26; (refine ret_use (Hhup.out _ HI.out) ?_; rintro v w5 ⟨rfl, hr5, hm5⟩; have HK5 := Lib.hid (kp_turn HI.out hr5 hm5); clear hr5 hm5)) | ((with_reducible refine wp_region_por ?_ ?_ ?_ ?_); kernel_rfl; kernel_rfl; (with_reducible repeat (first | exact calm_ret | refine calm_then ?_ | refine calm_in ?_ | refine calm_chk ?_ | refine calm_noGoto ?_))) | ((with_reducible refine chk_end ?_ ?_); kernel_rfl))
                  go_meet
                  case rel => exact ⟨a, b, S, _, rfl, rfl, Hab.out.1, Hab.out.2, HK5.out⟩
                · have f4 : (kd == 4) = false := beq_eq_false_iff_ne.2 e4
                  go_wp2_with (first | ((with_reducible refine wp_region_por ?_ ?_ ?_ ?_); kernel_rfl; kernel_rfl; (with_reducible repeat (first | exact calm_ret | refine calm_then ?_ | refine calm_in ?_ | refine calm_chk ?_ | refine calm_noGoto ?_))) | ((with_reducible refine chk_end ?_ ?_); kernel_rfl))
                  go_meet
                  case rel => exact ⟨a, b, S, dn, rfl, rfl, Hab.out.1, Hab.out.2, HI.out.up⟩
        case rest =>
          obtain ⟨a5, b5, S5, dn5, rfl, rfl, ha5, hb5, hk5⟩ := hcut
          clear has hbs
          have has : a5 ≤ 8 * (i + 1) := by rw [ha5]; exact hk5.small
          have hbs : b5 ≤ a5 := by rw [ha5, hb5]; exact snt_le S5
          have hct := counts_K wc rb C R H nw (nodesOf nodes) S5 dn5 _ hk5.rel
          obtain ⟨L, hL⟩ : ∃ L, L = countsV (nodesOf nodes) S5 dn5 := ⟨_, rfl⟩
          rw [nodesOf_len, ← hL] at hct
          have HL := Lib.hid hL
          have HLl := Lib.hid (show L.length = nodes.length by rw [hL, countsV_len hk5.rel.1.len, nodesOf_len])
          have Hab5 := Lib.hid (And.intro ha5 hb5)
          have HK5 := Lib.hid hk5
          have hb6 := HBX.out.mods hk5.hm fun e => e
          have d0 := hb6.at_ 0 rfl
          have dl := hb6.lt
          obtain ⟨K2, hK2⟩ : ∃ K2, K2 = gk := ⟨_, rfl⟩
          have HK2g := Lib.hid hK2
          have HI5 := Lib.hid hk5.rel.1
          have HST := Lib.hid hk5.rel.strict
          clear ha5 hb5 hk5 hL hK2 hb6
          have Hhct := Lib.hid hct
          clear hct
          go_wp2_with (first | (go_at_call 16; (refine ret_use (Hhct.out) ?_; rintro v w6 ⟨ho6, hm6⟩; have HO6 := Lib.hid ho6; have HM6 := Lib.hid hm6; have hb7 := HBX.out.mods (HK5.out.hm.trans hm6 fun _ _ e => e) fun e => e; have d0 := hb7.at_ 0 rfl; have d3 := hb7.at_ 3 rfl; have dl := hb7.lt; obtain ⟨A6, c6, rfl, _, _⟩ := ho6.form; clear ho6 hm6 hb7)) | ((with_reducible refine wp_region_por ?_ ?_ ?_ ?_); kernel_rfl; kernel_rfl; (with_reducible repeat (first | exact calm_ret | refine calm_then ?_ | refine calm_in ?_ | refine calm_chk ?_ | refine calm_noGoto ?_))) | ((with_reducible refine chk_end ?_ ?_); kernel_rfl))
          go_loopg [16, 17, 19] nodes.length (fun k v16 v17 v19 wx => ∃ (j a b : Nat), v16 = .int .i64 a ∧ v17 = .int .i64 b ∧ v19 = .int .i64 j ∧ j ≤ nodes.length ∧ k + j = nodes.length ∧ a = tot (S5.take j) ∧ b = snt (S5.take j) ∧ Mods No w6 wx)
          case atStart => exact ⟨0, 0, 0, rfl, rfl, rfl, Nat.zero_le _, rfl, rfl, rfl, Mods.refl _ _⟩
          case round =>
            obtain ⟨j, a, b, rfl, rfl, rfl, hj, hkj, ha7, hb7, hm7⟩ := hrel
            have Hkj := Lib.hid hkj
            have HM7 := Lib.hid hm7
            have ha8 : a ≤ 8 * (i + 1) := by rw [ha7]; exact Nat.le_trans (tot_take_le S5 j) HK5.out.small
            have hb8 : b ≤ a := by rw [ha7, hb7]; exact snt_le _
            have Hab7 := Lib.hid (And.intro ha7 hb7)
            have HW := Lib.hid (HK5.out.hm.trans (HM6.out.trans hm7 fun _ _ e => e) fun _ _ e => e)
            clear hkj hm7 ha7 hb7
            rcases Nat.lt_or_ge j nodes.length with h2 | h2
            · obtain ⟨t, ht⟩ := lt_get (show j < (nodesOf nodes).length by rw [nodesOf_len]; exact h2)
              obtain ⟨st, hst⟩ := lt_get (show j < S5.length by rw [HI5.out.len, nodesOf_len]; exact h2)
              have hx : L[j]? = some (cntOf dn5 t st) := by rw [HL.out]; unfold countsV; rw [List.getElem?_zipWith, ht, hst]
              have hhd := HI5.out.held st (List.mem_of_getElem? hst)
              have hszl : a + sz st ≤ 8 * (i + 1) := by
                rw [Hab7.out.1, ← tot_snoc, ← take_nx hst]
                exact Nat.le_trans (tot_take_le S5 (j + 1)) HK5.out.small
              have hrd := (Tum.Own.mods HO6.out HM7.out fun _ _ e => e).rd
              obtain ⟨b1, o1, rfl, _, x0, x1, x2, x3, x4⟩ := hrd.cnt HLl.out hx
              obtain ⟨bb, hbb⟩ : ∃ bb : Bool, bb = !decide (t ∈ dn5) := ⟨_, rfl⟩
              unfold cntOf at x0 x1 x2 x3 x4
              dsimp only at x0 x1 x2 x3 x4
              rw [← hbb] at x1
              obtain ⟨hn, hhn⟩ : ∃ hn, hn = st.L.length := ⟨_, rfl⟩
              obtain ⟨sn, hsn⟩ : ∃ sn, sn = st.sent := ⟨_, rfl⟩
              obtain ⟨dd, hdd⟩ : ∃ dd, dd = st.dropped := ⟨_, rfl⟩
              unfold sz at hszl
              rw [← hhn] at x2 hhd hszl
              rw [← hsn] at x3 hszl
              rw [← hdd] at x4 hszl
              have hb8 := HBX.out.mods HW.out fun e => e
              have d0 := hb8.at_ 0 rfl
              have d3 := hb8.at_ 3 rfl
              have dl := hb8.lt
              have hidx := fun w' (h : Mods No (w.alloc (.cells #[.slice An nodes.length cn, .int .i64 (C : Int), .int .i64 (R : Int), .int .i64 (H : Int), .bool nw] 26)) w') => index_K w' (fun g => g < w'.heap.size) (.slice An nodes.length cn) nodes t (HRN.out.keep (HM0.out.trans h fun _ _ e => e))
              have htm : t ∈ nodes := (nodesOf_mem nodes t).1 (List.mem_of_getElem? ht)
              have HS := Lib.hid (And.intro hst (And.intro hhn (And.intro hsn hdd)))
              have HTM := Lib.hid htm
              have HT := Lib.hid ht
              clear hx hst hhn hsn hdd htm hb8 hbb ht
              obtain ⟨z, hz⟩ : ∃ z, z = idxV nodes t := ⟨_, rfl⟩
              rw [← hz] at hidx
              have hz0 : 0 ≤ z := hz ▸ idxV_in HTM.out
              have hz' : decide (z < 0) = false := decide_eq_false (by omega)
              clear hz
              have Hhidx := Lib.hid hidx
              clear hidx
              have Hhrd := Lib.hid hrd
              clear hrd
              unfold ks at x0 Hhidx
              have hH' : decide (H < hn) = false := decide_eq_false (by omega)
              rcases j with _ | j
              · simp only [Nat.zero_mul, Nat.add_zero] at x0 x1 x2 x3 x4
                go_wp2
                have g1 : decide ((hn : Int) < 0) = false := decide_eq_false (by omega)
                have g2 : decide ((sn : Int) < 0) = false := decide_eq_false (by omega)
                have g3 : decide ((dd : Int) < 0) = false := decide_eq_false (by omega)
                go_quiet (exact ret_quiet (Hhidx.out _ (HW.out.drewN _)) ⟨_, rfl⟩)
                go_wp2_with (first | ((with_reducible refine wp_region_por ?_ ?_ ?_ ?_); kernel_rfl; kernel_rfl; (with_reducible repeat (first | exact calm_ret | refine calm_then ?_ | refine calm_in ?_ | refine calm_chk ?_ | refine calm_noGoto ?_))) | ((with_reducible refine chk_end ?_ ?_); kernel_rfl))
                go_roundg (gk - 1)
                case rel => exact ⟨_, a + (hn + sn + dd), b + sn, by go_num, by go_num, by go_num, h2, by have := Hkj.out; omega, by rw [Hab7.out.1, take_nx HS.out.1, tot_snoc, HS.out.2.1, HS.out.2.2.1, HS.out.2.2.2]; rfl, by rw [Hab7.out.2, take_nx HS.out.1, snt_snoc, HS.out.2.2.1], by have := HM7.out; repeat (first | exact this | apply Mods.drew | apply Mods.drewN)⟩
                case measure => have := Hkj.out; omega
              · obtain ⟨t', ht'⟩ := lt_get (show j < (nodesOf nodes).length by rw [nodesOf_len]; omega)
                obtain ⟨st', hst'⟩ := lt_get (show j < S5.length by rw [HI5.out.len, nodesOf_len]; omega)
                have hx' : L[j]? = some (cntOf dn5 t' st') := by rw [HL.out]; unfold countsV; rw [List.getElem?_zipWith, ht', hst']
                obtain ⟨_, _, e8, _, y0, _⟩ := Hhrd.out.cnt HLl.out hx'
                injection e8 with e8
                injection e8 with e8 e9
                subst e8 e9
                have hbl : Op.bytesLess t' t = true := by
                  rw [bytesLess_lt]
                  obtain ⟨k1, e1⟩ := List.getElem?_eq_some_iff.1 ht'
                  obtain ⟨k2, e2⟩ := List.getElem?_eq_some_iff.1 HT.out
                  rw [← e1, ← e2]
                  exact List.pairwise_iff_getElem.1 HST.out j (j + 1) k1 k2 (Nat.lt_succ_self _)
                unfold cntOf at y0
                dsimp only at y0
                unfold ks at y0
                clear ht' hst' hx'
                have g1 : decide ((hn : Int) < 0) = false := decide_eq_false (by omega)
                have g2 : decide ((sn : Int) < 0) = false := decide_eq_false (by omega)
                have g3 : decide ((dd : Int) < 0) = false := decide_eq_false (by omega)
                have g4 : decide (0 < j + 1) = true := decide_eq_true (by omega)
                go_wp2
                go_quiet (exact ret_quiet (Hhidx.out _ (HW.out.drewN _)) ⟨_, rfl⟩)
                go_wp2_with (first | ((with_reducible refine wp_region_por ?_ ?_ ?_ ?_); kernel_rfl; kernel_rfl; (with_reducible repeat (first | exact calm_ret | refine calm_then ?_ | refine calm_in ?_ | refine calm_chk ?_ | refine calm_noGoto ?_))) | ((with_reducible refine chk_end ?_ ?_); kernel_rfl))
                go_roundg (gk - 1)
                case rel => exact ⟨_, a + (hn + sn + dd), b + sn, by go_num, by go_num, by go_num, h2, by have := Hkj.out; omega, by rw [Hab7.out.1, take_nx HS.out.1, tot_snoc, HS.out.2.1, HS.out.2.2.1, HS.out.2.2.2]; rfl, by rw [Hab7.out.2, take_nx HS.out.1, snt_snoc, HS.out.2.2.1], by have := HM7.out; repeat (first | exact this | apply Mods.drew | apply Mods.drewN)⟩
                case measure => have := Hkj.out; omega
            · obtain rfl : j = nodes.length := by omega
              obtain rfl : a = a5 := by rw [Hab7.out.1, Hab5.out.1, List.take_of_length_le (by rw [HI5.out.len, nodesOf_len]; exact Nat.le_refl _)]
              obtain rfl : b = b5 := by rw [Hab7.out.2, Hab5.out.2, List.take_of_length_le (by rw [HI5.out.len, nodesOf_len]; exact Nat.le_refl _)]
              go_wp2_with (first | ((with_reducible refine wp_region_por ?_ ?_ ?_ ?_); kernel_rfl; kernel_rfl; (with_reducible repeat (first | exact calm_ret | refine calm_then ?_ | refine calm_in ?_ | refine calm_chk ?_ | refine calm_noGoto ?_))) | ((with_reducible refine chk_end ?_ ?_); kernel_rfl))
              go_roundg (K2 - 1)
              case rel => exact ⟨i + 1, _, _, S5, dn5, rfl, rfl, by go_num, h1, by have := Hki.out; have := HK2g.out; omega, Hab5.out.1, Hab5.out.2, HK5.out.no (HM6.out.trans HM7.out fun _ _ e => e)⟩
              case measure => have := Hki.out; have := HK2g.out; omega
      · obtain rfl : i = sc.length := by omega
        go_wp2_with (first | (go_at_call 12; (refine ret_use (Hhal.out _ Hin.out.hm) ?_; rintro v w4 ⟨rfl, hm4⟩; have HM4 := Lib.hid hm4; clear hm4)) | ((with_reducible refine wp_region_por ?_ ?_ ?_ ?_); kernel_rfl; kernel_rfl; (with_reducible repeat (first | exact calm_ret | refine calm_then ?_ | refine calm_in ?_ | refine calm_chk ?_ | refine calm_noGoto ?_))) | ((with_reducible refine chk_end ?_ ?_); kernel_rfl))
        go_ret
        exact ⟨rfl, HM0.out.trans (Hin.out.hm.trans HM4.out fun _ _ e => e) fun _ _ e => e⟩
  · have he1 : (e != 0) = true := bne_iff_ne.2 h0
    have hbad := fun w' v (h : RelNew (w.alloc (.cells #[.slice An nodes.length cn, .int .i64 C, .int .i64 R, .int .i64 H, .bool nw] 26)) w' nodes C R H nw v) => relnew_bad h he h0
    have Hhrn := Lib.hid hrn2
    clear he h0 hbx hM0 hrn2 hr hrn hp
    have Hht := Lib.hid ht
    clear ht
    have Hhnn := Lib.hid hnn
    clear hnn
    have Hhal := Lib.hid hal
    clear hal
    have Hhbad := Lib.hid hbad
    clear hbad
    go_enter Tryd.func8, Tryd.ntmps8
    go_wp2_with (first | (go_at_call 10; (refine ret_use (Hhnn.out) ?_; rintro v w2 hn2; obtain ⟨rfl, hm2⟩ := Hhbad.out _ _ hn2; have HM2 := Lib.hid hm2; have hb2 := HBX.out.mods hm2 fun e => e; have d0 := hb2.at_ 0 rfl; have d1 := hb2.at_ 1 rfl; have d2 := hb2.at_ 2 rfl; have d3 := hb2.at_ 3 rfl; have d4 := hb2.at_ 4 rfl; have dl := hb2.lt; clear hn2 hm2 hb2)) | (go_at_call 11; (refine ret_use (Hhrn.out _ HM2.out) ?_; rintro v w3 hn3; obtain ⟨A0, n0, c0, C', R', H', nw', cc, A1, n1, c1, A2, n2, c2, A3, n3, c3, rfl, hm3, -⟩ := hn3; have HM3 := Lib.hid hm3; clear hm3)) | (go_at_call 12; (refine ret_use (Hhal.out _ (HM2.out.trans (HM3.out.alloc _) fun _ _ e => e)) ?_; rintro v w4 ⟨rfl, hm4⟩; have HM4 := Lib.hid hm4; clear hm4)) | ((with_reducible refine wp_region_por ?_ ?_ ?_ ?_); kernel_rfl; kernel_rfl; (with_reducible repeat (first | exact calm_ret | refine calm_then ?_ | refine calm_in ?_ | refine calm_chk ?_ | refine calm_noGoto ?_))) | ((with_reducible refine chk_end ?_ ?_); kernel_rfl))
    go_ret
    exact ⟨rfl, HM0.out.trans ((HM2.out.trans (HM3.out.alloc _) fun _ _ e => e).trans HM4.out fun _ _ e => e) fun _ _ e => e⟩
end Go.Proofs.YtcifajfmdpjfiaaDoor
