/- The law SinkPieces, walked. -/
import Derived.Test.YtmfpgghpnkmkpaaDoorSinkZ
namespace Go.Proofs.YtmfpgghpnkmkpaaDoor
open Go.RowKit Go.Tum
theorem allb_len : ∀ (l : List (List UInt8)), (allb l).length ≤ (l.map fun b => b.length + 1).sum
  | [] => by simp [allb]
  | b :: r => by
    have := allb_len r
    simp only [allb, List.flatten_cons, List.length_append, List.map_cons, List.sum_cons] at this ⊢
    omega
theorem full_le (l : List (List UInt8)) : full l ≤ l.length := by
  suffices h : ∀ (r : List (List UInt8)) n, r.foldl (fun n b => if 0 < b.length then n + 1 else n) n ≤ n + r.length from by simpa [full] using h l 0
  intro r
  induction r with
  | nil => intro n; simp
  | cons b r ih =>
    intro n
    have := ih (if 0 < b.length then n + 1 else n)
    simp only [List.foldl_cons, List.length_cons]
    have h2 : (if 0 < b.length then n + 1 else n) ≤ n + 1 := by split <;> omega
    omega
theorem take_sum (l : List (List UInt8)) (i : Nat) : ((l.take i).map fun b => b.length + 1).sum ≤ (l.map fun b => b.length + 1).sum := by
  have h : l.map (fun x => x.length + 1) = (l.take i).map (fun x => x.length + 1) ++ (l.drop i).map (fun x => x.length + 1) := by rw [← List.map_append, List.take_append_drop]
  rw [h, List.sum_append]
  exact Nat.le_add_right _ _
theorem bytes_cat (a b : List UInt8) : (ByteArray.mk a.toArray ++ ByteArray.mk b.toArray) = ByteArray.mk (a ++ b).toArray := by
  apply ByteArray.ext
  simp [ByteArray.data_append]
theorem allb_snoc (l : List (List UInt8)) (b : List UInt8) : allb (l ++ [b]) = allb l ++ b := by simp [allb]
theorem planCells_snoc (p : Plan) (c : Int) (f : Bool) : planCells (p ++ [(c, f)]) = planCells p ++ [.int .i64 c, .bool f] := by simp [planCells]
set_option maxHeartbeats 6400000 in
set_option maxRecDepth 100000 in
theorem sinkPieces_K (w : World) (ea : Addr) (hg : w.cell? ⟨0, 0, none⟩ = some (.iface 94 (.pointer (some ea)))) (cv lv : Value) (cs : List Int) (L : List (Value × List UInt8))
    (hc : Rd w (OldOf w) 1 cv cs.length (cs.map fun n => .int .i64 n)) (hl : Rd w (OldOf w) 1 lv L.length (L.map (·.1))) (hr : ∀ a ∈ L, Rd w (OldOf w) 1 a.1 a.2.length (vbs a.2))
    (nc : cs.length ≤ 1048576) (nl : L.length ≤ 1048576) (nw : (L.map fun a => a.2.length + 1).sum ≤ 1048576) :
    Calls Tryd.prog 7 #[cv, lv] w (Ret fun v w' => v = .bool true ∧ Mods No w w') := by
  obtain ⟨Ap, cp, rfl, _, _⟩ := hc.form
  obtain ⟨Al, cl, rfl, _, _⟩ := hl.form
  have lg := World.block_lt_of_cell? w _ hg
  have hgk : ∀ W, Mods No w W → W.cell? ⟨0, 0, none⟩ = some (.iface 94 (.pointer (some ea))) := fun W hm => (World.cell?_of_block (a := ⟨0, 0, none⟩) (hm.block _ lg fun e => e)).trans hg
  have Hhgk := Lib.hid hgk
  clear hgk
  have Hhg := Lib.hid hg
  clear hg
  have Hhc := Lib.hid hc
  clear hc
  have Hhl := Lib.hid hl
  clear hl
  have Hhr := Lib.hid hr
  clear hr
  have Hnw := Lib.hid nw
  clear nw
  go_enter Tryd.func7, Tryd.ntmps7
  go_wp2_with (first | ((with_reducible refine wp_region_por ?_ ?_ ?_ ?_); kernel_rfl; kernel_rfl; (with_reducible repeat (first | exact calm_ret | refine calm_then ?_ | refine calm_in ?_ | refine calm_chk ?_ | refine calm_noGoto ?_))) | ((with_reducible refine chk_end ?_ ?_); kernel_rfl))
  go_loopg [5, 6] (cs.length + 1) (fun k v5 v6 wr => ∃ i, v6 = .int .i64 (i : Nat) ∧ k + i = cs.length + 1 ∧ i ≤ cs.length ∧ Own wr (fun g => w.heap.size ≤ g) 60 2 v5 i (planCells ((cs.take i).map fun c => (max c 1, false))) ∧ Mods No w wr)
  case atStart => exact ⟨0, rfl, rfl, Nat.zero_le _, Own.nil _ _ _ _, Mods.refl _ _⟩
  case round =>
    obtain ⟨i, rfl, hk, hi, hown, hm0⟩ := hrel
    rcases Nat.lt_or_ge i cs.length with hlt | hge
    · have hlt' : decide (i < cs.length) = true := decide_eq_true hlt
      obtain ⟨c, hci⟩ : ∃ c, cs[i]? = some c := ⟨_, List.getElem?_eq_getElem hlt⟩
      obtain ⟨g0, o0, y0, e0, hg0, hx⟩ := (Hhc.out.old hm0).at1 (i := i) hlt
      injection e0 with e0 _ e0'
      subst e0 e0'
      have x0 : wr.cell? ⟨g0, o0 + i, none⟩ = some (.int .i64 c) := by rw [hx]; simp [hci]
      obtain ⟨B5, y5, rfl, _, _⟩ := hown.form
      have hni : i ≤ 1000000000 := by omega
      have Hown := Lib.hid hown
      have HM := Lib.hid hm0
      clear hx hown hm0
      have Hhci := Lib.hid hci
      clear hci
      go_wp2_with (first | (at_builtin; go_loud (refine wpList_append _ rfl (.tmp 20) (.tmp 27) 22 rfl 60 (.agg #[.int .i64 0, .bool false]) 2 16 Tryd.underlying22 infoChoice rfl (by decide) (F := fun g => (Value.slice B5 i y5).ownBlock = some g) (n := i) (xs := planCells ((cs.take i).map fun c => (max c 1, false))) (by rfl) (Hown.out.tight.same (Same.alloc wr _ fun k hk => Hown.out.lt k hk)) (G := fun g => g = wr.heap.size) (y := .slice (some ⟨wr.heap.size, 0, none⟩) 1 1) (m := 1) (news := [.int .i64 (max c 1), .bool false]) (by rfl) ?c1 (two_one rfl rfl) (by omega) (by decide) ?c4)) | ((with_reducible refine wp_region_por ?_ ?_ ?_ ?_); kernel_rfl; kernel_rfl; (with_reducible repeat (first | exact calm_ret | refine calm_then ?_ | refine calm_in ?_ | refine calm_chk ?_ | refine calm_noGoto ?_))) | ((with_reducible refine chk_end ?_ ?_); kernel_rfl))
      case c1.inl => rw [show max c 1 = 1 by omega]; exact Rd.box _ #[.int .i64 1, .bool false] _ (by simp) rfl (by decide)
      case c1.inr => rw [show max c 1 = c by omega]; exact Rd.box _ #[.int .i64 c, .bool false] _ (by simp) rfl (by decide)
      case c4.inl =>
        intro v1 w5 hown hmod hlt5
        have hM := HM.out.size
        have hO : Own w5 (fun g => w.heap.size ≤ g) 60 2 v1 (i + 1) (planCells ((cs.take (i + 1)).map fun c => (max c 1, false))) := by
          refine ⟨?_, fun g hg => ?_⟩
          · rw [List.take_add_one, Hhci.out, Option.toList_some, List.map_append, List.map_singleton, planCells_snoc, List.map_take]
            exact hown.1
          · rcases hown.2 g hg with e | e
            · exact Hown.out.2 g e
            · omega
        have hM5 := mods_new (HM.out.alloc _) hmod (fun g hg e => by have := Hown.out.2 g e; omega)
        clear hown hmod hlt5
        have HhO := Lib.hid hO
        clear hO
        have HhM5 := Lib.hid hM5
        clear hM5
        go_wp2_with (first | ((with_reducible refine wp_region_por ?_ ?_ ?_ ?_); kernel_rfl; kernel_rfl; (with_reducible repeat (first | exact calm_ret | refine calm_then ?_ | refine calm_in ?_ | refine calm_chk ?_ | refine calm_noGoto ?_))) | ((with_reducible refine chk_end ?_ ?_); kernel_rfl))
        go_roundg (cs.length - i)
        case rel => exact ⟨i + 1, by go_num, by omega, by omega, HhO.out, HhM5.out⟩
        case measure => omega
      case c4.inr =>
        intro v1 w5 hown hmod hlt5
        have hM := HM.out.size
        have hO : Own w5 (fun g => w.heap.size ≤ g) 60 2 v1 (i + 1) (planCells ((cs.take (i + 1)).map fun c => (max c 1, false))) := by
          refine ⟨?_, fun g hg => ?_⟩
          · rw [List.take_add_one, Hhci.out, Option.toList_some, List.map_append, List.map_singleton, planCells_snoc, List.map_take]
            exact hown.1
          · rcases hown.2 g hg with e | e
            · exact Hown.out.2 g e
            · omega
        have hM5 := mods_new (HM.out.alloc _) hmod (fun g hg e => by have := Hown.out.2 g e; omega)
        clear hown hmod hlt5
        have HhO := Lib.hid hO
        clear hO
        have HhM5 := Lib.hid hM5
        clear hM5
        go_wp2_with (first | ((with_reducible refine wp_region_por ?_ ?_ ?_ ?_); kernel_rfl; kernel_rfl; (with_reducible repeat (first | exact calm_ret | refine calm_then ?_ | refine calm_in ?_ | refine calm_chk ?_ | refine calm_noGoto ?_))) | ((with_reducible refine chk_end ?_ ?_); kernel_rfl))
        go_roundg (cs.length - i)
        case rel => exact ⟨i + 1, by go_num, by omega, by omega, HhO.out, HhM5.out⟩
        case measure => omega
    · have hlt' : decide (i < cs.length) = false := decide_eq_false (by omega)
      obtain rfl : i = cs.length := by omega
      rw [List.take_length] at hown
      obtain ⟨B5, y5, rfl, _, _⟩ := hown.form
      have hkd := kind_counts cs
      generalize hplan : (cs.map fun c => (max c 1, false)) = plan at hown hkd
      have hpn : plan.length = cs.length := by rw [← hplan]; simp
      have hpr : Rd wr (OldOf wr) 2 (.slice B5 cs.length y5) plan.length (planCells plan) := by rw [hpn]; exact Rd.of_own hown.1 fun g hg => hown.lt g hg
      have hlr := Hhl.out.old hm0
      have hrr := fun a ha => (Hhr.out a ha).old hm0
      have hup : ∀ {size n : Nat} {v : Value} {xs : List Value}, Rd wr (OldOf w) size v n xs → ∀ W, Mods No wr W → Rd W (OldOf W) size v n xs := fun hx W hm => (hx.same (hm.same fun g hg => ⟨Nat.lt_of_lt_of_le hg hm0.size, fun e => e⟩)).more fun g hg => Nat.lt_of_lt_of_le (Nat.lt_of_lt_of_le hg hm0.size) hm.size
      have h1 := played_K wr ea (Hhgk.out _ hm0) (.slice B5 cs.length y5) (.slice Al L.length cl) plan L _ hpr (hup hlr wr (Mods.refl _ _)) (fun a ha => hup (hrr a ha) wr (Mods.refl _ _)) (by omega) nl Hnw.out rfl
      have h2 := fun W (hm : Mods No wr W) => played_K W ea (Hhgk.out _ (hm0.trans hm fun _ _ e => e)) (.slice none 0 0) (.slice Al L.length cl) [] L _ (Rd.nil _ _ _) (hup hlr W hm) (fun a ha => hup (hrr a ha) W hm) (by simp) nl Hnw.out rfl
      obtain ⟨q1, _⟩ := pieces hkd (L.map (·.2)) L.length (by simp)
      obtain ⟨q2, q3⟩ := pieces kind_nil (L.map (·.2)) L.length (by simp)
      have q3 := q3 rfl
      have hlen : (L.map (·.2)).take L.length = L.map (·.2) := List.take_of_length_le (by simp)
      rw [hlen] at q3
      generalize hsd : after plan (L.map (·.2)) L.length = sd at h1 q1
      generalize hsx : after [] (L.map (·.2)) L.length = sx at h2 q2 q3
      have HM := Lib.hid hm0
      have Hown := Lib.hid hown
      clear hm0 hlr hown hup
      have Hhpr := Lib.hid hpr
      clear hpr
      have Hhrr := Lib.hid hrr
      clear hrr
      have Hh1 := Lib.hid h1
      clear h1
      have Hh2 := Lib.hid h2
      clear h2
      have Hq1 := Lib.hid q1
      clear q1
      have Hq2 := Lib.hid q2
      clear q2
      have Hq3 := Lib.hid q3
      clear q3
      have Hhsd := Lib.hid hsd
      clear hsd
      have Hhsx := Lib.hid hsx
      clear hsx
      have Hhkd := Lib.hid hkd
      clear hkd
      have Hhplan := Lib.hid hplan
      clear hplan
      have Hhpn := Lib.hid hpn
      clear hpn
      have Hhlen := Lib.hid hlen
      clear hlen
      go_wp2_with (first | (go_at_call 17; (fail_if_success have := HP); go_loud (refine ret_use (Hh1.out) ?_; rintro v w1 ⟨Ac, cc, Aw, cw, A3, c3, bvs, rfl, hrep, hm⟩; have Hrep := Lib.hid hrep; have HM1 := Lib.hid hm; have HP := Lib.hid True.intro; clear hrep hm)) | (go_at_call 17; go_loud (refine ret_use (Hh2.out _ (by repeat (first | exact HM1.out | apply Mods.drew | apply Mods.alloc))) ?_; rintro v w2 ⟨Bc, dc, Bw, dw, B3, d3, bvx, rfl, hrep, hm⟩; have Hrex := Lib.hid hrep; have HM2 := Lib.hid hm; clear hrep hm)) | ((with_reducible refine wp_region_por ?_ ?_ ?_ ?_); kernel_rfl; kernel_rfl; (with_reducible repeat (first | exact calm_ret | refine calm_then ?_ | refine calm_in ?_ | refine calm_chk ?_ | refine calm_noGoto ?_))) | ((with_reducible refine chk_end ?_ ?_); kernel_rfl))
      have hm1 := HM1.out.alloc (.cells #[.slice Ac sd.conns.length cc, .slice Aw sd.whole.length cw, .slice A3 sd.lost.length c3, .int .i64 sd.writes] 38)
      have hm2 := HM2.out.alloc (.cells #[.slice Bc sx.conns.length dc, .slice Bw sx.whole.length dw, .slice B3 sx.lost.length d3, .int .i64 sx.writes] 38)
      have k1 := ((Cells.new w1 38 #[.slice Ac sd.conns.length cc, .slice Aw sd.whole.length cw, .slice A3 sd.lost.length c3, .int .i64 sd.writes]).mods HM2.out (fun e => e)).alloc (.cells #[.slice Bc sx.conns.length dc, .slice Bw sx.whole.length dw, .slice B3 sx.lost.length d3, .int .i64 sx.writes] 38)
      have k2 := Cells.new w2 38 #[.slice Bc sx.conns.length dc, .slice Bw sx.whole.length dw, .slice B3 sx.lost.length d3, .int .i64 sx.writes]
      have z1 : (w1.alloc (.cells #[.slice Ac sd.conns.length cc, .slice Aw sd.whole.length cw, .slice A3 sd.lost.length c3, .int .i64 sd.writes] 38)).heap.size = w1.heap.size + 1 := by simp
      have z2 := HM2.out.size
      have z3 := HM1.out.size
      have r1 := (((Hrep.out.keep (fun gg hg => hg.2) ((Mods.refl No w1).alloc (.cells #[.slice Ac sd.conns.length cc, .slice Aw sd.whole.length cw, .slice A3 sd.lost.length c3, .int .i64 sd.writes] 38))).keep (fun gg hg => by rw [z1]; have := hg.2; omega) HM2.out).keep (fun gg hg => by have := hg.2; omega) ((Mods.refl No w2).alloc (.cells #[.slice Bc sx.conns.length dc, .slice Bw sx.whole.length dw, .slice B3 sx.lost.length d3, .int .i64 sx.writes] 38))).more (G := fun g => g < w2.heap.size ∧ g ≠ w1.heap.size) (fun gg hg => ⟨by have := hg.2; omega, by have := hg.2; omega⟩)
      have r2 := (Hrex.out.keep (fun gg hg => hg.2) ((Mods.refl No w2).alloc (.cells #[.slice Bc sx.conns.length dc, .slice Bw sx.whole.length dw, .slice B3 sx.lost.length d3, .int .i64 sx.writes] 38))).more (G := fun g => g < w2.heap.size ∧ g ≠ w1.heap.size) (fun gg hg => ⟨hg.2, by have := hg.1; omega⟩)
      have mx : Mods No w (w2.alloc (.cells #[.slice Bc sx.conns.length dc, .slice Bw sx.whole.length dw, .slice B3 sx.lost.length d3, .int .i64 sx.writes] 38)) := (HM.out.trans hm1 fun _ _ e => e).trans hm2 fun _ _ e => e
      have hz3 : (w2.alloc (.cells #[.slice Bc sx.conns.length dc, .slice Bw sx.whole.length dw, .slice B3 sx.lost.length d3, .int .i64 sx.writes] 38)).heap.size = w2.heap.size + 1 := by simp
      have hk12 : w1.heap.size < w2.heap.size := by omega
      have hw1 : w.heap.size ≤ w1.heap.size := Nat.le_trans HM.out.size z3
      generalize hW3 : w2.alloc (.cells #[.slice Bc sx.conns.length dc, .slice Bw sx.whole.length dw, .slice B3 sx.lost.length d3, .int .i64 sx.writes] 38) = W3 at k1 k2 r1 r2 mx hz3 ⊢
      generalize hkd1 : w1.heap.size = kd1 at k1 r1 r2 hk12 hw1 ⊢
      generalize hkd2 : w2.heap.size = kd2 at k2 r1 r2 hz3 hk12 ⊢
      have hold := fun W' (hm : Mods No W3 W') => Hhl.out.old (mx.trans hm fun _ _ e => e)
      have hrold := fun a ha W' (hm : Mods No W3 W') => (Hhr.out a ha).old (mx.trans hm fun _ _ e => e)
      clear hm1 hm2 z1 z2 z3
      have Hk1 := Lib.hid k1
      clear k1
      have Hk2 := Lib.hid k2
      clear k2
      have Hr1 := Lib.hid r1
      clear r1
      have Hr2 := Lib.hid r2
      clear r2
      have Hmx := Lib.hid mx
      clear mx
      have Hhz3 := Lib.hid hz3
      clear hz3
      have Hhk12 := Lib.hid hk12
      clear hk12
      have Hhw1 := Lib.hid hw1
      clear hw1
      have Hhold := Lib.hid hold
      clear hold
      have Hhrold := Lib.hid hrold
      clear hrold
      have HhW3 := Lib.hid hW3
      clear hW3
      have Hhkd1 := Lib.hid hkd1
      clear hkd1
      have Hhkd2 := Lib.hid hkd2
      clear hkd2
      go_loopg [11, 12, 13] (L.length + 1) (fun k v11 v12 v13 wx => ∃ i, v11 = .string ⟨(allb ((L.map (·.2)).take i)).toArray⟩ ∧ v12 = .int .i64 (full ((L.map (·.2)).take i) : Nat) ∧ v13 = .int .i64 (i : Nat) ∧ k + i = L.length + 1 ∧ i ≤ L.length ∧ Mods No W3 wx)
      case atStart => exact ⟨0, rfl, rfl, rfl, rfl, Nat.zero_le _, Mods.refl _ _⟩
      case round =>
        obtain ⟨i, rfl, rfl, rfl, hk, hi, hm0⟩ := hrel
        rcases Nat.lt_or_ge i L.length with hlt | hge
        · have hlt' : decide (i < L.length) = true := decide_eq_true hlt
          obtain ⟨⟨bv, b⟩, ha⟩ : ∃ a, L[i]? = some a := ⟨_, List.getElem?_eq_getElem hlt⟩
          obtain ⟨g0, o0, y0, e0, hg0, hx⟩ := (Hhold.out _ hm0).at1 (i := i) hlt
          injection e0 with e0 _ e0'
          subst e0 e0'
          have x0 : wr.cell? ⟨g0, o0 + i, none⟩ = some bv := by rw [hx]; simp [ha]
          have hb := Hhrold.out _ (List.mem_of_getElem? ha) _ hm0
          dsimp only at hb
          obtain ⟨Ab, cb, rfl, _, _⟩ := hb.form
          have hai : (L.map (·.2))[i]? = some b := by simp [ha]
          have e1 : (L.map (·.2)).take (i + 1) = (L.map (·.2)).take i ++ [b] := by rw [List.take_add_one, hai]; rfl
          have hcv := run_convert_rd (P := Tryd.prog) _ 30 9 5 Tryd.underlying30 Tryd.underlying5 Tryd.underlying9 hb
          have Ha := Lib.hid ha
          have HM4 := Lib.hid hm0
          clear hx ha hm0
          have Hhb := Lib.hid hb
          clear hb
          have Hhai := Lib.hid hai
          clear hai
          have He1 := Lib.hid e1
          clear e1
          have hnw : ((L.map (·.2)).map fun b => b.length + 1).sum ≤ 1048576 := by rw [List.map_map]; exact Hnw.out
          have hab := Nat.le_trans (allb_len ((L.map (·.2)).take i)) (Nat.le_trans (take_sum _ i) hnw)
          have hbl : b.length + 1 ≤ 1048576 := Nat.le_trans (sum_mem (List.mem_map.2 ⟨b, List.mem_of_getElem? Hhai.out, rfl⟩)) hnw
          have hfu := full_le ((L.map (·.2)).take i)
          rw [List.length_take, List.length_map] at hfu
          have ea := allb_snoc ((L.map (·.2)).take i) b
          have ef := full_snoc ((L.map (·.2)).take i) b
          rw [← He1.out] at ea ef
          generalize allb ((L.map (·.2)).take i) = ab at hab ea ⊢
          generalize full ((L.map (·.2)).take i) = nf at hfu ef ⊢
          have hfl : nf ≤ 1048576 := by omega
          have hcat : ab.length + b.length ≤ 9223372036854775807 := by omega
          clear hnw hfu
          have Hea := Lib.hid ea
          clear ea
          have Hef := Lib.hid ef
          clear ef
          by_cases hz : 0 < b.length
          · have hz' : decide (0 < b.length) = true := decide_eq_true hz
            go_wp2_with (first | ((with_reducible refine wp_region_por ?_ ?_ ?_ ?_); kernel_rfl; kernel_rfl; (with_reducible repeat (first | exact calm_ret | refine calm_then ?_ | refine calm_in ?_ | refine calm_chk ?_ | refine calm_noGoto ?_))) | ((with_reducible refine chk_end ?_ ?_); kernel_rfl))
            go_roundg (L.length - i)
            case rel => exact ⟨i + 1, by rw [Hea.out, bytes_cat], by rw [Hef.out, if_pos hz]; go_num, by go_num, by omega, by omega, by repeat (first | exact HM4.out | apply Mods.drew)⟩
            case measure => omega
          · have hz' : decide (0 < b.length) = false := decide_eq_false hz
            go_wp2_with (first | ((with_reducible refine wp_region_por ?_ ?_ ?_ ?_); kernel_rfl; kernel_rfl; (with_reducible repeat (first | exact calm_ret | refine calm_then ?_ | refine calm_in ?_ | refine calm_chk ?_ | refine calm_noGoto ?_))) | ((with_reducible refine chk_end ?_ ?_); kernel_rfl))
            go_roundg (L.length - i)
            case rel => exact ⟨i + 1, by rw [Hea.out, bytes_cat], by rw [Hef.out, if_neg hz], by go_num, by omega, by omega, by repeat (first | exact HM4.out | apply Mods.drew)⟩
            case measure => omega
        · have hlt' : decide (i < L.length) = false := decide_eq_false (by omega)
          obtain rfl : i = L.length := by omega
          have p1 := Hq1.out
          have p2 := Hq2.out
          have p3 := Hq3.out
          have c1 := p1.conns
          have c2 := p2.conns
          have w1' := p1.writes
          rw [Hhlen.out] at c1 c2 w1'
          rw [Hhlen.out]
          have hec : sd.conns = sx.conns := c1.trans c2.symm
          have hew : sd.whole = sx.whole := p1.whole.trans p2.whole.symm
          have hel : sd.lost = sx.lost := p1.lost.trans p2.lost.symm
          have hlo : sx.lost.length = 0 := by rw [p2.lost]; rfl
          have hnx : sx.writes = full (L.map (·.2)) := p3
          have hab := Nat.le_trans (allb_len (L.map (·.2))) (by rw [List.map_map]; exact Hnw.out)
          have hfu := full_le (L.map (·.2))
          rw [List.length_map] at hfu
          have hful := @full_zero (L.map (·.2))
          generalize full (L.map (·.2)) = nf at c1 c2 w1' hnx hfu hful ⊢
          generalize allb (L.map (·.2)) = ab at c1 c2 hab hful ⊢
          have hsame : sameRep { sd with writes := sx.writes } sx = true := by unfold sameRep; exact decide_eq_true ⟨rfl, hec, hew, hel⟩
          have hlt1 : decide (sd.writes < sx.writes) = false := decide_eq_false (by omega)
          have hne1 : ((sx.writes : Int) != nf) = false := by rw [hnx]; simp
          have hlo1 : ((sx.lost.length : Int) != 0) = false := by rw [hlo]; rfl
          obtain ⟨b1, b2, b3⟩ : sd.conns.length ≤ 1000000000 ∧ sd.whole.length ≤ 1000000000 ∧ sd.lost.length ≤ 1000000000 := by
            refine ⟨?_, ?_, ?_⟩
            · rw [c1]; split <;> simp
            · rw [p1.whole]; simp; omega
            · rw [p1.lost]; simp
          have hk1 := Hk1.out.mods hm0 (fun e => e)
          have hk2 := Hk2.out.mods hm0 (fun e => e)
          have hne12 : kd1 ≠ kd2 := by have := Hhk12.out; omega
          have hne21 : kd2 ≠ kd1 := fun e => hne12 e.symm
          have x0 := hk1.at_ 0 rfl
          have x1 := hk1.at_ 1 rfl
          have x2 := hk1.at_ 2 rfl
          have x3 := hk1.at_ 3 rfl
          have xf := hk1.frozen 3
          have y0 := hk2.at_ 0 rfl
          have y1 := hk2.at_ 1 rfl
          have y2 := hk2.at_ 2 rfl
          have y3 := hk2.at_ 3 rfl
          have hsG : Same (fun g => g < kd2 ∧ g ≠ kd1) W3 (wr.setCell ⟨kd1, 3, none⟩ (.int .i64 sx.writes)) := (hm0.same fun g hg => ⟨by have := Hhz3.out; omega, fun e => e⟩).trans (Same.setCell wr ⟨kd1, 3, none⟩ (.int .i64 sx.writes) fun e => e.2 rfl)
          have s1 := Hr1.out.same hsG
          have s2 := Hr2.out.same hsG
          have s1' : RepRd (wr.setCell ⟨kd1, 3, none⟩ (.int .i64 sx.writes)) (fun g => g < kd2 ∧ g ≠ kd1) { sd with writes := sx.writes } (.slice Ac sd.conns.length cc) (.slice Aw sd.whole.length cw) (.slice A3 sd.lost.length c3) bvs := ⟨s1.len, s1.conns, s1.each, s1.whole, s1.lost⟩
          have hz5 : kd2 < (wr.setCell ⟨kd1, 3, none⟩ (.int .i64 sx.writes)).heap.size := by have := hm0.size; have := Hhz3.out; simp [World.setCell]; omega
          have hm5 : Mods No w (wr.setCell ⟨kd1, 3, none⟩ (.int .i64 sx.writes)) := (Hmx.out.trans hm0 fun _ _ e => e).trans (T := fun g => g = kd1) ((Mods.refl _ _).setCell _ _ fun _ => rfl) fun g hg e => by have := Hhw1.out; omega
          have k25 := hk2.far (p := ⟨kd1, 3, none⟩) hne21 (.int .i64 sx.writes)
          have hcallS := same_eq (wr.setCell ⟨kd1, 3, none⟩ (.int .i64 sx.writes)) _ _ _ _ _ _ _ _ bvs bvx { sd with writes := sx.writes } sx s1' s2 (fun g hg => by have := hg.1; omega) (fun g hg => by have := hg.1; omega) b1 b2 b3
          rw [hsame] at hcallS
          clear p1 p2 p3 c1 hec hew hel hlo hk1 hk2 s1 s1' hsame w1' b1 b2 b3 hm0
          have HhsG := Lib.hid hsG
          clear hsG
          have Hhm5 := Lib.hid hm5
          clear hm5
          have Hk25 := Lib.hid k25
          clear k25
          have HhcallS := Lib.hid hcallS
          clear hcallS
          rcases Nat.eq_zero_or_pos nf with hz | hz
          · have hz' : ((nf : Int) == 0) = true := by simp [hz]
            have hcl : ((sx.conns.length : Int) == 0) = true := by rw [c2, if_pos hz]; rfl
            clear c2 s2 hful hz hnx
            go_wp2_with (first | (go_at_call 14; go_loud (refine ret_use (HhcallS.out) ?_; rintro v w6 ⟨rfl, hm⟩; have HM6 := Lib.hid hm; clear hm; have z0 := (Hk25.out.mods HM6.out (fun e => e)).at_ 0 rfl; have z2 := (Hk25.out.mods HM6.out (fun e => e)).at_ 2 rfl)) | ((with_reducible refine wp_region_por ?_ ?_ ?_ ?_); kernel_rfl; kernel_rfl; (with_reducible repeat (first | exact calm_ret | refine calm_then ?_ | refine calm_in ?_ | refine calm_chk ?_ | refine calm_noGoto ?_))) | ((with_reducible refine chk_end ?_ ?_); kernel_rfl))
            go_ret
            exact ⟨rfl, Hhm5.out.trans HM6.out (fun _ _ e => e)⟩
          · have hz' : ((nf : Int) == 0) = false := by rw [beq_eq_false_iff_ne]; omega
            have hz1 : decide (0 < nf) = true := decide_eq_true hz
            have hcc : sx.conns = [⟨ab, false⟩] := by rw [c2, if_neg (by omega)]
            have hl1 : sx.conns.length = 1 := by rw [hcc]; rfl
            have hcl : ((sx.conns.length : Int) == 1) = true := by rw [hl1]; rfl
            have hcl0 : ((sx.conns.length : Int) == 0) = false := by rw [hl1]; rfl
            have hcp : decide (0 < sx.conns.length) = true := by rw [hl1]; rfl
            have hpos : 0 < sx.conns.length := by omega
            have hx : sx.conns[0]? = some ⟨ab, false⟩ := by rw [hcc]; rfl
            obtain ⟨bv, hbv⟩ : ∃ bv, bvx[0]? = some bv := ⟨_, List.getElem?_eq_getElem (by rw [s2.len, hl1]; decide)⟩
            obtain ⟨gB, oB, yB, eB, hgB, hB⟩ := s2.conns.cells (by omega)
            have hbr := s2.each 0 bv _ hbv hx
            obtain ⟨A9, c9, rfl, _, _⟩ := hbr.form
            dsimp only at hbr
            injection eB with eB _ eB'
            subst eB eB'
            have e0 := hB 0 (by omega)
            have e1 := hB 1 (by omega)
            have hcc0 := conCells_at bvx sx.conns 0 _ _ hbv hx
            rw [hcc0.1] at e0
            rw [hcc0.2] at e1
            clear c2 s2 hful hB hcc0 hcc hl1 hx hbv hnx
            have He0 := Lib.hid e0
            clear e0
            have He1 := Lib.hid e1
            clear e1
            have Hhbr := Lib.hid hbr
            clear hbr
            go_wp2_with (first | (go_at_call 14; go_loud (refine ret_use (HhcallS.out) ?_; rintro v w6 ⟨rfl, hm⟩; have HM6 := Lib.hid hm; clear hm; have z0 := (Hk25.out.mods HM6.out (fun e => e)).at_ 0 rfl; have z2 := (Hk25.out.mods HM6.out (fun e => e)).at_ 2 rfl; have g0 := (World.cell?_of_block (a := ⟨gB, oB, none⟩) (HM6.out.block gB (by omega) (fun e => e))).trans He0.out; have g1 := (World.cell?_of_block (a := ⟨gB, oB + 1, none⟩) (HM6.out.block gB (by omega) (fun e => e))).trans He1.out; have hcv := run_convert_rd (P := Tryd.prog) w6 30 9 5 Tryd.underlying30 Tryd.underlying5 Tryd.underlying9 (Hhbr.out.same (HM6.out.same (fun gg hg => ⟨by have := hg.1; omega, fun e => e⟩))))) | ((with_reducible refine wp_region_por ?_ ?_ ?_ ?_); kernel_rfl; kernel_rfl; (with_reducible repeat (first | exact calm_ret | refine calm_then ?_ | refine calm_in ?_ | refine calm_chk ?_ | refine calm_noGoto ?_))) | ((with_reducible refine chk_end ?_ ?_); kernel_rfl))
            go_ret
            exact ⟨rfl, Hhm5.out.trans HM6.out (fun _ _ e => e)⟩
end Go.Proofs.YtmfpgghpnkmkpaaDoor
