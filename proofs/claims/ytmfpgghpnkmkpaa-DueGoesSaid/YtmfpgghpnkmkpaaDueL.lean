/- The law DueSorts, walked. -/
import Derived.Test.YtmfpgghpnkmkpaaDueK
import Derived.Deep.QuietTactic
import Derived.BigQuiet
namespace Go.Proofs.Ytmfpgghpnkmkpaa
open Go.RowKit Go.Tum
set_option maxRecDepth 100000
theorem _root_.Go.Tum.Rd.pair {w : World} {F : Nat → Prop} {A : Option Addr} {c : Nat} {l : List Ent} (h : Rd w F 2 (.slice A l.length c) l.length (entsL l)) {i : Nat} {x : Ent} (hx : l[i]? = some x) :
    ∃ b off, A = some ⟨b, off, none⟩ ∧ F b ∧ w.cell? ⟨b, off + i * 2, none⟩ = some (ks x.1) ∧ w.cell? ⟨b, off + i * 2 + 1, none⟩ = some (.int .i64 x.2) := by
  obtain ⟨hi, _⟩ := List.getElem?_eq_some_iff.1 hx
  obtain ⟨b, off, c', e, hF, hc⟩ := h.cells (by omega)
  injection e with e
  have h2 := Law.flat_two (fun a : Ent => ks a.1) (fun a => Value.int .i64 a.2) l i
  have hl := entsL_length l
  refine ⟨b, off, e, hF, ?_, ?_⟩
  · rw [hc _ (by omega)]
    unfold entsL
    rw [h2.1, hx]; rfl
  · rw [Nat.add_assoc, hc _ (by omega)]
    unfold entsL
    rw [h2.2, hx]; rfl
theorem lt_get {α : Type} {l : List α} {i : Nat} (h : i < l.length) : ∃ x, l[i]? = some x := ⟨_, List.getElem?_eq_getElem h⟩
theorem take_next {α : Type} {l : List α} {i : Nat} {x : α} (h : l[i]? = some x) : l.take (i + 1) = l.take i ++ [x] := by rw [List.take_add_one, h]; rfl
structure Dl1 (W : World) (q : Nat) (l : List Ent) (k : Nat) (v7 v8 : Value) (wr : World) (i : Nat) : Prop where
  hk : k + i = l.length
  hi : i ≤ l.length
  h8 : v8 = .int .i64 i
  h7 : v7 = .bool true
  hq : QueueK wr q 65536 (sets 65536 (l.take i)).1 (sets 65536 (l.take i)).2 (Ge W.heap.size)
  hm : Mods No W wr
theorem QueueK.tight {w : World} {q n : Nat} {lim : Int} {d : Nat → Ent} {F : Nat → Prop} (h : QueueK w q lim d n F) : QueueK w q lim d n (fun g => F g ∧ g < w.heap.size) := by obtain ⟨v, gm, h⟩ := h; exact ⟨v, gm, h.tight⟩
theorem take_G {w : World} {q : Nat} {lim : Int} {s : QS} {n0 : Nat} (h : QueueK w q lim s.1 s.2 (Ge n0)) (now : Int) (h0 : 0 < lim) :
    Calls Try.prog 11 #[(.pointer (some ⟨q, 0, none⟩)), .int .i64 now] w (Ret fun v w' => Own w' (fun g => w.heap.size ≤ g) 29 2 v (takeQ now s.2 s).1.length (entsL (takeQ now s.2 s).1) ∧
      QueueK w' q lim (takeQ now s.2 s).2.1 (takeQ now s.2 s).2.2 (fun g => n0 ≤ g ∧ g < w.heap.size) ∧ Mods (Ge n0) w w') :=
  ret_use (take_K w q lim s _ now h.tight h0 fun _ e => e.2) fun _ _ ⟨e1, e2, e3⟩ => ⟨e1, e2, e3.mono fun _ _ e => e.1⟩
/-- Behind Take: the queue r, the entries T. -/
structure St (W : World) (q : Nat) (r : QS) (T : List Ent) (A2 : Option Addr) (c2 : Nat) (wr : World) : Prop where
  hq : QueueK wr q 65536 r.1 r.2 (Ge W.heap.size)
  hT : Rd wr (fun g => g < wr.heap.size) 2 (.slice A2 T.length c2) T.length (entsL T)
  hm : Mods No W wr
theorem St.no {W : World} {q : Nat} {r : QS} {T : List Ent} {A2 : Option Addr} {c2 : Nat} {w w' : World} (h : St W q r T A2 c2 w) (hm : Mods No w w') : St W q r T A2 c2 w' :=
  ⟨h.hq.no hm, (h.hT.same (hm.same fun _ hk => ⟨hk, fun e => e⟩)).more fun _ e => Nat.lt_of_lt_of_le e hm.size, h.hm.trans hm fun _ _ e => e⟩
theorem St.of {W w w' : World} {q : Nat} {r : QS} {T : List Ent} {A2 : Option Addr} {c2 : Nat} {F : Nat → Prop} (hm : Mods No W w) (ho : Own w' F 29 2 (.slice A2 T.length c2) T.length (entsL T)) (hq : QueueK w' q 65536 r.1 r.2 (fun g => W.heap.size ≤ g ∧ g < w.heap.size)) (hm2 : Mods (Ge W.heap.size) w w') : St W q r T A2 c2 w' :=
  ⟨hq.more fun _ e => e.1, (Rd.of_own (F := fun g => g < w'.heap.size) ho.1 fun g hg => ho.lt g hg), no_ge hm hm2⟩
def lastB (l : List Ent) (p j : Nat) (key : List UInt8) : Bool := ((l.take j).drop (p + 1)).all fun y => decide (y.1 ≠ key)
theorem lastB_start {l : List Ent} {p : Nat} {key : List UInt8} : lastB l p (p + 1) key = true := by
  unfold lastB
  rw [List.drop_eq_nil_of_le (by rw [List.length_take]; omega)]
  rfl
theorem lastB_next {l : List Ent} {p j : Nat} {key : List UInt8} {y : Ent} (hy : l[j]? = some y) (hj : p + 1 ≤ j) : lastB l p (j + 1) key = (lastB l p j key && decide (y.1 ≠ key)) := by
  obtain ⟨hlt, _⟩ := List.getElem?_eq_some_iff.1 hy
  unfold lastB
  rw [take_next hy, List.drop_append_of_le_length (by rw [List.length_take]; omega), List.all_append]
  simp
theorem lastB_last {l : List Ent} {p : Nat} {x : Ent} (hx : l[p]? = some x) (h : lastB l p l.length x.1 = true) : lastOf l x := by
  obtain ⟨hlt, e⟩ := List.getElem?_eq_some_iff.1 hx
  unfold lastB at h
  rw [List.take_length] at h
  refine ⟨l.take p, l.drop (p + 1), ?_, fun y hy => ?_⟩
  · rw [← e, List.getElem_cons_drop, List.take_append_drop]
  · have := List.all_eq_true.1 h y hy
    simpa using this
set_option maxHeartbeats 6400000 in
theorem dueSorts_K (W : World) (v : Value) (l : List Ent) (now : Int) (hr : Rd W (fun g => g < W.heap.size) 2 v l.length (entsL l)) (hk : ∀ x ∈ l, x.1.length ≤ 281474976710656) :
    Calls Try.prog 3 #[v, .int .i64 now] W (Ret fun r w' => r = .bool true ∧ Mods No W w') := by
  obtain ⟨A, c, rfl, hlc, hcm⟩ := hr.form
  have hlm : l.length ≤ 9223372036854775807 := by unfold maxLen at hcm; omega
  have h0 := new_ok W 65536 (by decide) (by decide)
  have hrd : ∀ w', Mods No W w' → Rd w' (fun g => g < W.heap.size) 2 (.slice A l.length c) l.length (entsL l) := fun w' hm => hr.same (hm.same fun k hk => ⟨hk, fun e => e⟩)
  clear hcm
  have Hh0 := Lib.hid h0
  clear h0
  have Hhrd := Lib.hid hrd
  clear hrd
  have Hhr := Lib.hid hr
  clear hr
  have Hhk := Lib.hid hk
  clear hk
  go_enter Try.func3, Try.ntmps3
  go_wp2_with (first | (go_at_call 8; (refine ret_use (Hh0.out) ?_; rintro v w1 ⟨rfl, hq1, hm1⟩; have HQ1 := Lib.hid (hq1.more (G := Ge W.heap.size) fun g e => e.1); have HM1 := Lib.hid hm1; clear hq1 hm1)) | ((with_reducible refine wp_region_por ?_ ?_ ?_ ?_); kernel_rfl; kernel_rfl; (with_reducible repeat (first | exact calm_ret | refine calm_then ?_ | refine calm_in ?_ | refine calm_chk ?_ | refine calm_noGoto ?_))) | ((with_reducible refine chk_end ?_ ?_); kernel_rfl))
  go_loopg [7, 8, 9] l.length (fun k v7 v8 v9 wr => ∃ i, Dl1 W (W.heap.size + 1) l k v7 v8 wr i)
  case atStart => exact ⟨0, rfl, Nat.zero_le _, rfl, rfl, HQ1.out, HM1.out⟩
  case round =>
    obtain ⟨i, hin⟩ := hrel
    obtain rfl := hin.h7
    obtain rfl := hin.h8
    have hile := hin.hi
    have Hin := Lib.hid hin
    clear hin
    rcases Nat.lt_or_ge i l.length with hi | hi
    · obtain ⟨x, hx⟩ := lt_get hi
      obtain ⟨b, off, rfl, hb, x0, x1⟩ := (Hhrd.out _ Hin.out.hm).pair hx
      have hxl := Hhk.out x (List.mem_of_getElem? hx)
      have hset := fun w' (hm : Mods No wr w') => set_G (s := sets 65536 (l.take i)) (Hin.out.hq.no hm) (Nat.le_trans Hin.out.hm.size hm.size) x.1 x.2 (by decide) (by decide) hxl
      have hnx : sets 65536 (l.take (i + 1)) = (setQ 65536 (sets 65536 (l.take i)) x.1 x.2).1 := by rw [take_next hx, sets_snoc]
      unfold ks at x0
      have hlt : (l.take i).length = i := by simp; omega
      rcases (sets_all 65536 (by decide) (l.take i)).err x with he | ⟨he, hge⟩
      · skip
        have Hhx := Lib.hid hx
        clear hx
        have Hhset := Lib.hid hset
        clear hset
        have Hhnx := Lib.hid hnx
        clear hnx
        have Hhe := Lib.hid he
        clear he
        have Hhlt := Lib.hid hlt
        clear hlt
        go_wp2_with (first | (go_at_call 9; (refine ret_use (Hhset.out _ (by repeat (first | exact Mods.refl _ _ | apply Mods.drew))) ?_; rintro v w2 ⟨rfl, hq2, hm2⟩; rw [Hhe.out]; have HQ2 := Lib.hid hq2; have HM2 := Lib.hid hm2; clear hq2 hm2)) | ((with_reducible refine wp_region_por ?_ ?_ ?_ ?_); kernel_rfl; kernel_rfl; (with_reducible repeat (first | exact calm_ret | refine calm_then ?_ | refine calm_in ?_ | refine calm_chk ?_ | refine calm_noGoto ?_))) | ((with_reducible refine chk_end ?_ ?_); kernel_rfl))
        go_roundg (gk - 1)
        case rel =>
          refine ⟨i + 1, by have := Hin.out.hk; omega, hi, by go_num, rfl, ?_, ?_⟩
          · rw [Hhnx.out]; exact HQ2.out
          · exact no_ge Hin.out.hm.drew HM2.out
        case measure => have := Hin.out.hk; omega
      · have hge' : decide (65536 ≤ (i : Int)) = true := decide_eq_true (by omega)
        have Hhx := Lib.hid hx
        clear hx
        have Hhset := Lib.hid hset
        clear hset
        have Hhnx := Lib.hid hnx
        clear hnx
        have Hhe := Lib.hid he
        clear he
        have Hhlt := Lib.hid hlt
        clear hlt
        have Hhge := Lib.hid hge
        clear hge
        go_wp2_with (first | (go_at_call 9; (refine ret_use (Hhset.out _ (by repeat (first | exact Mods.refl _ _ | apply Mods.drew))) ?_; rintro v w2 ⟨rfl, hq2, hm2⟩; rw [Hhe.out]; have HQ2 := Lib.hid hq2; have HM2 := Lib.hid hm2; clear hq2 hm2)) | ((with_reducible refine wp_region_por ?_ ?_ ?_ ?_); kernel_rfl; kernel_rfl; (with_reducible repeat (first | exact calm_ret | refine calm_then ?_ | refine calm_in ?_ | refine calm_chk ?_ | refine calm_noGoto ?_))) | ((with_reducible refine chk_end ?_ ?_); kernel_rfl))
        go_roundg (gk - 1)
        case rel =>
          refine ⟨i + 1, by have := Hin.out.hk; omega, hi, by go_num, rfl, ?_, ?_⟩
          · rw [Hhnx.out]; exact HQ2.out
          · exact no_ge Hin.out.hm.drew HM2.out
        case measure => have := Hin.out.hk; omega
    · obtain rfl : i = l.length := by omega
      have hq := Hin.out.hq
      rw [List.take_length] at hq
      have HS := Lib.hid (sets_all 65536 (by decide) l)
      obtain ⟨s, hs⟩ : ∃ s, s = sets 65536 l := ⟨_, rfl⟩
      have HT := Lib.hid (take_all now _ s rfl (by rw [hs]; exact HS.out.qi))
      have HQ := Lib.hid (show QueueK wr (W.heap.size + 1) 65536 s.1 s.2 (Ge W.heap.size) from hs ▸ hq)
      clear hq
      have Hs := Lib.hid hs
      clear hs
      obtain ⟨T, r, hTr⟩ : ∃ T r, takeQ now s.2 s = (T, r) := ⟨_, _, rfl⟩
      have HTr := Lib.hid hTr
      clear hTr
      go_wp2_with (first | (go_at_call 10; (fail_if_success have := HLn); (refine ret_use (qlen_K _ _ 65536 s _ HQ.out (by decide)) ?_; rintro v w2 ⟨rfl, rfl⟩; have HLn := True.intro)) | (go_at_call 11; (refine ret_use (take_G HQ.out now (by decide)) ?_; rintro v w2 ⟨hoT, hqT, hmT⟩; rw [HTr.out] at hoT hqT; obtain ⟨A2, c2, rfl, htc, _⟩ := hoT.form; have HSt := Lib.hid (St.of Hin.out.hm hoT hqT hmT); clear hoT hqT hmT)) | ((with_reducible refine wp_region_por ?_ ?_ ?_ ?_); kernel_rfl; kernel_rfl; (with_reducible repeat (first | exact calm_ret | refine calm_then ?_ | refine calm_in ?_ | refine calm_chk ?_ | refine calm_noGoto ?_))) | ((with_reducible refine chk_end ?_ ?_); kernel_rfl))
      have HTk := Lib.hid (show Took now s T r by have := HT.out; rw [HTr.out] at this; exact this)
      have htl : T.length ≤ 65536 := by have h1 := HTk.out.sum; have h2 := HQ.out.small; omega
      go_loopg [12, 13, 14] T.length (fun k v12 v13 v14 wr => ∃ j, k + j = T.length ∧ j ≤ T.length ∧ v12 = .int .i64 (j : Nat) ∧ St W (W.heap.size + 1) r T A2 c2 wr)
      case atStart => exact ⟨0, rfl, Nat.zero_le _, rfl, HSt.out⟩
      case round =>
        clear Hin
        obtain ⟨j, hkj, hjl, rfl, hst⟩ := hrel
        have HS2 := Lib.hid hst
        clear hst
        have Hkj := Lib.hid hkj
        clear hkj
        rcases Nat.lt_or_ge j T.length with hj | hj
        · obtain ⟨y, hy⟩ := lt_get hj
          obtain ⟨b2, o2, rfl, hb2, y0, y1⟩ := HS2.out.hT.pair hy
          have hyn : decide (now < y.2) = false := decide_eq_false (by have := HTk.out.late y (List.mem_of_getElem? hy); omega)
          have hyk : y.1.length ≤ maxLen := by
            obtain ⟨p, hp, ep⟩ := (HTk.out.all y).2 (.inl (List.mem_of_getElem? hy))
            obtain ⟨v', gm', h'⟩ := HQ.out
            rw [← ep]
            exact h'.wf p hp
          have hat := fun w' (hm : Mods No wr w') => at_K w' (W.heap.size + 1) 65536 r _ y.1 (HS2.out.no hm).hq (by decide) hyk
          rw [no_at (HTk.out.gone y (List.mem_of_getElem? hy))] at hat
          rcases Nat.eq_zero_or_pos j with hz | hz
          · subst hz
            simp only [Nat.zero_mul, Nat.add_zero] at y0 y1
            unfold ks at y0
            have Hhy := Lib.hid hy
            clear hy
            have Hhat := Lib.hid hat
            clear hat
            have Hhyk := Lib.hid hyk
            clear hyk
            go_wp2
            go_quiet (fail)
            go_wp2_with (first | (go_at_call 13; (refine ret_use (Hhat.out _ (by repeat (first | exact Mods.refl _ _ | apply Mods.drewN | apply Mods.drew))) ?_; rintro v w5 ⟨rfl, hm5⟩; have HM5 := Lib.hid hm5; clear hm5)) | ((with_reducible refine wp_region_por ?_ ?_ ?_ ?_); kernel_rfl; kernel_rfl; (with_reducible repeat (first | exact calm_ret | refine calm_then ?_ | refine calm_in ?_ | refine calm_chk ?_ | refine calm_noGoto ?_))) | ((with_reducible refine chk_end ?_ ?_); kernel_rfl))
            go_roundg (gk - 1)
            case rel => exact ⟨1, by have := Hkj.out; omega, hj, rfl, HS2.out.no (Mods.trans (S := No) (T := No) (by repeat (first | exact Mods.refl _ _ | apply Mods.drewN | apply Mods.drew)) HM5.out fun _ _ e => e)⟩
            case measure => have := Hkj.out; omega
          · obtain ⟨m, hm⟩ : ∃ m, j = m + 1 := ⟨j - 1, by omega⟩
            have hjm : ((j : Int) - 1) = (m : Int) := by omega
            have hmT : m < T.length := by omega
            obtain ⟨z, hzz⟩ := lt_get hmT
            obtain ⟨b3, o3, e3, _, z0, z1⟩ := HS2.out.hT.pair hzz
            injection e3 with e3
            injection e3 with e3 e4
            subst e3 e4
            have hbef : before z y = true := by
              have h1 := List.pairwise_iff_getElem.1 HTk.out.order m j hmT hj (by omega)
              obtain ⟨_, h2⟩ := List.getElem?_eq_some_iff.1 hzz
              obtain ⟨_, h3⟩ := List.getElem?_eq_some_iff.1 hy
              rw [h2, h3] at h1
              exact h1
            have hbk := fun w' => before_K w' z y true hbef
            have hj0 : decide (0 < (j : Int)) = true := decide_eq_true (by omega)
            unfold ks at y0 z0
            have Hhy := Lib.hid hy
            clear hy
            have Hhzz := Lib.hid hzz
            clear hzz
            have Hhat := Lib.hid hat
            clear hat
            have Hhyk := Lib.hid hyk
            clear hyk
            have Hhm := Lib.hid hm
            clear hm
            have Hhbef := Lib.hid hbef
            clear hbef
            have Hhbk := Lib.hid hbk
            clear hbk
            go_wp2_with (first | (go_at_call 12; (refine ret_use (Hhbk.out _) ?_; rintro v w4 ⟨rfl, hm4⟩; have HM4 := Lib.hid ((Mods.refl No wr).drew.trans hm4 fun _ _ e => e); have y0' := (World.cell?_of_block (a := ⟨b2, o2 + j * 2, none⟩) (HM4.out.block b2 hb2 fun e => e)).trans y0; clear hm4)) | (go_at_call 13; (refine ret_use (Hhat.out _ HM4.out) ?_; rintro v w5 ⟨rfl, hm5⟩; have HM5 := Lib.hid hm5; clear hm5)) | ((with_reducible refine wp_region_por ?_ ?_ ?_ ?_); kernel_rfl; kernel_rfl; (with_reducible repeat (first | exact calm_ret | refine calm_then ?_ | refine calm_in ?_ | refine calm_chk ?_ | refine calm_noGoto ?_))) | ((with_reducible refine chk_end ?_ ?_); kernel_rfl))
            go_roundg (gk - 1)
            case rel => exact ⟨j + 1, by have := Hkj.out; omega, hj, by go_num, HS2.out.no (HM4.out.trans HM5.out fun _ _ e => e)⟩
            case measure => have := Hkj.out; omega
        · obtain rfl : j = T.length := by omega
          have hnx := next_K _ (W.heap.size + 1) 65536 r _ HS2.out.hq (by decide)
          have hsum := HTk.out.sum
          obtain ⟨rd, rn⟩ := r
          dsimp only at hsum
          have e1 : ((T.length : Int) + (rn : Int) != (s.2 : Int)) = false := by simp; omega
          have hln := fun w' (hm : Mods No wr w') => qlen_K w' (W.heap.size + 1) 65536 (rd, rn) _ (HS2.out.no hm).hq (by decide)
          dsimp only at hln
          have hrn : rn ≤ 65536 := by have := HQ.out.small; omega
          have Hhsum := Lib.hid hsum
          clear hsum
          have Hhln := Lib.hid hln
          clear hln
          rcases next_took HTk.out with ⟨hz, hn⟩ | ⟨hz, hn, hlate⟩
          · dsimp only at hz
            subst hz
            rw [hn] at hnx
            have e2 : ((T.length : Int) != (s.2 : Int)) = false := by simpa using e1
            have Hhnx := Lib.hid hnx
            clear hnx
            have Hhn := Lib.hid hn
            clear hn
            rcases Nat.eq_zero_or_pos l.length with hl0 | hl0
            · have hl0' : decide (0 < (l.length : Int)) = false := decide_eq_false (by omega)
              go_wp2_with (first | (go_at_call 14; (refine ret_use (Hhnx.out) ?_; rintro v w5 ⟨rfl, hm5⟩; (unfold ks); have HM5 := Lib.hid hm5; clear hm5)) | (go_at_call 10; (refine ret_use (Hhln.out _ (HM5.out.alloc _)) ?_; rintro v w6 ⟨rfl, rfl⟩)) | ((with_reducible refine wp_region_por ?_ ?_ ?_ ?_); kernel_rfl; kernel_rfl; (with_reducible repeat (first | exact calm_ret | refine calm_then ?_ | refine calm_in ?_ | refine calm_chk ?_ | refine calm_noGoto ?_))) | ((with_reducible refine chk_end ?_ ?_); kernel_rfl))
              go_loopg [17, 18, 19, 20, 21] 0 (fun k v17 v18 v19 v20 v21 wr => v17 = .int .i64 (-1) ∧ St W (W.heap.size + 1) (rd, 0) T A2 c2 wr)
              case atStart => exact ⟨rfl, HS2.out.no (HM5.out.alloc _)⟩
              case round =>
                obtain ⟨rfl, hst⟩ := hrel
                have HS3 := Lib.hid hst
                clear hst
                go_wp2_with (first | (go_at_call 15; (refine ret_use (alive_K _) ?_; rintro v w9 ⟨rfl, hm9⟩; have HM9 := Lib.hid hm9; clear hm9)) | ((with_reducible refine wp_region_por ?_ ?_ ?_ ?_); kernel_rfl; kernel_rfl; (with_reducible repeat (first | exact calm_ret | refine calm_then ?_ | refine calm_in ?_ | refine calm_chk ?_ | refine calm_noGoto ?_))) | ((with_reducible refine chk_end ?_ ?_); kernel_rfl))
                go_ret
                exact ⟨rfl, HS3.out.hm.trans HM9.out fun _ _ e => e⟩
            · have hl0' : decide (0 < (l.length : Int)) = true := decide_eq_true (by omega)
              have hs0 : ((s.2 : Int) == 0) = false := by have := HS.out.pos (by intro e; rw [e] at hl0; simp at hl0); have h2 := Hs.out; rw [← h2] at this; simp; omega
              go_wp2_with (first | (go_at_call 14; (refine ret_use (Hhnx.out) ?_; rintro v w5 ⟨rfl, hm5⟩; (unfold ks); have HM5 := Lib.hid hm5; clear hm5)) | (go_at_call 10; (refine ret_use (Hhln.out _ (HM5.out.alloc _)) ?_; rintro v w6 ⟨rfl, rfl⟩)) | ((with_reducible refine wp_region_por ?_ ?_ ?_ ?_); kernel_rfl; kernel_rfl; (with_reducible repeat (first | exact calm_ret | refine calm_then ?_ | refine calm_in ?_ | refine calm_chk ?_ | refine calm_noGoto ?_))) | ((with_reducible refine chk_end ?_ ?_); kernel_rfl))
              go_loopg [17, 18, 19, 20, 21] l.length (fun k v17 v18 v19 v20 v21 wr => ∃ (m : Nat) (z : Int), v17 = .int .i64 z ∧ z + 1 = m ∧ m ≤ l.length ∧ k = m ∧ St W (W.heap.size + 1) (rd, 0) T A2 c2 wr)
              case atStart => exact ⟨l.length, _, rfl, by omega, Nat.le_refl _, rfl, HS2.out.no (HM5.out.alloc _)⟩
              case round =>
                obtain ⟨m, z, rfl, hzm, hml, hkm, hst⟩ := hrel
                have HS3 := Lib.hid hst
                clear hst
                have Hkm := Lib.hid hkm
                clear hkm
                rcases Nat.eq_zero_or_pos m with hm0 | hm0
                · obtain rfl : z = -1 := by omega
                  clear hzm
                  go_wp2_with (first | (go_at_call 15; (refine ret_use (alive_K _) ?_; rintro v w9 ⟨rfl, hm9⟩; have HM9 := Lib.hid hm9; clear hm9)) | ((with_reducible refine wp_region_por ?_ ?_ ?_ ?_); kernel_rfl; kernel_rfl; (with_reducible repeat (first | exact calm_ret | refine calm_then ?_ | refine calm_in ?_ | refine calm_chk ?_ | refine calm_noGoto ?_))) | ((with_reducible refine chk_end ?_ ?_); kernel_rfl))
                  go_ret
                  exact ⟨rfl, HS3.out.hm.trans HM9.out fun _ _ e => e⟩
                · obtain ⟨p, hp⟩ : ∃ p, m = p + 1 := ⟨m - 1, by omega⟩
                  obtain rfl : z = (p : Int) := by omega
                  have hpl : p < l.length := by omega
                  have Hp := Lib.hid hp
                  clear hzm hp
                  by_cases hbig : l.length ≤ 65536
                  · have hbig' : decide ((l.length : Int) ≤ 65536) = true := decide_eq_true (by omega)
                    obtain ⟨x, hx⟩ := lt_get hpl
                    obtain ⟨b, off, rfl, hb, x0, x1⟩ := (Hhrd.out _ HS3.out.hm).pair hx
                    have hxl := Hhk.out x (List.mem_of_getElem? hx)
                    obtain ⟨a, ok, hao⟩ : ∃ a ok, atQ (rd, 0) x.1 = (a, ok) := ⟨_, _, rfl⟩
                    have hat := at_K _ (W.heap.size + 1) 65536 (rd, 0) _ x.1 HS3.out.hq (by decide) (by unfold maxLen; omega)
                    rw [hao] at hat
                    unfold ks at x0
                    have Hhx := Lib.hid hx
                    clear hx
                    have Hhxl := Lib.hid hxl
                    clear hxl
                    have Hhao := Lib.hid hao
                    clear hao
                    have Hhat := Lib.hid hat
                    clear hat
                    go_wp2_with (first | (go_at_call 13; (refine ret_use (Hhat.out) ?_; rintro v w5 ⟨rfl, hm5⟩; have HM5 := Lib.hid hm5; clear hm5)) | ((with_reducible refine wp_region_por ?_ ?_ ?_ ?_); kernel_rfl; kernel_rfl; (with_reducible repeat (first | exact calm_ret | refine calm_then ?_ | refine calm_in ?_ | refine calm_chk ?_ | refine calm_noGoto ?_))) | ((with_reducible refine chk_end ?_ ?_); kernel_rfl))
                    go_loopg [20, 21] (l.length - (p + 1)) (fun k v20 v21 wr => ∃ (j : Nat) (bl : Bool), v21 = .int .i64 j ∧ p + 1 ≤ j ∧ j ≤ l.length ∧ k + j = l.length ∧ v20 = .bool bl ∧ bl = lastB l p j x.1 ∧ St W (W.heap.size + 1) (rd, 0) T A2 c2 wr)
                    case atStart => exact ⟨p + 1, true, by go_num, Nat.le_refl _, hpl, by omega, rfl, lastB_start.symm, HS3.out.no HM5.out⟩
                    case round =>
                      obtain ⟨j, bl, rfl, hj1, hj2, hkj, rfl, hbl, hst⟩ := hrel
                      have HS4 := Lib.hid hst
                      have Hkj := Lib.hid hkj
                      have Hbl := Lib.hid hbl
                      clear hst hkj hbl
                      have hx' := Hhx.out
                      obtain ⟨b4, o4, e4, _, u0, u1⟩ := (Hhrd.out _ HS4.out.hm).pair hx'
                      injection e4 with e4
                      injection e4 with e4 e5
                      subst e4 e5
                      clear hx'
                      rcases Nat.lt_or_ge j l.length with hj | hj
                      · obtain ⟨y, hy⟩ := lt_get hj
                        obtain ⟨b4, o4, e4, _, y0, y1⟩ := (Hhrd.out _ HS4.out.hm).pair hy
                        injection e4 with e4
                        injection e4 with e4 e5
                        subst e4 e5
                        have hnb := lastB_next (key := x.1) hy hj1
                        unfold ks at u0 y0
                        cases bl with
                        | true =>
                          rw [← Hbl.out, Bool.true_and] at hnb
                          have Hhy := Lib.hid hy
                          clear hy
                          have Hhnb := Lib.hid hnb
                          clear hnb
                          go_wp2_with (first | ((with_reducible refine wp_region_por ?_ ?_ ?_ ?_); kernel_rfl; kernel_rfl; (with_reducible repeat (first | exact calm_ret | refine calm_then ?_ | refine calm_in ?_ | refine calm_chk ?_ | refine calm_noGoto ?_))) | ((with_reducible refine chk_end ?_ ?_); kernel_rfl))
                          go_roundg (gk - 1)
                          case rel => exact ⟨j + 1, _, by go_num, by omega, hj, by have := Hkj.out; omega, rfl, by rw [Hhnb.out]; by_cases e : y.1 = x.1 <;> simp [e], HS4.out.no ((Mods.refl No _).drewN _)⟩
                          case measure => have := Hkj.out; omega
                        | false =>
                          rw [← Hbl.out, Bool.false_and] at hnb
                          have Hhy := Lib.hid hy
                          clear hy
                          have Hhnb := Lib.hid hnb
                          clear hnb
                          go_wp2
                          go_quiet (fail)
                          go_wp2
                          go_roundg (gk - 1)
                          case rel => exact ⟨j + 1, false, by go_num, by omega, hj, by have := Hkj.out; omega, rfl, Hhnb.out.symm, HS4.out.no ((Mods.refl No _).drewN _)⟩
                          case measure => have := Hkj.out; omega
                      · obtain rfl : j = l.length := by omega
                        cases bl with
                        | false =>
                          go_wp2_with (first | ((with_reducible refine wp_region_por ?_ ?_ ?_ ?_); kernel_rfl; kernel_rfl; (with_reducible repeat (first | exact calm_ret | refine calm_then ?_ | refine calm_in ?_ | refine calm_chk ?_ | refine calm_noGoto ?_))) | ((with_reducible refine chk_end ?_ ?_); kernel_rfl))
                          go_roundg p
                          case rel => exact ⟨p, (p : Int) - 1, by go_num, by omega, by omega, rfl, HS4.out⟩
                          case measure => have h1 := Hp.out; have h2 := Hkm.out; omega
                        | true =>
                          have hla := last_took HS.out (by omega) (by have := HTk.out; rw [Hs.out] at this; exact this) (lastB_last Hhx.out Hbl.out.symm)
                          rw [Hhao.out] at hla
                          dsimp only at hla
                          rcases hla with ⟨h1, h2⟩ | ⟨h1, h2⟩
                          · injection h2 with h2 h3
                            subst h2 h3
                            have h1' : decide (now < x.2) = true := decide_eq_true h1
                            go_wp2_with (first | ((with_reducible refine wp_region_por ?_ ?_ ?_ ?_); kernel_rfl; kernel_rfl; (with_reducible repeat (first | exact calm_ret | refine calm_then ?_ | refine calm_in ?_ | refine calm_chk ?_ | refine calm_noGoto ?_))) | ((with_reducible refine chk_end ?_ ?_); kernel_rfl))
                            go_roundg p
                            case rel => exact ⟨p, (p : Int) - 1, by go_num, by omega, by omega, rfl, HS4.out⟩
                            case measure => have h1 := Hp.out; have h2 := Hkm.out; omega
                          · subst h2
                            have h1' : decide (now < x.2) = false := decide_eq_false (by omega)
                            go_wp2_with (first | ((with_reducible refine wp_region_por ?_ ?_ ?_ ?_); kernel_rfl; kernel_rfl; (with_reducible repeat (first | exact calm_ret | refine calm_then ?_ | refine calm_in ?_ | refine calm_chk ?_ | refine calm_noGoto ?_))) | ((with_reducible refine chk_end ?_ ?_); kernel_rfl))
                            go_roundg p
                            case rel => exact ⟨p, (p : Int) - 1, by go_num, by omega, by omega, rfl, HS4.out⟩
                            case measure => have h1 := Hp.out; have h2 := Hkm.out; omega
                  · have hbig' : decide ((l.length : Int) ≤ 65536) = false := decide_eq_false (by omega)
                    go_wp2_with (first | (go_at_call 15; (refine ret_use (alive_K _) ?_; rintro v w9 ⟨rfl, hm9⟩; have HM9 := Lib.hid hm9; clear hm9)) | ((with_reducible refine wp_region_por ?_ ?_ ?_ ?_); kernel_rfl; kernel_rfl; (with_reducible repeat (first | exact calm_ret | refine calm_then ?_ | refine calm_in ?_ | refine calm_chk ?_ | refine calm_noGoto ?_))) | ((with_reducible refine chk_end ?_ ?_); kernel_rfl))
                    go_ret
                    exact ⟨rfl, HS3.out.hm.trans HM9.out fun _ _ e => e⟩
          · dsimp only at hz hlate
            rw [hn] at hnx
            have e2 : decide ((rd 0).2 ≤ now) = false := decide_eq_false (by omega)
            have e3 : decide (0 < (rn : Int)) = true := decide_eq_true (by omega)
            have e4 : ((T.length : Int) + (rn : Int) == (s.2 : Int)) = true := by simpa using e1
            have Hhnx := Lib.hid hnx
            clear hnx
            have Hhn := Lib.hid hn
            clear hn
            rcases Nat.eq_zero_or_pos l.length with hl0 | hl0
            · have hl0' : decide (0 < (l.length : Int)) = false := decide_eq_false (by omega)
              go_wp2_with (first | (go_at_call 14; (refine ret_use (Hhnx.out) ?_; rintro v w5 ⟨rfl, hm5⟩; (unfold ks); have HM5 := Lib.hid hm5; clear hm5)) | (go_at_call 10; (refine ret_use (Hhln.out _ (HM5.out.alloc _)) ?_; rintro v w6 ⟨rfl, rfl⟩)) | ((with_reducible refine wp_region_por ?_ ?_ ?_ ?_); kernel_rfl; kernel_rfl; (with_reducible repeat (first | exact calm_ret | refine calm_then ?_ | refine calm_in ?_ | refine calm_chk ?_ | refine calm_noGoto ?_))) | ((with_reducible refine chk_end ?_ ?_); kernel_rfl))
              go_loopg [17, 18, 19, 20, 21] 0 (fun k v17 v18 v19 v20 v21 wr => v17 = .int .i64 (-1) ∧ St W (W.heap.size + 1) (rd, rn) T A2 c2 wr)
              case atStart => exact ⟨rfl, HS2.out.no (HM5.out.alloc _)⟩
              case round =>
                obtain ⟨rfl, hst⟩ := hrel
                have HS3 := Lib.hid hst
                clear hst
                go_wp2_with (first | (go_at_call 15; (refine ret_use (alive_K _) ?_; rintro v w9 ⟨rfl, hm9⟩; have HM9 := Lib.hid hm9; clear hm9)) | ((with_reducible refine wp_region_por ?_ ?_ ?_ ?_); kernel_rfl; kernel_rfl; (with_reducible repeat (first | exact calm_ret | refine calm_then ?_ | refine calm_in ?_ | refine calm_chk ?_ | refine calm_noGoto ?_))) | ((with_reducible refine chk_end ?_ ?_); kernel_rfl))
                go_ret
                exact ⟨rfl, HS3.out.hm.trans HM9.out fun _ _ e => e⟩
            · have hl0' : decide (0 < (l.length : Int)) = true := decide_eq_true (by omega)
              have hs0 : ((s.2 : Int) == 0) = false := by have := HS.out.pos (by intro e; rw [e] at hl0; simp at hl0); have h2 := Hs.out; rw [← h2] at this; simp; omega
              go_wp2_with (first | (go_at_call 14; (refine ret_use (Hhnx.out) ?_; rintro v w5 ⟨rfl, hm5⟩; (unfold ks); have HM5 := Lib.hid hm5; clear hm5)) | (go_at_call 10; (refine ret_use (Hhln.out _ (HM5.out.alloc _)) ?_; rintro v w6 ⟨rfl, rfl⟩)) | ((with_reducible refine wp_region_por ?_ ?_ ?_ ?_); kernel_rfl; kernel_rfl; (with_reducible repeat (first | exact calm_ret | refine calm_then ?_ | refine calm_in ?_ | refine calm_chk ?_ | refine calm_noGoto ?_))) | ((with_reducible refine chk_end ?_ ?_); kernel_rfl))
              go_loopg [17, 18, 19, 20, 21] l.length (fun k v17 v18 v19 v20 v21 wr => ∃ (m : Nat) (z : Int), v17 = .int .i64 z ∧ z + 1 = m ∧ m ≤ l.length ∧ k = m ∧ St W (W.heap.size + 1) (rd, rn) T A2 c2 wr)
              case atStart => exact ⟨l.length, _, rfl, by omega, Nat.le_refl _, rfl, HS2.out.no (HM5.out.alloc _)⟩
              case round =>
                obtain ⟨m, z, rfl, hzm, hml, hkm, hst⟩ := hrel
                have HS3 := Lib.hid hst
                clear hst
                have Hkm := Lib.hid hkm
                clear hkm
                rcases Nat.eq_zero_or_pos m with hm0 | hm0
                · obtain rfl : z = -1 := by omega
                  clear hzm
                  go_wp2_with (first | (go_at_call 15; (refine ret_use (alive_K _) ?_; rintro v w9 ⟨rfl, hm9⟩; have HM9 := Lib.hid hm9; clear hm9)) | ((with_reducible refine wp_region_por ?_ ?_ ?_ ?_); kernel_rfl; kernel_rfl; (with_reducible repeat (first | exact calm_ret | refine calm_then ?_ | refine calm_in ?_ | refine calm_chk ?_ | refine calm_noGoto ?_))) | ((with_reducible refine chk_end ?_ ?_); kernel_rfl))
                  go_ret
                  exact ⟨rfl, HS3.out.hm.trans HM9.out fun _ _ e => e⟩
                · obtain ⟨p, hp⟩ : ∃ p, m = p + 1 := ⟨m - 1, by omega⟩
                  obtain rfl : z = (p : Int) := by omega
                  have hpl : p < l.length := by omega
                  have Hp := Lib.hid hp
                  clear hzm hp
                  by_cases hbig : l.length ≤ 65536
                  · have hbig' : decide ((l.length : Int) ≤ 65536) = true := decide_eq_true (by omega)
                    obtain ⟨x, hx⟩ := lt_get hpl
                    obtain ⟨b, off, rfl, hb, x0, x1⟩ := (Hhrd.out _ HS3.out.hm).pair hx
                    have hxl := Hhk.out x (List.mem_of_getElem? hx)
                    obtain ⟨a, ok, hao⟩ : ∃ a ok, atQ (rd, rn) x.1 = (a, ok) := ⟨_, _, rfl⟩
                    have hat := at_K _ (W.heap.size + 1) 65536 (rd, rn) _ x.1 HS3.out.hq (by decide) (by unfold maxLen; omega)
                    rw [hao] at hat
                    unfold ks at x0
                    have Hhx := Lib.hid hx
                    clear hx
                    have Hhxl := Lib.hid hxl
                    clear hxl
                    have Hhao := Lib.hid hao
                    clear hao
                    have Hhat := Lib.hid hat
                    clear hat
                    go_wp2_with (first | (go_at_call 13; (refine ret_use (Hhat.out) ?_; rintro v w5 ⟨rfl, hm5⟩; have HM5 := Lib.hid hm5; clear hm5)) | ((with_reducible refine wp_region_por ?_ ?_ ?_ ?_); kernel_rfl; kernel_rfl; (with_reducible repeat (first | exact calm_ret | refine calm_then ?_ | refine calm_in ?_ | refine calm_chk ?_ | refine calm_noGoto ?_))) | ((with_reducible refine chk_end ?_ ?_); kernel_rfl))
                    go_loopg [20, 21] (l.length - (p + 1)) (fun k v20 v21 wr => ∃ (j : Nat) (bl : Bool), v21 = .int .i64 j ∧ p + 1 ≤ j ∧ j ≤ l.length ∧ k + j = l.length ∧ v20 = .bool bl ∧ bl = lastB l p j x.1 ∧ St W (W.heap.size + 1) (rd, rn) T A2 c2 wr)
                    case atStart => exact ⟨p + 1, true, by go_num, Nat.le_refl _, hpl, by omega, rfl, lastB_start.symm, HS3.out.no HM5.out⟩
                    case round =>
                      obtain ⟨j, bl, rfl, hj1, hj2, hkj, rfl, hbl, hst⟩ := hrel
                      have HS4 := Lib.hid hst
                      have Hkj := Lib.hid hkj
                      have Hbl := Lib.hid hbl
                      clear hst hkj hbl
                      have hx' := Hhx.out
                      obtain ⟨b4, o4, e4, _, u0, u1⟩ := (Hhrd.out _ HS4.out.hm).pair hx'
                      injection e4 with e4
                      injection e4 with e4 e5
                      subst e4 e5
                      clear hx'
                      rcases Nat.lt_or_ge j l.length with hj | hj
                      · obtain ⟨y, hy⟩ := lt_get hj
                        obtain ⟨b4, o4, e4, _, y0, y1⟩ := (Hhrd.out _ HS4.out.hm).pair hy
                        injection e4 with e4
                        injection e4 with e4 e5
                        subst e4 e5
                        have hnb := lastB_next (key := x.1) hy hj1
                        unfold ks at u0 y0
                        cases bl with
                        | true =>
                          rw [← Hbl.out, Bool.true_and] at hnb
                          have Hhy := Lib.hid hy
                          clear hy
                          have Hhnb := Lib.hid hnb
                          clear hnb
                          go_wp2_with (first | ((with_reducible refine wp_region_por ?_ ?_ ?_ ?_); kernel_rfl; kernel_rfl; (with_reducible repeat (first | exact calm_ret | refine calm_then ?_ | refine calm_in ?_ | refine calm_chk ?_ | refine calm_noGoto ?_))) | ((with_reducible refine chk_end ?_ ?_); kernel_rfl))
                          go_roundg (gk - 1)
                          case rel => exact ⟨j + 1, _, by go_num, by omega, hj, by have := Hkj.out; omega, rfl, by rw [Hhnb.out]; by_cases e : y.1 = x.1 <;> simp [e], HS4.out.no ((Mods.refl No _).drewN _)⟩
                          case measure => have := Hkj.out; omega
                        | false =>
                          rw [← Hbl.out, Bool.false_and] at hnb
                          have Hhy := Lib.hid hy
                          clear hy
                          have Hhnb := Lib.hid hnb
                          clear hnb
                          go_wp2
                          go_quiet (fail)
                          go_wp2
                          go_roundg (gk - 1)
                          case rel => exact ⟨j + 1, false, by go_num, by omega, hj, by have := Hkj.out; omega, rfl, Hhnb.out.symm, HS4.out.no ((Mods.refl No _).drewN _)⟩
                          case measure => have := Hkj.out; omega
                      · obtain rfl : j = l.length := by omega
                        cases bl with
                        | false =>
                          go_wp2_with (first | ((with_reducible refine wp_region_por ?_ ?_ ?_ ?_); kernel_rfl; kernel_rfl; (with_reducible repeat (first | exact calm_ret | refine calm_then ?_ | refine calm_in ?_ | refine calm_chk ?_ | refine calm_noGoto ?_))) | ((with_reducible refine chk_end ?_ ?_); kernel_rfl))
                          go_roundg p
                          case rel => exact ⟨p, (p : Int) - 1, by go_num, by omega, by omega, rfl, HS4.out⟩
                          case measure => have h1 := Hp.out; have h2 := Hkm.out; omega
                        | true =>
                          have hla := last_took HS.out (by omega) (by have := HTk.out; rw [Hs.out] at this; exact this) (lastB_last Hhx.out Hbl.out.symm)
                          rw [Hhao.out] at hla
                          dsimp only at hla
                          rcases hla with ⟨h1, h2⟩ | ⟨h1, h2⟩
                          · injection h2 with h2 h3
                            subst h2 h3
                            have h1' : decide (now < x.2) = true := decide_eq_true h1
                            go_wp2_with (first | ((with_reducible refine wp_region_por ?_ ?_ ?_ ?_); kernel_rfl; kernel_rfl; (with_reducible repeat (first | exact calm_ret | refine calm_then ?_ | refine calm_in ?_ | refine calm_chk ?_ | refine calm_noGoto ?_))) | ((with_reducible refine chk_end ?_ ?_); kernel_rfl))
                            go_roundg p
                            case rel => exact ⟨p, (p : Int) - 1, by go_num, by omega, by omega, rfl, HS4.out⟩
                            case measure => have h1 := Hp.out; have h2 := Hkm.out; omega
                          · subst h2
                            have h1' : decide (now < x.2) = false := decide_eq_false (by omega)
                            go_wp2_with (first | ((with_reducible refine wp_region_por ?_ ?_ ?_ ?_); kernel_rfl; kernel_rfl; (with_reducible repeat (first | exact calm_ret | refine calm_then ?_ | refine calm_in ?_ | refine calm_chk ?_ | refine calm_noGoto ?_))) | ((with_reducible refine chk_end ?_ ?_); kernel_rfl))
                            go_roundg p
                            case rel => exact ⟨p, (p : Int) - 1, by go_num, by omega, by omega, rfl, HS4.out⟩
                            case measure => have h1 := Hp.out; have h2 := Hkm.out; omega
                  · have hbig' : decide ((l.length : Int) ≤ 65536) = false := decide_eq_false (by omega)
                    go_wp2_with (first | (go_at_call 15; (refine ret_use (alive_K _) ?_; rintro v w9 ⟨rfl, hm9⟩; have HM9 := Lib.hid hm9; clear hm9)) | ((with_reducible refine wp_region_por ?_ ?_ ?_ ?_); kernel_rfl; kernel_rfl; (with_reducible repeat (first | exact calm_ret | refine calm_then ?_ | refine calm_in ?_ | refine calm_chk ?_ | refine calm_noGoto ?_))) | ((with_reducible refine chk_end ?_ ?_); kernel_rfl))
                    go_ret
                    exact ⟨rfl, HS3.out.hm.trans HM9.out fun _ _ e => e⟩
end Go.Proofs.Ytmfpgghpnkmkpaa
