/- What All goes over, as an iterator; tumblerlaw07's all. -/
import Derived.Test.YtmfpgghpnkmkpaaDueM
import Derived.Test.YtmfpgghpnkmkpaaRange
import Derived.RangeFuncNested
import Derived.RangeFuncBound
import Derived.RangeFuncCalls
import Derived.RangeFuncLeaves
import Derived.Shelf.Abstract
import Derived.Shelf.RegionOpen
import Derived.OwnWalkIn
import Derived.TacticsInMore
import Derived.LoopNIn
import Derived.LoopIn
namespace Go.Proofs.Ytmfpgghpnkmkpaa
open Go.RowKit Go.Tum Go.Shelf
set_option maxRecDepth 100000
attribute [local go_sem] Oper.semAt_some
theorem ret_useI {P : Program} {f : FuncId} {args : Array Value} {w : World} {Φ : Value → World → Prop} {R : Ending → World → Prop} {n : Nat}
    (h : Calls P f args w (Ret Φ)) (k : ∀ v w', Φ v w' → R (.returned v) w') : CallsIn Fence.wide n P f args w R := callsIn_wide.2 (ret_use h k)
theorem ret_useR {P : Program} {f : FuncId} {args : Array Value} {w : World} {Φ : Value → World → Prop} {R : Ending → World → Prop} {n l : Nat}
    (h : Calls P f args w (Ret Φ)) (k : ∀ v w', Φ v w' → R (.returned v) w') : CallsIn (Fence.wide.inRound l) n P f args w R := CallsIn.inRound l (callsIn_wide.2 (ret_use h k))
theorem all_K (w : World) (p : Option Addr) : Calls Try.prog 21 #[.pointer p] w (Ret fun v w' => v = .func (.func 32) #[] #[(.pointer (some ⟨w.heap.size, 0, none⟩))] ∧ w' = w.alloc (.cells #[.pointer p] 23)) := by
  go_enter Try.func21, Try.ntmps21
  go_wp2
  go_ret
  exact ⟨rfl, rfl⟩
theorem _root_.Go.Tum.Rd.pairn {w : World} {F : Nat → Prop} {A : Option Addr} {c n : Nat} {l : List Ent} (h : Rd w F 2 (.slice A n c) n (entsL l)) (hn : l.length = n) {i : Nat} {x : Ent} (hx : l[i]? = some x) :
    ∃ b off, A = some ⟨b, off, none⟩ ∧ F b ∧ w.cell? ⟨b, off + i * 2, none⟩ = some (ks x.1) ∧ w.cell? ⟨b, off + i * 2 + 1, none⟩ = some (.int .i64 x.2) := by
  subst hn
  obtain ⟨hi, _⟩ := List.getElem?_eq_some_iff.1 hx
  obtain ⟨b, off, c', e, hF, hc⟩ := h.cells (by omega)
  injection e with e
  have h2 := Law.flat_two (fun a : Ent => ks a.1) (fun a => Value.int .i64 a.2) l i
  have hl := entsL_length l
  refine ⟨b, off, e, hF, ?_, ?_⟩
  · rw [hc _ (by omega)]
    unfold entsL
    rw [h2.1, hx]; rfl
  · rw [Nat.add_assoc, hc _ (by omega)]
    unfold entsL
    rw [h2.2, hx]; rfl
theorem get_lt {α : Type} {l : List α} {i : Nat} (h : i < l.length) : ∃ x, l[i]? = some x := ⟨_, List.getElem?_eq_getElem h⟩
theorem take_nx {α : Type} {l : List α} {i : Nat} {x : α} (h : l[i]? = some x) : l.take (i + 1) = l.take i ++ [x] := by rw [List.take_add_one, h]; rfl
structure ItInv (J : Nat → List Ent → World → Prop) (S : List Ent) (n n0 m : Nat) (A2 : Option Addr) (c2 : Nat) (v19 : Value) (wr : World) (i : Nat) : Prop where
  h : v19 = .int .i64 i
  hi : i ≤ n
  hJ : J m (S.take i) wr
  rd : Rd wr (fun b => n0 ≤ b ∧ b < m) 2 (.slice A2 n c2) n (entsL S)
  le : m ≤ wr.heap.size
def encY (x : Ent) : Array Value := #[.agg #[ks x.1, .int .i64 x.2]]
set_option maxHeartbeats 1600000 in
theorem iter_K (W1 : World) (Bx q : Nat) (lim : Int) (s : QS) (F : Nat → Prop) (hb : Cells W1 Bx 23 #[(.pointer (some ⟨q, 0, none⟩))]) (hq : QueueK W1 q lim s.1 s.2 F) (h0 : 0 < lim) : Iter Try.prog 32 #[(.pointer (some ⟨Bx, 0, none⟩))] encY (srt s) W1 := by
  intro l J Jx hst hJ hJx hY
  obtain ⟨v, gm, hk⟩ := hq
  have c0 := hb.at_ 0 rfl
  have c1 := hk.cells.at_ 1 rfl
  have lB := hb.lt
  have lq := hk.cells.lt
  have hmade := made_some W1 q lim (hk.cells.at_ 0 rfl) true (decide_eq_true h0)
  have hcl := sclone_K W1 F v s.2 _ hk.own (ents_one _ _) hk.small
  obtain ⟨A, c, rfl, _, _⟩ := hk.own.form
  have hsm := hk.small
  have Hhst := Lib.hid hst
  clear hst
  have HhJ := Lib.hid hJ
  clear hJ
  have HhJx := Lib.hid hJx
  clear hJx
  have HhY := Lib.hid hY
  clear hY
  have Hhk := Lib.hid hk
  clear hk
  have Hhmade := Lib.hid hmade
  clear hmade
  have Hhcl := Lib.hid hcl
  clear hcl
  have Hhb := Lib.hid hb
  clear hb
  refine callsIn_of_wp Try.func32 rfl trivial ?_ rfl
  simp only [Try.ntmps32, List.size_toArray, List.length_cons, List.length_nil, Nat.reduceAdd, Nat.reduceSub, Array.replicate_succ, Array.replicate_zero, List.push_toArray, List.append_toArray, List.nil_append, List.cons_append]
  gi_wp2_with (first | ((refine ⟨trivial, rfl, ?_⟩); gi_at_call 25; (refine ret_useI (Hhmade.out) ?_; rintro v w2 ⟨rfl, rfl⟩)) | ((refine ⟨trivial, rfl, ?_⟩); gi_at_call 33; (refine ret_useI (Hhcl.out) ?_; rintro v w2 ⟨ho2, hm2⟩; have HO2 := Lib.hid ho2; have HM2 := Lib.hid hm2; obtain ⟨A2, c2, rfl, _, _⟩ := ho2.form; clear ho2 hm2)) | ((refine ⟨trivial, rfl, ?_⟩); gi_at_call 34; (refine ret_useI (sort_K _ _ _ s HO2.out hsm) ?_; rintro v w3 ⟨ho3, hm3⟩; have HO3 := Lib.hid ho3; have HM3 := Lib.hid (HM2.out.trans hm3 fun k hk e => absurd e (Nat.not_le_of_lt hk)); clear ho3 hm3)))
  have hsl := srt_len s
  gi_loopw [5, 19] (fun v5 v19 wr => ∃ i, ItInv J (srt s) s.2 W1.heap.size w3.heap.size A2 c2 v19 wr i) (fun _ v19 _ => s.2 - (intOf v19).toNat)
  case atStart =>
    refine ⟨0, rfl, Nat.zero_le _, ?_, ?_, Nat.le_refl _⟩
    · exact Hhst.out w3 HM3.out
    · have h1 := HO3.out.tight.rd
      exact h1.more fun k hk => ⟨HO3.out.2 k hk, HO3.out.lt k hk⟩
  case round =>
    obtain ⟨i, hin⟩ := hrel
    obtain rfl := hin.h
    have hin1 := hin.hi
    have Hin := Lib.hid hin
    clear hin
    rcases Nat.lt_or_ge i s.2 with hi | hi
    · obtain ⟨x, hx⟩ := get_lt (l := srt s) (i := i) (by omega)
      obtain ⟨b, off, rfl, hbm, x0, x1⟩ := Hin.out.rd.pairn hsl hx
      have hbl : b < wr.heap.size := Nat.lt_of_lt_of_le hbm.2 Hin.out.le
      have hpx : (srt s).take i ++ [x] <+: srt s := by rw [← take_nx hx]; exact List.take_prefix _ _
      obtain ⟨fn, tmps, assign, body, hy, hR⟩ := HhY.out w3.heap.size ((srt s).take i) x (wr.alloc (.cells #[ks x.1, .int .i64 x.2] 29)) HM3.out.size hpx (HhJ.out _ _ _ _ Hin.out.hJ ((Mods.refl No wr).alloc _))
      dsimp only [encY] at hy
      have HR := Lib.hid hR
      clear hR
      unfold ks at x0 hy
      have Hhx := Lib.hid hx
      clear hx
      have Hhpx := Lib.hid hpx
      clear hpx
      gi_wp2
      refine ⟨rfl, HR.out.mono ?_⟩
      rintro e W3 (⟨rfl, hJ3, hk3⟩ | ⟨rfl, hJx3⟩)
      · have HJ3 := Lib.hid hJ3
        have HK3 := Lib.hid hk3
        clear hJ3 hk3
        gi_wp2
        go_roundw
        case rel =>
          refine ⟨i + 1, by go_num, hi, by rw [take_nx Hhx.out]; exact HJ3.out, ?_, ?_⟩
          · refine Hin.out.rd.same fun k hk => ?_
            have hkl := Nat.lt_of_lt_of_le hk.2 Hin.out.le
            exact (HK3.out.block k (by rw [World.size_alloc]; omega) (by omega)).trans (Below.heap_alloc _ _ k hkl)
          · have h1 := HK3.out.size
            rw [World.size_alloc] at h1
            have h2 := Hin.out.le
            omega
        case measure => simp [intOf]; omega
      · have HJ3 := Lib.hid hJx3
        clear hJx3
        gi_wp2
        refine bodyPost_ret (results_none rfl _ _ _) rfl ?_
        exact ⟨⟨_, rfl⟩, _, .inr ⟨_, Hhpx.out, HJ3.out⟩⟩
    · skip
      gi_wp2
      go_end0
      refine ⟨⟨_, rfl⟩, w3.heap.size, .inl ?_⟩
      have h1 := Hin.out.hJ
      rwa [List.take_of_length_le (by omega)] at h1
end Go.Proofs.Ytmfpgghpnkmkpaa
