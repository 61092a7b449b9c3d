/- tumblerlaw07's all. -/
import Derived.Test.YtmfpgghpnkmkpaaDueN
namespace Go.Proofs.Ytmfpgghpnkmkpaa
open Go.RowKit Go.Tum Go.Shelf
set_option maxRecDepth 100000
attribute [local go_sem] Oper.semAt_some
theorem calls_of_wp_marks {P : Program} {f : FuncId} {fn : Func} {c : Code} {args : Array Value} {w : World} {R : Ending → World → Prop} (hf : P.funcs[f]? = some fn) (hb : fn.body = some c)
    (h : c.wp P (bodyPostM Fence.wide 0 P fn R) { tmps := args ++ Array.replicate (fn.ntmps - args.size) undef, defers := [] } w) : Calls P f args w R :=
  callsIn_wide.1 (callsIn_of_wp_marks (n := 0) hf hb trivial (wpIn_wide.2 h))
theorem leave_mark {P : Program} {fn : Func} {Φ : Value → World → Prop} {t D : Nat} {tmps : Array Value} {W : World} {args : Array Value} (hres : fn.results = #[.tmp t]) (hK : W.heap[D]? = some (.deferred (some []))) (h : Φ (tmps.getD t undef) (W.putObj D (.deferred none))) :
    bodyPostM Fence.wide 0 P fn (Ret Φ) Exit.ret { tmps := tmps, defers := [{ target := .collected D, args := args }] } W :=
  ⟨by simp, .inl ⟨D, _, rfl, run_takeDeferred hK, ⟨_, results_tmp hres _ _ _, h⟩⟩⟩
def upTo (most : Int) (l : List Ent) : List Ent := if 0 ≤ most then l.take most.toNat else l
theorem upTo_all {most : Int} {l : List Ent} (h : 0 ≤ most → (l.length : Int) ≤ most) : upTo most l = l := by
  unfold upTo
  split
  · rename_i h0; exact List.take_of_length_le (by have := h h0; omega)
  · rfl
theorem upTo_pre {most : Int} {l pre : List Ent} (hp : pre <+: l) (h : (pre.length : Int) = most) : upTo most l = pre := by
  unfold upTo
  rw [if_pos (by omega)]
  obtain ⟨b, rfl⟩ := hp
  have : most.toNat = pre.length := by omega
  rw [this]; simp
/-- Between two rounds: pre is collected in the box Bl. -/
structure AllI (w : World) (Bm Bl : Nat) (most : Int) (n0 m : Nat) (pre : List Ent) (W : World) : Prop where
  bl : ∃ v, Cells W Bl 22 #[v] ∧ Tum.Own W (fun b => m ≤ b) 29 2 v pre.length (entsL pre)
  bm : Cells W Bm 3 #[.int .i64 most]
  hm : Mods No w W
  le : m ≤ W.heap.size
  cap : 0 ≤ most → (pre.length : Int) ≤ most
/-- What is collected, behind the loop. -/
theorem AllI.done {w W : World} {Bm Bl : Nat} {most : Int} {n0 m D : Nat} {pre : List Ent} {v : Value} (hi : AllI w Bm Bl most n0 m pre W) (hown : Tum.Own W (fun b => m ≤ b) 29 2 v pre.length (entsL pre)) (hD : W.heap[D]? = some (.deferred (some []))) (hwD : w.heap.size ≤ D) (hDm : w.heap.size ≤ m) :
    Tum.Own (W.putObj D (.deferred none)) (fun b => w.heap.size ≤ b) 29 2 v pre.length (entsL pre) ∧ Mods No w (W.putObj D (.deferred none)) := by
  have hm := mods_putObj (S := fun b => b = D) W D (.deferred none) rfl
  refine ⟨(hown.mods hm fun g hg e => ?_).more fun k hk => by omega, hi.hm.trans hm fun k hk e => by omega⟩
  obtain ⟨cur, hc⟩ := hown.typed g hg
  subst e
  unfold Cells at hc
  rw [hD] at hc
  cases hc
def AllIx (w : World) (Bm Bl : Nat) (most : Int) (n0 m : Nat) (c : Code) (P : List Ent) (W : World) : Prop := c = .exit 0 ∧ ∃ pre x, P = pre ++ [x] ∧ AllI w Bm Bl most n0 m pre W ∧ (pre.length : Int) = most
set_option maxHeartbeats 3200000 in
theorem allg_K (w : World) (pv : Option Addr) (S : List Ent) (most : Int) (hsm : S.length ≤ 65536)
    (hit : ∀ (W1 : World) (Bx : Nat), Mods No w W1 → Cells W1 Bx 23 #[.pointer pv] → Iter Try.prog 32 #[(.pointer (some ⟨Bx, 0, none⟩))] encY S W1) :
    Calls Try.prog 20 #[.pointer pv, .int .i64 most] w (Ret fun v w' => Tum.Own w' (fun b => w.heap.size ≤ b) 29 2 v (upTo most S).length (entsL (upTo most S)) ∧ Mods No w w') := by
  have ha := fun w' => all_K w' pv
  have Hhit := Lib.hid hit
  clear hit
  have Hha := Lib.hid ha
  clear ha
  refine calls_of_wp_marks Try.func20 rfl ?_
  simp only [Try.ntmps20, List.size_toArray, List.length_cons, List.length_nil, Nat.reduceAdd, Nat.reduceSub, Array.replicate_succ, Array.replicate_zero, List.push_toArray, List.append_toArray, List.nil_append, List.cons_append]
  go_wp2_with (first | (go_at_call 21; (refine ret_use (Hha.out _) ?_; rintro v w2 ⟨rfl, rfl⟩)) | ((with_reducible refine wp_region_por ?_ ?_ ?_ ?_); kernel_rfl; kernel_rfl; (with_reducible repeat (first | exact calm_ret | refine calm_then ?_ | refine calm_in ?_ | refine calm_chk ?_ | refine calm_noGoto ?_))) | ((with_reducible refine chk_end ?_ ?_); kernel_rfl))
  obtain ⟨wS, hwS⟩ : ∃ x, x = ((w.alloc (.cells #[.int .i64 most] 3)).alloc (.cells #[.slice none 0 0] 22)).alloc (.cells #[.pointer pv] 23) := ⟨_, rfl⟩
  have hz : wS.heap.size = w.heap.size + 3 := by rw [hwS]; simp only [World.size_alloc]
  have hMS : Mods No w wS := by rw [hwS]; exact (((Mods.refl No w).alloc _).alloc _).alloc _
  have hCm : Cells wS w.heap.size 3 #[.int .i64 most] := by rw [hwS]; exact ((Cells.new w _ _).alloc _).alloc _
  have hCl : Cells wS (w.heap.size + 1) 22 #[.slice none 0 0] := by
    have h1 := Cells.new (w.alloc (.cells #[.int .i64 most] 3)) 22 #[.slice none 0 0]
    rw [World.size_alloc] at h1
    rw [hwS]; exact h1.alloc _
  have hCq : Cells wS (w.heap.size + 1 + 1) 23 #[.pointer pv] := by
    have h1 := Cells.new ((w.alloc (.cells #[.int .i64 most] 3)).alloc (.cells #[.slice none 0 0] 22)) 23 #[.pointer pv]
    rw [World.size_alloc, World.size_alloc] at h1
    rw [hwS]; exact h1
  rw [← hwS]
  clear hwS
  have HhMS := Lib.hid hMS
  clear hMS
  have HhCm := Lib.hid hCm
  clear hCm
  have HhCl := Lib.hid hCl
  clear hCl
  have HhCq := Lib.hid hCq
  clear hCq
  refine wp_rangeFunc (gf := 32) (lb := #[(.pointer (some ⟨w.heap.size + 1 + 1, 0, none⟩))]) rfl (enters_of Try.func32 (by kernel_rfl) rfl) (encs := encY) (xs := S) (fun _ => rfl)
    (AllI w w.heap.size (w.heap.size + 1) most wS.heap.size) (AllIx w w.heap.size (w.heap.size + 1) most wS.heap.size) ?hI ?hIx ?hiter ?h0 ?hround ?hdone ?hstop
  case hI =>
    intro m pre W W' hi hm
    obtain ⟨v, h1, h2⟩ := hi.bl
    exact ⟨⟨v, h1.mods hm (by omega), h2.mods hm fun g hg e => by have := h2.2 g hg; omega⟩, hi.bm.mods hm (by omega), hi.hm.trans hm fun k hk e => by omega, Nat.le_trans hi.le hm.size, hi.cap⟩
  case hIx =>
    rintro m c P W W' ⟨rfl, pre, x, rfl, hi, he⟩ hm
    obtain ⟨v, h1, h2⟩ := hi.bl
    exact ⟨rfl, pre, x, rfl, ⟨⟨v, h1.mods hm (by omega), h2.mods hm fun g hg e => by have := h2.2 g hg; omega⟩, hi.bm.mods hm (by omega), hi.hm.trans hm fun k hk e => by omega, Nat.le_trans hi.le hm.size, hi.cap⟩, he⟩
  case hiter =>
    intro W1 hm _
    exact Hhit.out W1 _ (HhMS.out.trans hm fun _ _ e => e) (HhCq.out.mods hm fun e => e)
  case h0 =>
    intro W' hm
    exact ⟨⟨_, HhCl.out.mods hm fun e => e, Tum.Own.nil _ _ _ _⟩, HhCm.out.mods hm fun e => e, HhMS.out.trans hm fun _ _ e => e, Nat.le_refl _, fun h => h⟩
  case hround =>
    intro l m pre x W hl hm hpx hi hlW
    obtain ⟨v, hbl, hown⟩ := hi.bl
    have Hi := Lib.hid hi
    have lW := hbl.lt
    have lm := hi.bm.lt
    clear hi
    unfold encY ks
    dsimp only [List.zip_toArray, List.zip_cons_cons, List.zip_nil_left]
    gi_wp2
    refine ⟨(Mods.refl No W).alloc _, fun W2 hm2 hz2 => ?_⟩
    rw [World.size_alloc] at hz2
    have hMW : Mods (fun b => b = l) W W2 := ((Mods.refl (fun b => b = l) W).alloc _).trans hm2 fun _ _ e => e
    have hbx : Cells W2 W.heap.size 29 #[ks x.1, .int .i64 x.2] := (Cells.new W _ _).mods hm2 (by omega)
    have hbl2 : Cells W2 (w.heap.size + 1) 22 #[v] := hbl.mods hMW (by omega)
    have hbm2 : Cells W2 w.heap.size 3 #[.int .i64 most] := Hi.out.bm.mods hMW (by omega)
    have hown2 := hown.mods hMW fun g hg e => by have := hown.2 g hg; omega
    have hM2 : Mods No w W2 := Hi.out.hm.trans hMW fun k hk e => by omega
    have x0 := hbx.at_ 0 rfl
    have x1 := hbx.at_ 1 rfl
    have b0 := hbl2.at_ 0 rfl
    have bf := hbl2.frozen 0
    have m0 := hbm2.at_ 0 rfl
    have l2 : W.heap.size < W2.heap.size := by omega
    have lb2 := hbl2.lt
    unfold ks at x0
    obtain ⟨A, c, rfl, _, _⟩ := hown.form
    have hlen : pre.length ≤ 65536 := by have := hpx.length_le; simp at this; omega
    have hll : l < W2.heap.size := by omega
    have hSm : wS.heap.size ≤ W2.heap.size := by omega
    have hsW : W.heap.size + 1 ≤ W2.heap.size := by omega
    have HhMW := Lib.hid hMW
    clear hMW
    have Hhbx := Lib.hid hbx
    clear hbx
    have Hhbl2 := Lib.hid hbl2
    clear hbl2
    have Hhbm2 := Lib.hid hbm2
    clear hbm2
    have Hhown2 := Lib.hid hown2
    clear hown2
    have Hhown := Lib.hid hown
    clear hown
    have Hhbl := Lib.hid hbl
    clear hbl
    have HhM2 := Lib.hid hM2
    clear hM2
    have Hhm2 := Lib.hid hm2
    clear hm2
    have Hhpx := Lib.hid hpx
    clear hpx
    have Hhz := Lib.hid hz
    clear hz
    have Hhz2 := Lib.hid hz2
    clear hz2
    have Hhl := Lib.hid hl
    clear hl
    by_cases he : (pre.length : Int) = most
    · have he' : ((pre.length : Int) == most) = true := by simpa using he
      gi_wp2
      exact ⟨Mods.refl _ _, rfl, pre, x, rfl, ⟨⟨_, Hhbl2.out, Hhown2.out⟩, Hhbm2.out, HhM2.out, Nat.le_trans Hi.out.le (by omega), Hi.out.cap⟩, he⟩
    · have he' : ((pre.length : Int) == most) = false := by simpa using he
      have HO := Lib.hid (fun o => Own.alloc' Hhown2.out o)
      gi_wp2_with (first | (gi_at_builtin; go_loud (refine wpListIn_append _ rfl (.tmp 14) (.tmp 16) 22 rfl 29 (.agg #[.string ⟨#[]⟩, .int .i64 0]) 2 24 Try.underlying22 infoDue rfl (by decide) (F := fun b => m ≤ b) (n := pre.length) (xs := entsL pre) (by rfl) (HO.out _) (G := fun g => g = W2.heap.size) (y := .slice (some ⟨W2.heap.size, 0, none⟩) 1 1) (m := 1) (news := [ks x.1, .int .i64 x.2]) (by rfl) (Rd.box _ #[ks x.1, .int .i64 x.2] _ rfl rfl (by decide)) (two_one' _ _) (by omega) (by decide) ?_; intro v4 w4 hown4 hm4 hlt4; have HB4 := Lib.hid ((Hhbl2.out.alloc _).mods hm4 (fun e => by have := Hhown2.out.2 _ e; have := Hhz.out; omega)); have k4 := HB4.out.at_ 0 rfl; have k5 := HB4.out.frozen 0; have HM4 := Lib.hid hm4; have HO4 := Lib.hid hown4; obtain ⟨A4, c4, rfl, _, _⟩ := hown4.form; clear hown4 hm4 hlt4)))
      have hz := Hhz.out
      have hlW2 := Hi.out.le
      have hS4 := HM4.out.size
      rw [World.size_alloc] at hS4
      have hnb : (Value.slice A4 (pre.length + 1) c4).ownBlock ≠ some (w.heap.size + 1) := fun e => by
        rcases HO4.out.2 _ e with e | e
        · have := Hhown2.out.2 _ e; omega
        · rw [World.size_alloc] at e; omega
      refine ⟨(((Mods.refl (fun b => b < wS.heap.size ∨ m ≤ b) W2).alloc _).trans HM4.out fun k _ e => .inr (Hhown2.out.2 k e)).setCell _ _ fun _ => .inl (by show w.heap.size + 1 < _; omega), ⟨⟨_, HB4.out.set_ 0 _, ?_⟩, ?_, ?_, ?_, ?_⟩⟩
      · have h1 := HO4.out.far (p := ⟨w.heap.size + 1, 0, none⟩) hnb (.slice A4 (pre.length + 1) c4)
        rw [entsL_snoc] at h1
        rw [show (pre ++ [x]).length = pre.length + 1 by simp]
        refine h1.more fun k hk => ?_
        rcases hk with hk | hk
        · exact Hhown2.out.2 k hk
        · rw [World.size_alloc] at hk; omega
      · exact ((Hhbm2.out.alloc _).mods HM4.out fun e => by have := Hhown2.out.2 _ e; omega).far (by simp) _
      · exact ((HhM2.out.alloc (.cells #[ks x.1, .int .i64 x.2] 29)).trans HM4.out fun k hk e => by have := Hhown2.out.2 k e; omega).setCell _ _ fun h => by exfalso; simp at h; omega
      · have : (w4.setCell ⟨w.heap.size + 1, 0, none⟩ (.slice A4 (pre.length + 1) c4)).heap.size = w4.heap.size := by simp [World.setCell]
        rw [this]; omega
      · intro h1
        have h2 := Hi.out.cap h1
        simp only [List.length_append, List.length_cons, List.length_nil]
        omega
  case hdone =>
    intro D m W hD hm hi hK
    obtain ⟨v, hbl, hown⟩ := hi.bl
    have b0 := hbl.at_ 0 rfl
    obtain ⟨A, c, rfl, _, _⟩ := hown.form
    have Hi := Lib.hid hi
    have Hhbl := Lib.hid hbl
    clear hbl
    have Hhown := Lib.hid hown
    clear hown
    have HhK := Lib.hid hK
    clear hK
    clear hi
    go_wp2
    refine leave_mark rfl HhK.out ?_
    rw [upTo_all Hi.out.cap]
    exact Hi.out.done Hhown.out HhK.out (by omega) (by omega)
  case hstop =>
    rintro D m c P W hD hm hpx ⟨rfl, pre, x, rfl, hi, he⟩ hK
    obtain ⟨v, hbl, hown⟩ := hi.bl
    have b0 := hbl.at_ 0 rfl
    obtain ⟨A, c, rfl, _, _⟩ := hown.form
    have Hi := Lib.hid hi
    have Hhbl := Lib.hid hbl
    clear hbl
    have Hhown := Lib.hid hown
    clear hown
    have HhK := Lib.hid hK
    clear hK
    have Hhpx := Lib.hid hpx
    clear hpx
    have Hhe := Lib.hid he
    clear he
    clear hi
    go_wp2
    refine leave_mark rfl HhK.out ?_
    rw [upTo_pre ((List.prefix_append pre [x]).trans Hhpx.out) Hhe.out]
    exact Hi.out.done Hhown.out HhK.out (by omega) (by omega)
theorem allq_K (w : World) (q : Nat) (lim : Int) (s : QS) (F : Nat → Prop) (most : Int) (h : QueueK w q lim s.1 s.2 F) (h0 : 0 < lim) :
    Calls Try.prog 20 #[(.pointer (some ⟨q, 0, none⟩)), .int .i64 most] w (Ret fun v w' => Tum.Own w' (fun b => w.heap.size ≤ b) 29 2 v (upTo most (srt s)).length (entsL (upTo most (srt s))) ∧ Mods No w w') :=
  allg_K w (some ⟨q, 0, none⟩) (srt s) most (by rw [srt_len]; exact h.small) fun W1 Bx hm hb => iter_K W1 Bx q lim s F hb (h.no hm) h0
end Go.Proofs.Ytmfpgghpnkmkpaa
