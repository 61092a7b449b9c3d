/- The reference's queue: Drop, At, Next, Take. -/
import Derived.Test.YtmfpgghpnkmkpaaDueQ
namespace Go.Proofs.Ytmfpgghpnkmkpaa
open Go.RowKit Go.Tum Go.Shelf
set_option maxRecDepth 100000
abbrev fi (L : List Ent) (key : List UInt8) : Option Nat := L.findIdx? fun x => decide (x.1 = key)
theorem place_fi (L : List Ent) (key : List UInt8) : place L key = match fi L key with | some i => (i : Int) | none => -1 := rfl
theorem fi_cases (L : List Ent) (key : List UInt8) : (fi L key = none ∧ ∀ x ∈ L, x.1 ≠ key) ∨ ∃ i x, fi L key = some i ∧ i < L.length ∧ L[i]? = some x ∧ x.1 = key ∧ ∀ y ∈ L.take i, y.1 ≠ key := by
  cases h : fi L key with
  | none =>
    rw [List.findIdx?_eq_none_iff] at h
    exact .inl ⟨rfl, fun x hx => by simpa using h x hx⟩
  | some i =>
    rw [List.findIdx?_eq_some_iff_getElem] at h
    obtain ⟨h1, h2, h3⟩ := h
    refine .inr ⟨i, L[i], rfl, h1, List.getElem?_eq_getElem h1, by simpa using h2, fun y hy => ?_⟩
    rw [List.mem_take_iff_getElem] at hy
    obtain ⟨j, hj, rfl⟩ := hy
    simpa using h3 j (by omega)
def refAt (L : List Ent) (key : List UInt8) : Int × Bool := match fi L key with | some i => (((L[i]?).map (·.2)).getD 0, true) | none => (0, false)
def refNext (L : List Ent) : Ent × Bool := match L with | x :: _ => (x, true) | [] => (([], 0), false)
def refDrop (L : List Ent) (key : List UInt8) : List Ent × Bool := match fi L key with | some i => (L.take i ++ L.drop (i + 1), true) | none => (L, false)
theorem RK.put {w : World} {r : Nat} {lim : Int} {v u : Value} {M : List Ent} {G : Nat → Prop} (h : Cells w r 40 #[.int .i64 lim, v]) (ho : Rd w G 2 u M.length (entsL M)) (hG : ∀ g, G g → g ≠ r ∧ g < w.heap.size) (hs : M.length ≤ 65536) :
    RK (w.setCell ⟨r, 1, none⟩ u) r lim u M G :=
  ⟨h.set_ 1 u, ho.same (Same.setCell w _ u fun e => (hG _ e).1 rfl), fun e => (hG _ e).1 rfl, fun g hg => by rw [show (w.setCell ⟨r, 1, none⟩ u).heap.size = w.heap.size by simp [World.setCell]]; exact (hG g hg).2, hs⟩
theorem rat_K (w : World) (r : Nat) (lim : Int) (L : List Ent) (F : Nat → Prop) (key : List UInt8) (h : RefK w r lim L F) :
    Calls Try.prog 37 #[(.pointer (some ⟨r, 0, none⟩)), ks key] w (Ret fun v w' => v = .tuple #[.int .i64 (refAt L key).1, .bool (refAt L key).2] ∧ Mods No w w') := by
  have hf := find_K w r lim L F key h
  obtain ⟨v, h⟩ := h
  obtain ⟨A, c, rfl, hac, hac2⟩ := h.rd.form
  have hsm := h.small
  have Hh := Lib.hid h
  clear h
  have Hhf := Lib.hid hf
  clear hf
  rcases fi_cases L key with ⟨e1, e2⟩ | ⟨i, x, e1, e2, e3, e4, e5⟩
  · have hp : place L key = -1 := by rw [place_fi, e1]
    rw [hp] at Hhf
    have HE := Lib.hid e1
    clear e1 e2 hp
    unfold ks at *
    go_enter Try.func37, Try.ntmps37
    go_wp2_with (first | (go_at_call 30; (refine ret_use (Hhf.out) ?_; rintro v w2 ⟨rfl, hm2⟩; have HM2 := Lib.hid hm2; clear hm2)) | ((with_reducible refine wp_region_por ?_ ?_ ?_ ?_); kernel_rfl; kernel_rfl; (with_reducible repeat (first | exact calm_ret | refine calm_then ?_ | refine calm_in ?_ | refine calm_chk ?_ | refine calm_noGoto ?_))) | ((with_reducible refine chk_end ?_ ?_); kernel_rfl))
    go_ret2
    unfold refAt
    rw [HE.out]
    exact ⟨rfl, HM2.out⟩
  · have hp : place L key = i := by rw [place_fi, e1]
    rw [hp] at Hhf
    have HE := Lib.hid (And.intro e1 e3)
    clear e1 e3 hp e5
    unfold ks at *
    go_enter Try.func37, Try.ntmps37
    go_wp2_with (first | (go_at_call 30; (refine ret_use (Hhf.out) ?_; rintro v w2 ⟨rfl, hm2⟩; have c0 := (Hh.out.cells.mods hm2 fun e => e).at_ 1 rfl; obtain ⟨b1, o1, rfl, _, x0, x1⟩ := (Hh.out.mods hm2 (fun e => e) fun _ _ e => e).rd.pair HE.out.2; (unfold ks at x0); have HM2 := Lib.hid hm2; clear hm2)) | ((with_reducible refine wp_region_por ?_ ?_ ?_ ?_); kernel_rfl; kernel_rfl; (with_reducible repeat (first | exact calm_ret | refine calm_then ?_ | refine calm_in ?_ | refine calm_chk ?_ | refine calm_noGoto ?_))) | ((with_reducible refine chk_end ?_ ?_); kernel_rfl))
    go_ret2
    unfold refAt
    rw [HE.out.1]
    dsimp only
    rw [HE.out.2]
    exact ⟨rfl, HM2.out⟩
theorem rnext_K (w : World) (r : Nat) (lim : Int) (L : List Ent) (F : Nat → Prop) (h : RefK w r lim L F) :
    Calls Try.prog 38 #[(.pointer (some ⟨r, 0, none⟩))] w (Ret fun v w' => v = .tuple #[.agg #[ks (refNext L).1.1, .int .i64 (refNext L).1.2], .bool (refNext L).2] ∧ Mods No w w') := by
  obtain ⟨v, h⟩ := h
  obtain ⟨A, c, rfl, hac, hac2⟩ := h.rd.form
  have hsm := h.small
  have c0 := h.cells.at_ 1 rfl
  have lr := h.cells.lt
  cases L with
  | nil =>
    have Hh := Lib.hid h
    clear h
    go_enter Try.func38, Try.ntmps38
    go_wp2_with (first | ((with_reducible refine wp_region_por ?_ ?_ ?_ ?_); kernel_rfl; kernel_rfl; (with_reducible repeat (first | exact calm_ret | refine calm_then ?_ | refine calm_in ?_ | refine calm_chk ?_ | refine calm_noGoto ?_))) | ((with_reducible refine chk_end ?_ ?_); kernel_rfl))
    refine bodyPost_ret (results_pair rfl _ _ w.heap.size 29 _ (0, 0) _ rfl (Cells.new w _ _) Try.underlying29 rfl infoDue2) rfl ?_
    exact ⟨rfl, (Mods.refl No w).alloc _⟩
  | cons x L =>
    obtain ⟨b1, o1, rfl, hb1, x0, x1⟩ := h.rd.pair (i := 0) (x := x) rfl
    have lb := h.lt _ hb1
    rw [Nat.zero_mul, Nat.add_zero] at x0 x1
    simp only [List.length_cons] at hac hsm c0
    have hz : ((L.length : Int) + 1 == 0) = false := by simp; omega
    have Hh := Lib.hid h
    clear h
    unfold ks at x0
    go_enter Try.func38, Try.ntmps38
    go_wp2_with (first | ((with_reducible refine wp_region_por ?_ ?_ ?_ ?_); kernel_rfl; kernel_rfl; (with_reducible repeat (first | exact calm_ret | refine calm_then ?_ | refine calm_in ?_ | refine calm_chk ?_ | refine calm_noGoto ?_))) | ((with_reducible refine chk_end ?_ ?_); kernel_rfl))
    refine bodyPost_ret (results_pair rfl _ _ w.heap.size 29 _ (0, 0) _ rfl (Cells.new w _ _) Try.underlying29 rfl infoDue2) rfl ?_
    exact ⟨rfl, (Mods.refl No w).alloc _⟩
theorem rdrop_K (w : World) (r : Nat) (lim : Int) (L : List Ent) (F : Nat → Prop) (key : List UInt8) (h : RefK w r lim L F) :
    Calls Try.prog 23 #[(.pointer (some ⟨r, 0, none⟩)), ks key] w (Ret fun v w' => v = .bool (refDrop L key).2 ∧ Mods (fun k => k = r) w w' ∧ ∃ G, RefK w' r lim (refDrop L key).1 G ∧ ∀ g, G g → F g ∨ w.heap.size ≤ g) := by
  have hf := find_K w r lim L F key h
  have h' := h
  obtain ⟨v, h⟩ := h
  obtain ⟨A, c, rfl, hac, hac2⟩ := h.rd.form
  have hsm := h.small
  have Hh := Lib.hid h
  clear h
  have Hhf := Lib.hid hf
  clear hf
  have Hh' := Lib.hid h'
  clear h'
  rcases fi_cases L key with ⟨e1, e2⟩ | ⟨i, x, e1, e2, e3, e4, e5⟩
  · have hp : place L key = -1 := by rw [place_fi, e1]
    rw [hp] at Hhf
    have HE := Lib.hid e1
    clear e1 e2 hp
    unfold ks at *
    go_enter Try.func23, Try.ntmps23
    go_wp2_with (first | (go_at_call 30; (refine ret_use (Hhf.out) ?_; rintro v w2 ⟨rfl, hm2⟩; have HM2 := Lib.hid hm2; clear hm2)) | ((with_reducible refine wp_region_por ?_ ?_ ?_ ?_); kernel_rfl; kernel_rfl; (with_reducible repeat (first | exact calm_ret | refine calm_then ?_ | refine calm_in ?_ | refine calm_chk ?_ | refine calm_noGoto ?_))) | ((with_reducible refine chk_end ?_ ?_); kernel_rfl))
    go_ret
    unfold refDrop
    rw [HE.out]
    exact ⟨rfl, HM2.out.mono no_sub, F, Hh'.out.no HM2.out, fun g e => .inl e⟩
  · have hp : place L key = i := by rw [place_fi, e1]
    rw [hp] at Hhf
    have hw := fun w' (hm : Mods No w w') => without_K w' r lim L F i (Hh'.out.no hm) e2
    have hl : (L.take i ++ L.drop (i + 1)).length ≤ 65536 := by simp only [List.length_append, List.length_take, List.length_drop]; omega
    obtain ⟨M, hM⟩ : ∃ M, M = L.take i ++ L.drop (i + 1) := ⟨_, rfl⟩
    simp only [← hM] at hw hl
    have HE := Lib.hid (And.intro e1 hM)
    have Hhw := Lib.hid hw
    clear hw
    clear e1 e3 hp e5 hM
    unfold ks at *
    go_enter Try.func23, Try.ntmps23
    go_wp2_with (first | (go_at_call 30; (refine ret_use (Hhf.out) ?_; rintro v w2 ⟨rfl, hm2⟩; have HM2 := Lib.hid hm2; clear hm2)) | (go_at_call 31; (refine ret_use (Hhw.out _ HM2.out) ?_; rintro v w3 ⟨ho3, hm3⟩; have HM3 := Lib.hid hm3; have HO3 := Lib.hid ho3; have HC3 := Lib.hid ((Hh.out.cells.mods HM2.out fun e => e).mods hm3 fun e => e); have c3 := HC3.out.at_ 1 rfl; have f3 := HC3.out.frozen 1; have l3 := HC3.out.lt; obtain ⟨A4, c4, rfl, _, _⟩ := ho3.form; clear ho3 hm3)) | ((with_reducible refine wp_region_por ?_ ?_ ?_ ?_); kernel_rfl; kernel_rfl; (with_reducible repeat (first | exact calm_ret | refine calm_then ?_ | refine calm_in ?_ | refine calm_chk ?_ | refine calm_noGoto ?_))) | ((with_reducible refine chk_end ?_ ?_); kernel_rfl))
    go_ret
    unfold refDrop
    rw [HE.out.1]
    dsimp only
    rw [← HE.out.2]
    have hr : r < w3.heap.size := HC3.out.lt
    have hs := HM2.out.size
    have hrw := Hh.out.cells.lt
    refine ⟨rfl, ((HM2.out.trans HM3.out fun _ _ e => e).mono no_sub).setCell _ _ fun _ => rfl, fun g => w2.heap.size ≤ g ∧ g < w3.heap.size, ⟨_, RK.put HC3.out (Rd.of_own HO3.out.1 fun g hg => ⟨HO3.out.2 g hg, HO3.out.lt g hg⟩) (fun g hg => ⟨by omega, hg.2⟩) hl⟩, fun g hg => .inr (by omega)⟩
end Go.Proofs.Ytmfpgghpnkmkpaa
