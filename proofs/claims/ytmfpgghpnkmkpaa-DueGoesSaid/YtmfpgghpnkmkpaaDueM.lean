/- Clone, SortFunc at entries; what All goes over. -/
import Derived.Test.YtmfpgghpnkmkpaaDueK
import Derived.Test.YtmfpgghpnkmkpaaRow
import Derived.WalkSpells
namespace Go.Proofs.Ytmfpgghpnkmkpaa
open Go.RowKit Go.Tum Go.Sort
set_option maxRecDepth 100000
def sortL_ren : Go.Shelf.Ren := ⟨fun | 6 => 34 | 15 => 43 | 14 => 42 | 28 => 53 | 29 => 54 | 20 => 45 | 21 => 46 | 22 => 47 | 23 => 48 | 24 => 49 | 25 => 50 | 26 => 51 | 27 => 52 | 46 => 56 | 47 => 57 | 48 => 58 | 49 => 59 | 50 => 60 | 57 => 62 | n => n, fun | 22 => 22 | 24 => 29 | 25 => 74 | 3 => 3 | 39 => 84 | 0 => 0 | 53 => 97 | 55 => 99 | 4 => 4 | 46 => 91 | 45 => 90 | 50 => 63 | 5 => 5 | 9 => 9 | 66 => 100 | 70 => 104 | 76 => 106 | 77 => 107 | n => n, fun | n => n⟩
set_option maxRecDepth 100000 in
theorem sortL : Go.Proofs.SlLaysF0.n6 Try.prog sortL_ren := {
  mixed := by kernel_rfl,
  f6 := ⟨Try.f34.name, by decide, Try.func34.trans (congrArg some (by kernel_rfl))⟩,
  f14 := ⟨Try.f42.name, by decide, Try.func42.trans (congrArg some (by kernel_rfl))⟩,
  f15 := Try.func43.trans (congrArg some (by kernel_rfl)),
  f20 := ⟨Try.f45.name, by decide, Try.func45.trans (congrArg some (by kernel_rfl))⟩,
  f21 := ⟨Try.f46.name, by decide, Try.func46.trans (congrArg some (by kernel_rfl))⟩,
  f22 := ⟨Try.f47.name, by decide, Try.func47.trans (congrArg some (by kernel_rfl))⟩,
  f23 := ⟨Try.f48.name, by decide, Try.func48.trans (congrArg some (by kernel_rfl))⟩,
  f24 := ⟨Try.f49.name, by decide, Try.func49.trans (congrArg some (by kernel_rfl))⟩,
  f25 := ⟨Try.f50.name, by decide, Try.func50.trans (congrArg some (by kernel_rfl))⟩,
  f26 := ⟨Try.f51.name, by decide, Try.func51.trans (congrArg some (by kernel_rfl))⟩,
  f27 := ⟨Try.f52.name, by decide, Try.func52.trans (congrArg some (by kernel_rfl))⟩,
  f28 := Try.func53.trans (congrArg some (by kernel_rfl)),
  f29 := Try.func54.trans (congrArg some (by kernel_rfl)),
  f46 := ⟨Try.f56.name, by decide, Try.func56.trans (congrArg some (by kernel_rfl))⟩,
  f47 := Try.func57.trans (congrArg some (by kernel_rfl)),
  f48 := Try.func58.trans (congrArg some (by kernel_rfl)),
  f49 := ⟨Try.f59.name, by decide, Try.func59.trans (congrArg some (by kernel_rfl))⟩,
  f50 := ⟨Try.f60.name, by decide, Try.func60.trans (congrArg some (by kernel_rfl))⟩,
  f57 := ⟨Try.f62.name, by decide, Try.func62.trans (congrArg some (by kernel_rfl))⟩,
  t0 := Try.underlying0,
  a0 := Try.isAgg0,
  z0 := Try.sizeOf0,
  v0 := Try.zeroValue0,
  t3 := Try.underlying3,
  a3 := Try.isAgg3,
  z3 := Try.sizeOf3,
  v3 := Try.zeroValue3,
  t4 := Try.underlying4,
  a4 := Try.isAgg4,
  z4 := Try.sizeOf4,
  v4 := Try.zeroValue4,
  t5 := Try.underlying5,
  a5 := Try.isAgg5,
  z5 := Try.sizeOf5,
  v5 := Try.zeroValue5,
  t9 := Try.underlying9,
  a9 := Try.isAgg9,
  z9 := Try.sizeOf9,
  v9 := Try.zeroValue9,
  t22 := Try.underlying22,
  a22 := Try.isAgg22,
  z22 := Try.sizeOf22,
  v22 := Try.zeroValue22,
  t25 := Try.underlying74,
  a25 := Try.isAgg74,
  z25 := Try.sizeOf74,
  v25 := Try.zeroValue74,
  t39 := Try.underlying84,
  a39 := Try.isAgg84,
  z39 := Try.sizeOf84,
  v39 := Try.zeroValue84,
  t45 := Try.underlying90,
  a45 := Try.isAgg90,
  z45 := Try.sizeOf90,
  v45 := Try.zeroValue90,
  t46 := Try.underlying91,
  a46 := Try.isAgg91,
  z46 := Try.sizeOf91,
  v46 := Try.zeroValue91,
  t50 := Try.underlying63,
  a50 := Try.isAgg63,
  z50 := Try.sizeOf63,
  v50 := Try.zeroValue63,
  t53 := Try.underlying97,
  a53 := Try.isAgg97,
  z53 := Try.sizeOf97,
  v53 := Try.zeroValue97,
  t55 := Try.underlying99,
  a55 := Try.isAgg99,
  z55 := Try.sizeOf99,
  v55 := Try.zeroValue99,
  t66 := Try.underlying100,
  a66 := Try.isAgg100,
  z66 := Try.sizeOf100,
  v66 := Try.zeroValue100,
  t70 := Try.underlying104,
  a70 := Try.isAgg104,
  z70 := Try.sizeOf104,
  v70 := Try.zeroValue104,
  t76 := Try.underlying106,
  a76 := Try.isAgg106,
  z76 := Try.sizeOf106,
  v76 := Try.zeroValue106,
  t77 := Try.underlying107,
  a77 := Try.isAgg107,
  z77 := Try.sizeOf107,
  v77 := Try.zeroValue107 }
def encE (x : Ent) : List Value := [ks x.1, .int .i64 x.2]
theorem encE_len (x : Ent) : (encE x).length = 2 := rfl
theorem order_G (w : World) (a b : Ent) : Calls Try.prog 35 #[.agg #[ks a.1, .int .i64 a.2], .agg #[ks b.1, .int .i64 b.2]] w (Ret fun v w' => v = .int .i64 (cmpE a b) ∧ Gr w w') := by
  have hc := fun (w : World) => compare_K w ⟨a.1.toArray⟩ ⟨b.1.toArray⟩
  unfold ks
  go_enter Try.func35, Try.ntmps35
  by_cases h1 : a.2 < b.2
  · have h1' : decide (a.2 < b.2) = true := decide_eq_true h1
    have e : cmpE a b = -1 := if_pos h1
    have He := Lib.hid e
    clear e
    go_wp2_with (first | ((with_reducible refine wp_region_por ?_ ?_ ?_ ?_); kernel_rfl; kernel_rfl; (with_reducible repeat (first | exact calm_ret | refine calm_then ?_ | refine calm_in ?_ | refine calm_chk ?_ | refine calm_noGoto ?_))) | ((with_reducible refine chk_end ?_ ?_); kernel_rfl))
    go_ret
    exact ⟨by rw [He.out]; rfl, by repeat (first | exact Gr.refl _ | apply Gr.drew | apply Gr.alloc)⟩
  · have h1' : decide (a.2 < b.2) = false := decide_eq_false h1
    by_cases h2 : b.2 < a.2
    · have h2' : decide (b.2 < a.2) = true := decide_eq_true h2
      have e : cmpE a b = 1 := (if_neg h1).trans (if_pos h2)
      have He := Lib.hid e
      clear e
      go_wp2_with (first | ((with_reducible refine wp_region_por ?_ ?_ ?_ ?_); kernel_rfl; kernel_rfl; (with_reducible repeat (first | exact calm_ret | refine calm_then ?_ | refine calm_in ?_ | refine calm_chk ?_ | refine calm_noGoto ?_))) | ((with_reducible refine chk_end ?_ ?_); kernel_rfl))
      go_ret
      exact ⟨by rw [He.out]; rfl, by repeat (first | exact Gr.refl _ | apply Gr.drew | apply Gr.alloc)⟩
    · have h2' : decide (b.2 < a.2) = false := decide_eq_false h2
      have e : cmpE a b = Lib.compareBytes a.1 b.1 := (if_neg h1).trans (if_neg h2)
      have He := Lib.hid e
      clear e
      go_wp2_with (first | (go_at_call 44; (refine ret_use (hc _) ?_; rintro v _ ⟨rfl, rfl⟩)) | ((with_reducible refine wp_region_por ?_ ?_ ?_ ?_); kernel_rfl; kernel_rfl; (with_reducible repeat (first | exact calm_ret | refine calm_then ?_ | refine calm_in ?_ | refine calm_chk ?_ | refine calm_noGoto ?_))) | ((with_reducible refine chk_end ?_ ?_); kernel_rfl))
      go_ret
      exact ⟨by rw [He.out]; rfl, by repeat (first | exact Gr.refl _ | apply Gr.drew | apply Gr.alloc)⟩
theorem cmpLaysE (blk off size : Nat) (w : World) : CmpLays Try.prog 35 #[] encE 2 cmpE blk off size w := fun _ _ _ _ x y =>
  (order_G _ x y).mono fun e w' he => by
    cases e with
    | returned v => obtain ⟨rfl, q, os, h⟩ := he; exact ⟨rfl, q, os, h⟩
    | panicked c => exact he.elim
    | outgrown => exact he.elim
theorem ltOf_cmpE (a b : Ent) : ltOf cmpE a b = before a b := cmpE_lt a b
theorem before_irrefl (a : Ent) : before a a = false := by
  cases h : before a a with
  | false => rfl
  | true => rw [before_ord.asym a a h] at h; cases h
theorem swoE : SWO (ltOf cmpE) where
  irrefl x := by rw [ltOf_cmpE]; exact before_irrefl x
  trans x y z h1 h2 := by rw [ltOf_cmpE] at *; exact before_ord.trans _ _ _ h1 h2
  ntrans x y z h1 h2 := by rw [ltOf_cmpE] at *; exact before_ord.not _ _ _ h2 h1
theorem totE (x y : Ent) (h1 : ltOf cmpE x y = false) (h2 : ltOf cmpE y x = false) : x = y := by
  rw [ltOf_cmpE] at h1 h2
  by_cases e : x = y
  · exact e
  · rcases before_total e with h | h
    · rw [h] at h1; cases h1
    · rw [h] at h2; cases h2
/-- The entries in order. -/
def srt (s : QS) : List Ent := ((List.range s.2).map s.1).mergeSort fun x y => !before y x
theorem srt_perm (s : QS) : (srt s).Perm ((List.range s.2).map s.1) := List.mergeSort_perm _ _
theorem srt_len (s : QS) : (srt s).length = s.2 := by rw [(srt_perm s).length_eq]; simp
theorem srt_mem (s : QS) (x : Ent) : x ∈ srt s ↔ Has s.1 s.2 x := by
  rw [(srt_perm s).mem_iff, List.mem_map]
  constructor
  · rintro ⟨i, hi, rfl⟩; exact ⟨i, List.mem_range.1 hi, rfl⟩
  · rintro ⟨i, hi, rfl⟩; exact ⟨i, List.mem_range.2 hi, rfl⟩
theorem sort_K (w : World) (F : Nat → Prop) (v : Value) (s : QS) (h : Own w F 29 2 v s.2 (ents s.1 s.2)) (hn : s.2 ≤ 65536) :
    Calls Try.prog 34 #[v, .func (.func 35) #[] #[]] w (Ret fun _ w' => Own w' F 29 2 v s.2 (entsL (srt s)) ∧ Mods F w w') := by
  obtain ⟨d, n⟩ := s
  dsimp only at h hn ⊢
  have he : ents d n = ((List.range n).map d).flatMap encE := by unfold ents; rw [List.flatMap_map]; rfl
  have hs : entsL (srt (d, n)) = (srt (d, n)).flatMap encE := rfl
  rcases Nat.eq_zero_or_pos n with hz | hz
  · subst hz
    obtain ⟨A, c, rfl, _, _⟩ := h.form
    have hl : srt (d, 0) = [] := List.eq_nil_of_length_eq_zero (srt_len (d, 0))
    refine (AnyF.slices_SortFunc_none sortL A c (.func (.func 35) #[] #[]) w).mono fun e w' ⟨e1, e2⟩ => ?_
    subst e1 e2
    exact ⟨by rw [hl]; exact h, Mods.refl _ _⟩
  · obtain ⟨g, c, rfl, hg, hc, _⟩ := h.cells hz
    obtain ⟨cur, hcur⟩ := h.typed g rfl
    rw [he] at h
    have hsz : ((List.range n).map d).toArray.size = n := by simp
    have hcon := AnyQ.slices_SortFunc_total sortL 2 Try.isAgg29 Try.sizeOf29 encE encE_len (fun x v hv => two_one' x.1 x.2 v hv) cmpE swoE 35 #[] g 0 c ((List.range n).map d).toArray w
      (enters_of Try.func35 (by kernel_rfl) rfl) (cmpLaysE _ _ _ _) (own_holdsK encE_len (by simp) h) hcur.lt (by rw [hsz]; omega) totE
    rw [hsz] at hcon
    refine hcon.mono fun e w' ⟨e1, m, os, e2⟩ => ?_
    subst e1 e2
    have e3 : (((List.range n).map d).toArray.toList.mergeSort fun x y => !(ltOf cmpE) y x) = srt (d, n) := by
      unfold srt
      congr 1
      funext x y
      rw [ltOf_cmpE]
    rw [e3]
    obtain ⟨k1, k2⟩ := own_sorted encE_len (srt_len (d, n)) h m os
    exact ⟨k1, k2.mono fun _ _ e => e ▸ hg⟩
theorem entsL_srt0 (d : Nat → Ent) (n : Nat) : ents d n = entsL ((List.range n).map d) := by unfold ents entsL; rw [List.flatMap_map]
theorem sclone_K (w : World) (F : Nat → Prop) (v : Value) (n : Nat) (xs : List Value) (h : Own w F 29 2 v n xs) (h1 : ∀ u ∈ xs, u.oneCell' = true) (hn : n ≤ 65536) :
    Calls Try.prog 33 #[v] w (Ret fun v' w' => Own w' (fun g => w.heap.size ≤ g) 29 2 v' n xs ∧ Mods No w w') := by
  have h' := h
  rcases h'.1.2 with ⟨rfl, rfl⟩ | ⟨g, cap, cur, rfl, _⟩
  · obtain rfl : xs = [] := List.eq_nil_of_length_eq_zero (by simpa using h'.1.1)
    have e1 := Lib.run_eql_slice_nil (P := Try.prog) w 22 29 none 0 0 0 0 Try.underlying22
    go_enter Try.func33, Try.ntmps33
    go_wp2
    go_ret
    exact ⟨Own.nil _ _ _ _, Mods.refl _ _⟩
  · have e1 := Lib.run_eql_slice_nil (P := Try.prog) w 22 29 (some ⟨g, 0, none⟩) n cap 0 0 Try.underlying22
    have Hh := Lib.hid h
    clear h
    have Hh' := Lib.hid h'
    clear h'
    go_enter Try.func33, Try.ntmps33
    have hE : Own (w.alloc (.cells #[] 29)) (fun g => g = w.heap.size) 29 2 (.slice (some ⟨w.heap.size, 0, none⟩) 0 0) 0 [] :=
      ⟨⟨rfl, .inr ⟨w.heap.size, 0, #[], rfl, Nat.zero_le _, heap_alloc_new w _, Nat.le_refl _, Nat.zero_le _, rfl, rfl⟩⟩, fun g hg => by injection hg with hg; exact hg.symm⟩
    have HE := Lib.hid hE
    have HR := Lib.hid (Own.alloc' Hh.out (.cells #[] 29)).rd
    clear hE
    go_wp2_with (first | (at_builtin; ((refine wpList_append _ rfl (.tmp 5) (.tmp 6) 22 rfl 29 (.agg #[.string ⟨#[]⟩, .int .i64 0]) 2 24 Try.underlying22 infoDue rfl (by decide) (F := fun g => g = w.heap.size) (n := 0) (xs := []) (by rfl) HE.out (G := F) (y := .slice (some ⟨g, 0, none⟩) n cap) (m := n) (news := xs) (by rfl) HR.out h1 (by omega) (by decide) ?_); intro v4 w4 hown4 hm4 _; (simp only [Nat.zero_add, List.nil_append] at hown4); have HO4 := Lib.hid hown4; have HM4 := Lib.hid hm4; obtain ⟨A4, c4, rfl, _, _⟩ := hown4.form; clear hown4 hm4)) | ((with_reducible refine wp_region_por ?_ ?_ ?_ ?_); kernel_rfl; kernel_rfl; (with_reducible repeat (first | exact calm_ret | refine calm_then ?_ | refine calm_in ?_ | refine calm_chk ?_ | refine calm_noGoto ?_))) | ((with_reducible refine chk_end ?_ ?_); kernel_rfl))
    go_ret
    refine ⟨HO4.out.more fun k hk => ?_, ((Mods.refl No w).alloc _).trans HM4.out fun k hk e => ?_⟩
    · rcases hk with hk | hk
      · injection hk with hk
        exact Nat.le_of_eq hk
      · rw [World.size_alloc] at hk; omega
    · injection e with e
      exact absurd hk (by rw [← e]; exact Nat.lt_irrefl _)
end Go.Proofs.Ytmfpgghpnkmkpaa
