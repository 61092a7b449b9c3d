/- Package relay: records as cells; a queue's put and take. -/
import Derived.Test.YtcifajfmdpjfiaaDoorRgO
import Derived.Test.YtcifajfmdpjfiaaDoorRgP
import Derived.Test.YtcifajfmdpjfiaaDoorMPl
import Derived.Test.YtcifajfmdpjfiaaDoorMBs
import Derived.BigQuiet
namespace Go.Proofs.YtcifajfmdpjfiaaDoor
open Go.RowKit Go.Tum Go.Lib Go.Sort
set_option maxRecDepth 100000
def rc (x : Rcd) : List Value := [ks x.1, .int .i64 x.2.1, .int .u64 x.2.2.1, .int .i64 x.2.2.2]
def rv (x : Rcd) : Value := .agg #[ks x.1, .int .i64 x.2.1, .int .u64 x.2.2.1, .int .i64 x.2.2.2]
theorem rc_len (x : Rcd) : (rc x).length = 4 := rfl
def rcs (l : List Rcd) : List Value := l.flatMap rc
theorem rcs_length (l : List Rcd) : (rcs l).length = l.length * 4 := flatMap_len rc_len l
theorem rcs_get (l : List Rcd) (i r : Nat) (hr : r < 4) : (rcs l)[i * 4 + r]? = (l[i]?).bind fun x => (rc x)[r]? := flatMap_get rc_len l i r hr
theorem rc_one (x : Rcd) : ∀ u ∈ rc x, u.oneCell' = true := by
  intro u hu
  simp only [rc, List.mem_cons, List.not_mem_nil, or_false] at hu
  rcases hu with rfl | rfl | rfl | rfl <;> rfl
theorem rcs_one (l : List Rcd) : ∀ u ∈ rcs l, u.oneCell' = true := fun u hu => by
  obtain ⟨p, _, hu⟩ := List.mem_flatMap.1 hu
  exact rc_one p u hu
theorem rcs_snoc (l : List Rcd) (x : Rcd) : rcs (l ++ [x]) = rcs l ++ rc x := by simp [rcs]
theorem rcs_take (l : List Rcd) (i : Nat) : (rcs l).take (i * 4) = rcs (l.take i) := by
  apply List.ext_getElem?
  intro t
  have hq : t / 4 * 4 + t % 4 = t := by omega
  have hr : t % 4 < 4 := by omega
  have h1 := rcs_get l (t / 4) (t % 4) hr
  have h2 := rcs_get (l.take i) (t / 4) (t % 4) hr
  rw [hq] at h1 h2
  rw [h2]
  by_cases ht : t < i * 4
  · rw [List.getElem?_take_of_lt ht, h1, List.getElem?_take_of_lt (by omega)]
  · rw [List.getElem?_eq_none (by simp; omega), List.getElem?_eq_none (by simp; omega)]; rfl
theorem rcs_drop (l : List Rcd) (i : Nat) (hi : i ≤ l.length) : (rcs l).drop (i * 4) = rcs (l.drop i) := by
  have h1 : rcs l = rcs (l.take i) ++ rcs (l.drop i) := by unfold rcs; rw [← List.flatMap_append, List.take_append_drop]
  have h2 : (rcs (l.take i)).length = i * 4 := by rw [rcs_length, List.length_take, Nat.min_eq_left hi]
  rw [h1, ← h2, List.drop_left]
theorem infoRc : (Tryd.prog.info? 45).map (fun i => (i.zero, i.size, i.bytes)) = some (some (.agg #[.string ⟨#[]⟩, .int .i64 0, .int .u64 0, .int .i64 0]), 4, 40) := by kernel_rfl
/-- slices.Clone at records. -/
theorem sclone_K (w : World) (F : Nat → Prop) (v : Value) (n : Nat) (xs : List Value) (h : Rd w F 4 v n xs) (hF : ∀ g, F g → g < w.heap.size) (h1 : ∀ u ∈ xs, u.oneCell' = true) (hn : n ≤ 65536) :
    Calls Tryd.prog 50 #[v] w (Ret fun v' w' => Own w' (fun g => w.heap.size ≤ g) 45 4 v' n xs ∧ Mods No w w') := by
  obtain ⟨A, c, rfl, _, _⟩ := h.form
  cases A with
  | none =>
    obtain rfl : n = 0 := by
      rcases Nat.eq_zero_or_pos n with h0 | h0
      · exact h0
      · obtain ⟨b, off, c', e, _⟩ := h.cells h0
        injection e with e
        cases e
    obtain rfl : xs = [] := List.eq_nil_of_length_eq_zero (by simpa using h.1)
    have e1 := Lib.run_eql_slice_nil (P := Tryd.prog) w 23 45 none 0 c 0 0 Tryd.underlying23
    clear h h1
    go_enter Tryd.func50, Tryd.ntmps50
    go_wp2
    go_ret
    exact ⟨Own.nil _ _ _ _, Mods.refl _ _⟩
  | some a =>
    have e1 := Lib.run_eql_slice_nil (P := Tryd.prog) w 23 45 (some a) n c 0 0 Tryd.underlying23
    have hE : Own (w.alloc (.cells #[] 45)) (fun g => g = w.heap.size) 45 4 (.slice (some ⟨w.heap.size, 0, none⟩) 0 0) 0 [] :=
      ⟨⟨rfl, .inr ⟨w.heap.size, 0, #[], rfl, Nat.zero_le _, heap_alloc_new w _, Nat.le_refl _, Nat.zero_le _, rfl, rfl⟩⟩, fun g hg => by injection hg with hg; exact hg.symm⟩
    have HE := Lib.hid hE
    have HR := Lib.hid (h.same (((Mods.refl No w).alloc (.cells #[] 45)).same fun k hk => ⟨hF k hk, fun e => e⟩))
    clear hE
    have Hh := Lib.hid h
    clear h
    go_enter Tryd.func50, Tryd.ntmps50
    go_wp2_with (first | (at_builtin; ((refine wpList_append _ rfl (.tmp 5) (.tmp 6) 23 rfl 45 (.agg #[.string ⟨#[]⟩, .int .i64 0, .int .u64 0, .int .i64 0]) 4 40 Tryd.underlying23 infoRc rfl (by decide) (F := fun g => g = w.heap.size) (n := 0) (xs := []) (by rfl) HE.out (G := F) (y := .slice (some a) n c) (m := n) (news := xs) (by rfl) HR.out h1 (by omega) (by decide) ?_); intro v4 w4 hown4 hm4 _; (simp only [Nat.zero_add, List.nil_append] at hown4); have HO4 := Lib.hid hown4; have HM4 := Lib.hid hm4; obtain ⟨A4, c4, rfl, _, _⟩ := hown4.form; clear hown4 hm4)) | ((with_reducible refine wp_region_por ?_ ?_ ?_ ?_); kernel_rfl; kernel_rfl; (with_reducible repeat (first | exact calm_ret | refine calm_then ?_ | refine calm_in ?_ | refine calm_chk ?_ | refine calm_noGoto ?_))) | ((with_reducible refine chk_end ?_ ?_); kernel_rfl))
    go_ret
    refine ⟨HO4.out.more fun k hk => ?_, ((Mods.refl No w).alloc _).trans HM4.out fun k hk e => ?_⟩
    · rcases hk with hk | hk
      · injection hk with hk
        exact Nat.le_of_eq hk
      · rw [World.size_alloc] at hk; omega
    · injection e with e
      exact absurd hk (by rw [← e]; exact Nat.lt_irrefl _)
theorem hne_size (w : World) (a b : Obj) : ((w.alloc a).alloc b).heap.size = w.heap.size + 2 := by rw [World.size_alloc, World.size_alloc]
set_option maxHeartbeats 1600000 in
/-- A queue's put: the queue is a station's first field. -/
theorem qput_K (w : World) (F : Nat → Prop) (p n : Nat) (hv a b : Value) (xs : List Value) (x : Rcd) (h : Cells w p 83 #[hv, a, b]) (ho : Own w F 45 4 hv n xs) (hn : n ≤ 65536) :
    Calls Tryd.prog 48 #[(.pointer (some ⟨p, 0, none⟩)), rv x] w (Ret fun _ w' => ∃ hv', Cells w' p 83 #[hv', a, b] ∧ Own w' (fun g => hv.ownBlock = some g ∨ w.heap.size ≤ g) 45 4 hv' (n + 1) (xs ++ rc x) ∧ Mods (fun g => g = p ∨ hv.ownBlock = some g) w w') := by
  obtain ⟨A, c, rfl, _, _⟩ := ho.form
  have k0 := h.at_ 0 rfl
  have kl := h.lt
  have hne := ho.ne_cells h (by decide)
  have Hxo := Lib.hid (rc_one x)
  have Hh := Lib.hid h
  clear h
  have Hho := Lib.hid ho
  clear ho
  have Hhne := Lib.hid hne
  clear hne
  unfold rv ks
  go_enter Tryd.func48, Tryd.ntmps48
  have hbx := Cells.new w 45 #[.string ⟨x.1.toArray⟩, .int .i64 x.2.1, .int .u64 x.2.2.1, .int .i64 x.2.2.2]
  have b0 := hbx.at_ 0 rfl
  have b1 := hbx.at_ 1 rfl
  have b2 := hbx.at_ 2 rfl
  have b3 := hbx.at_ 3 rfl
  have HBX := Lib.hid hbx
  clear hbx
  go_wp2_with (first | ((with_reducible refine wp_region_one 1 (fun g => g = p) [4] 6 ?_ ?_ ?_ ?_ ?_); kernel_rfl; kernel_rfl; kernel_rfl; (with_reducible repeat (first | exact calm_ret | refine calm_then ?_ | refine calm_in ?_ | refine calm_chk ?_ | refine calm_noGoto ?_)); simp only [List.drop_succ_cons, List.drop_zero, List.take_succ_cons, List.take_zero]) | (with_reducible refine segEnd ?_) | (refine And.intro (Keep.one ((Mods.refl No _).alloc _) (Hh.out.alloc _) (fun e => e)) ?_) | ((with_reducible refine chkM_end (fun g => g = p) ?_ [.pointer (some ⟨p, 0, none⟩)] ?_ ?_ ?_); kernel_rfl; kernel_rfl; (intro v hv x hx; simp only [List.mem_cons, List.not_mem_nil, or_false] at hv; subst hv; (injection hx with hx; injection hx with hx; subst hx; simp))) | (at_builtin; ((refine wpList_append _ rfl (.tmp 8) (.tmp 10) 23 rfl 45 (.agg #[.string ⟨#[]⟩, .int .i64 0, .int .u64 0, .int .i64 0]) 4 40 Tryd.underlying23 infoRc rfl (by decide) (F := F) (n := n) (xs := xs) (by rfl) (Hho.out.mods (((Mods.refl No w).alloc (.cells #[.string ⟨x.1.toArray⟩, .int .i64 x.2.1, .int .u64 x.2.2.1, .int .i64 x.2.2.2] 45)).alloc (.cells #[.string ⟨x.1.toArray⟩, .int .i64 x.2.1, .int .u64 x.2.2.1, .int .i64 x.2.2.2] 45)).drew fun _ _ e => e) (G := fun g => g = w.heap.size + 1) (y := .slice (some ⟨w.heap.size + 1, 0, none⟩) 1 1) (m := 1) (news := rc x) (by rfl) (Rd.box (w.alloc (.cells #[.string ⟨x.1.toArray⟩, .int .i64 x.2.1, .int .u64 x.2.2.1, .int .i64 x.2.2.2] 45)) #[.string ⟨x.1.toArray⟩, .int .i64 x.2.1, .int .u64 x.2.2.1, .int .i64 x.2.2.2] _ (by rw [World.size_alloc]) rfl (by decide)) Hxo.out (by omega) (by decide) ?_); intro v4 w4 hown4 hm4 _; have HO4 := Lib.hid hown4; have HM4 := Lib.hid hm4; have HC4 := Lib.hid (((Hh.out.alloc (.cells #[.string ⟨x.1.toArray⟩, .int .i64 x.2.1, .int .u64 x.2.2.1, .int .i64 x.2.2.2] 45)).alloc (.cells #[.string ⟨x.1.toArray⟩, .int .i64 x.2.1, .int .u64 x.2.2.1, .int .i64 x.2.2.2] 45)).drew.mods hm4 Hhne.out); have j0 := HC4.out.at_ 0 rfl; have jf := HC4.out.frozen 0; have jl := HC4.out.lt; obtain ⟨A4, c4, rfl, _, _⟩ := hown4.form; clear hown4 hm4)) | ((with_reducible refine wp_region_por ?_ ?_ ?_ ?_); kernel_rfl; kernel_rfl; (with_reducible repeat (first | exact calm_ret | refine calm_then ?_ | refine calm_in ?_ | refine calm_chk ?_ | refine calm_noGoto ?_))) | ((with_reducible refine chk_end ?_ ?_); kernel_rfl))
  go_end0
  have hz := hne_size w (.cells #[.string ⟨x.1.toArray⟩, .int .i64 x.2.1, .int .u64 x.2.2.1, .int .i64 x.2.2.2] 45) (.cells #[.string ⟨x.1.toArray⟩, .int .i64 x.2.1, .int .u64 x.2.2.1, .int .i64 x.2.2.2] 45)
  refine ⟨_, HC4.out.set_ 0 _, ((HO4.out.far (p := ⟨p, 0, none⟩) (fun e => ?_) _).more fun g hg => ?_), (((((Mods.refl (fun g => g = p ∨ (Value.slice A n c).ownBlock = some g) w).alloc (.cells #[.string ⟨x.1.toArray⟩, .int .i64 x.2.1, .int .u64 x.2.2.1, .int .i64 x.2.2.2] 45)).alloc (.cells #[.string ⟨x.1.toArray⟩, .int .i64 x.2.1, .int .u64 x.2.2.1, .int .i64 x.2.2.2] 45)).drew).trans HM4.out fun g _ e => .inr e).setCell _ _ fun _ => .inl rfl⟩
  · rcases HO4.out.2 _ e with e1 | e1
    · exact Hhne.out e1
    · dsimp only at e1; rw [show ((w.alloc (.cells #[.string ⟨x.1.toArray⟩, .int .i64 x.2.1, .int .u64 x.2.2.1, .int .i64 x.2.2.2] 45)).alloc (.cells #[.string ⟨x.1.toArray⟩, .int .i64 x.2.1, .int .u64 x.2.2.1, .int .i64 x.2.2.2] 45)).drew.heap.size = w.heap.size + 2 from hz] at e1; omega
  · rcases hg with e1 | e1
    · exact .inl e1
    · right; rw [e1, show ((w.alloc (.cells #[.string ⟨x.1.toArray⟩, .int .i64 x.2.1, .int .u64 x.2.2.1, .int .i64 x.2.2.2] 45)).alloc (.cells #[.string ⟨x.1.toArray⟩, .int .i64 x.2.1, .int .u64 x.2.2.1, .int .i64 x.2.2.2] 45)).drew.heap.size = w.heap.size + 2 from hz]; omega
abbrev Rng (lo hi : Nat) : Nat → Prop := fun g => lo ≤ g ∧ g < hi
theorem _root_.Go.Tum.Own.rng {w w' : World} {F : Nat → Prop} {e : TypeId} {size n lo : Nat} {v : Value} {xs : List Value} (h : Tum.Own w F e size v n xs) (hF : ∀ g, F g → lo ≤ g) (hm : Mods No w w') : Tum.Own w' (Rng lo w.heap.size) e size v n xs := by
  have h1 : Tum.Own w (Rng lo w.heap.size) e size v n xs := ⟨h.1, fun g hg => ⟨hF g (h.2 g hg), h.lt g hg⟩⟩
  exact Tum.Own.mods h1 hm fun _ _ e => e
/-- What a queue's take does. -/
def Took (w w' : World) (p m : Nat) (a b v : Value) (L : List Rcd) : Prop :=
  ∃ hv' mid, w.heap.size ≤ mid ∧ Own w' (Rng w.heap.size mid) 45 4 v m (rcs (L.take m)) ∧ Own w' (fun g => mid ≤ g) 45 4 hv' (L.length - m) (rcs (L.drop m)) ∧ Cells w' p 83 #[hv', a, b] ∧ Mods (fun g => g = p) w w'
theorem Took.mk_ {w w2 w3 : World} {p m : Nat} {a b v u hv : Value} {L : List Rcd} (h : Cells w p 83 #[hv, a, b]) (h2 : Own w2 (fun g => w.heap.size ≤ g) 45 4 v m (rcs (L.take m))) (hm2 : Mods No w w2)
    (h3 : Own w3 (fun g => w2.heap.size ≤ g) 45 4 u (L.length - m) (rcs (L.drop m))) (hm3 : Mods No w2 w3) : Took w (w3.setCell ⟨p, 0, none⟩ u) p m a b v L := by
  have hlt := h.lt
  have hs2 := hm2.size
  have ho := h2.rng (lo := w.heap.size) (fun g e => e) hm3
  have hv1 : v.ownBlock ≠ some p := fun e => by have := h2.2 p e; omega
  have hu1 : u.ownBlock ≠ some p := fun e => by have := h3.2 p e; omega
  exact ⟨u, w2.heap.size, hs2, ho.far (p := ⟨p, 0, none⟩) hv1 u, h3.far (p := ⟨p, 0, none⟩) hu1 u, ((h.mods hm2 fun e => e).mods hm3 fun e => e).set_ 0 u, (((hm2.trans hm3 fun _ _ e => e).mono fun _ _ e => e.elim).setCell _ _ fun _ => rfl)⟩
set_option maxHeartbeats 3200000 in
theorem qtake_K (w : World) (F : Nat → Prop) (p m : Nat) (hv a b : Value) (L : List Rcd) (k : Int) (h : Cells w p 83 #[hv, a, b]) (ho : Own w F 45 4 hv L.length (rcs L)) (hL : L.length ≤ 65536) (hk : 1 ≤ k) (hm : k = (m : Int) ∧ m ≤ L.length ∨ (L.length : Int) < k ∧ m = L.length) :
    Calls Tryd.prog 34 #[(.pointer (some ⟨p, 0, none⟩)), .int .i64 k] w (Ret fun v w' => Took w w' p m a b v L) := by
  have hmL : m ≤ L.length := by omega
  obtain ⟨A, c, rfl, hac, hmx⟩ := ho.form
  unfold maxLen at hmx
  have k0 := h.at_ 0 rfl
  have kl := h.lt
  have hr1 := ho.rd.take hmL
  rw [rcs_take] at hr1
  have hcl1 := sclone_K w (fun g => g < w.heap.size) _ m _ (Rd.of_own (ho.take hmL).1 fun g hg => (ho.take hmL).lt g hg) (fun _ e => e) (by rw [rcs_take]; exact rcs_one _) (by omega)
  rw [rcs_take] at hcl1
  have hr2 := ho.rdlt.cut (k := m) (l := L.length) hmL (Nat.le_refl _)
  rw [rcs_take, List.take_length, rcs_drop _ _ hmL] at hr2
  have hcl2 := fun w' (hm' : Mods No w w') => sclone_K w' (fun g => g < w'.heap.size) _ (L.length - m) _ (hr2.keep hm') (fun _ e => e) (rcs_one _) (by omega)
  clear hr1 hr2
  rcases hm with ⟨rfl, _⟩ | ⟨hm, rfl⟩
  · have hmn : min (m : Int) (L.length : Int) = (m : Int) := by omega
    by_cases hcm : c = m
    · subst hcm
      have hz : L.length - c = 0 := by omega
      rw [if_pos rfl, Nat.sub_self] at hcl2
      simp only [hz] at hcl2
      have HZ := Lib.hid hz
      clear hz
      have Hh := Lib.hid h
      clear h
      have Hho := Lib.hid ho
      clear ho
      have Hhcl1 := Lib.hid hcl1
      clear hcl1
      have Hhcl2 := Lib.hid hcl2
      clear hcl2
      go_enter Tryd.func34, Tryd.ntmps34
      go_wp2_with (first | (go_at_call 50; (fail_if_success have := CL1); (refine ret_use (Hhcl1.out) ?_; rintro v w2 ⟨ho2, hm2⟩; have CL1 := True.intro; have HO2 := Lib.hid ho2; have HM2 := Lib.hid hm2; have HC2 := Lib.hid (Hh.out.mods hm2 fun e => e); have k0 := HC2.out.at_ 0 rfl; obtain ⟨A2, c2, rfl, _, _⟩ := ho2.form; clear ho2 hm2)) | (go_at_call 50; (refine ret_use (Hhcl2.out w2 HM2.out) ?_; rintro v w3 ⟨ho3, hm3⟩; have HO3 := Lib.hid ho3; have HM3 := Lib.hid hm3; have HC3 := Lib.hid (HC2.out.mods hm3 fun e => e); have k0 := HC3.out.at_ 0 rfl; have kf := HC3.out.frozen 0; have kl := HC3.out.lt; obtain ⟨A3, c3, rfl, _, _⟩ := ho3.form; clear ho3 hm3)) | ((with_reducible refine wp_region_por ?_ ?_ ?_ ?_); kernel_rfl; kernel_rfl; (with_reducible repeat (first | exact calm_ret | refine calm_then ?_ | refine calm_in ?_ | refine calm_chk ?_ | refine calm_noGoto ?_))) | ((with_reducible refine chk_end ?_ ?_); kernel_rfl))
      go_ret
      exact Took.mk_ Hh.out HO2.out HM2.out (by rw [HZ.out]; exact HO3.out) HM3.out
    · rw [if_neg hcm] at hcl2
      obtain ⟨g, rfl⟩ : ∃ g, A = some ⟨g, 0, none⟩ := by
        rcases ho.whole with ⟨e, hz, _⟩ | ⟨g, cap, cur, e, _⟩
        · injection e with e1 _ e2
          exact absurd (by omega) hcm
        · injection e with e1
          exact ⟨g, e1⟩
      simp only [Option.map_some, Addr.add_lit, Nat.zero_add] at hcl2
      have Hh := Lib.hid h
      clear h
      have Hho := Lib.hid ho
      clear ho
      have Hhcl1 := Lib.hid hcl1
      clear hcl1
      have Hhcl2 := Lib.hid hcl2
      clear hcl2
      go_enter Tryd.func34, Tryd.ntmps34
      go_wp2_with (first | (go_at_call 50; (fail_if_success have := CL1); (refine ret_use (Hhcl1.out) ?_; rintro v w2 ⟨ho2, hm2⟩; have CL1 := True.intro; have HO2 := Lib.hid ho2; have HM2 := Lib.hid hm2; have HC2 := Lib.hid (Hh.out.mods hm2 fun e => e); have k0 := HC2.out.at_ 0 rfl; obtain ⟨A2, c2, rfl, _, _⟩ := ho2.form; clear ho2 hm2)) | (go_at_call 50; (refine ret_use (Hhcl2.out w2 HM2.out) ?_; rintro v w3 ⟨ho3, hm3⟩; have HO3 := Lib.hid ho3; have HM3 := Lib.hid hm3; have HC3 := Lib.hid (HC2.out.mods hm3 fun e => e); have k0 := HC3.out.at_ 0 rfl; have kf := HC3.out.frozen 0; have kl := HC3.out.lt; obtain ⟨A3, c3, rfl, _, _⟩ := ho3.form; clear ho3 hm3)) | ((with_reducible refine wp_region_por ?_ ?_ ?_ ?_); kernel_rfl; kernel_rfl; (with_reducible repeat (first | exact calm_ret | refine calm_then ?_ | refine calm_in ?_ | refine calm_chk ?_ | refine calm_noGoto ?_))) | ((with_reducible refine chk_end ?_ ?_); kernel_rfl))
      go_ret
      exact Took.mk_ Hh.out HO2.out HM2.out HO3.out HM3.out
  · have hmn : min k (L.length : Int) = (L.length : Int) := by omega
    rw [Nat.sub_self] at hcl2
    by_cases hcm : c = L.length
    · subst hcm
      rw [if_pos rfl, Nat.sub_self] at hcl2
      have Hh := Lib.hid h
      clear h
      have Hho := Lib.hid ho
      clear ho
      have Hhcl1 := Lib.hid hcl1
      clear hcl1
      have Hhcl2 := Lib.hid hcl2
      clear hcl2
      go_enter Tryd.func34, Tryd.ntmps34
      go_wp2_with (first | (go_at_call 50; (fail_if_success have := CL1); (refine ret_use (Hhcl1.out) ?_; rintro v w2 ⟨ho2, hm2⟩; have CL1 := True.intro; have HO2 := Lib.hid ho2; have HM2 := Lib.hid hm2; have HC2 := Lib.hid (Hh.out.mods hm2 fun e => e); have k0 := HC2.out.at_ 0 rfl; obtain ⟨A2, c2, rfl, _, _⟩ := ho2.form; clear ho2 hm2)) | (go_at_call 50; (refine ret_use (Hhcl2.out w2 HM2.out) ?_; rintro v w3 ⟨ho3, hm3⟩; have HO3 := Lib.hid ho3; have HM3 := Lib.hid hm3; have HC3 := Lib.hid (HC2.out.mods hm3 fun e => e); have k0 := HC3.out.at_ 0 rfl; have kf := HC3.out.frozen 0; have kl := HC3.out.lt; obtain ⟨A3, c3, rfl, _, _⟩ := ho3.form; clear ho3 hm3)) | ((with_reducible refine wp_region_por ?_ ?_ ?_ ?_); kernel_rfl; kernel_rfl; (with_reducible repeat (first | exact calm_ret | refine calm_then ?_ | refine calm_in ?_ | refine calm_chk ?_ | refine calm_noGoto ?_))) | ((with_reducible refine chk_end ?_ ?_); kernel_rfl))
      go_ret
      exact Took.mk_ Hh.out HO2.out HM2.out (by rw [Nat.sub_self]; exact HO3.out) HM3.out
    · rw [if_neg hcm] at hcl2
      obtain ⟨g, rfl⟩ : ∃ g, A = some ⟨g, 0, none⟩ := by
        rcases ho.whole with ⟨e, hz, _⟩ | ⟨g, cap, cur, e, _⟩
        · injection e with e1 _ e2
          exact absurd (by omega) hcm
        · injection e with e1
          exact ⟨g, e1⟩
      simp only [Option.map_some, Addr.add_lit, Nat.zero_add] at hcl2
      have Hh := Lib.hid h
      clear h
      have Hho := Lib.hid ho
      clear ho
      have Hhcl1 := Lib.hid hcl1
      clear hcl1
      have Hhcl2 := Lib.hid hcl2
      clear hcl2
      go_enter Tryd.func34, Tryd.ntmps34
      go_wp2_with (first | (go_at_call 50; (fail_if_success have := CL1); (refine ret_use (Hhcl1.out) ?_; rintro v w2 ⟨ho2, hm2⟩; have CL1 := True.intro; have HO2 := Lib.hid ho2; have HM2 := Lib.hid hm2; have HC2 := Lib.hid (Hh.out.mods hm2 fun e => e); have k0 := HC2.out.at_ 0 rfl; obtain ⟨A2, c2, rfl, _, _⟩ := ho2.form; clear ho2 hm2)) | (go_at_call 50; (refine ret_use (Hhcl2.out w2 HM2.out) ?_; rintro v w3 ⟨ho3, hm3⟩; have HO3 := Lib.hid ho3; have HM3 := Lib.hid hm3; have HC3 := Lib.hid (HC2.out.mods hm3 fun e => e); have k0 := HC3.out.at_ 0 rfl; have kf := HC3.out.frozen 0; have kl := HC3.out.lt; obtain ⟨A3, c3, rfl, _, _⟩ := ho3.form; clear ho3 hm3)) | ((with_reducible refine wp_region_por ?_ ?_ ?_ ?_); kernel_rfl; kernel_rfl; (with_reducible repeat (first | exact calm_ret | refine calm_then ?_ | refine calm_in ?_ | refine calm_chk ?_ | refine calm_noGoto ?_))) | ((with_reducible refine chk_end ?_ ?_); kernel_rfl))
      go_ret
      exact Took.mk_ Hh.out HO2.out HM2.out (by rw [Nat.sub_self]; exact HO3.out) HM3.out
end Go.Proofs.YtcifajfmdpjfiaaDoor
