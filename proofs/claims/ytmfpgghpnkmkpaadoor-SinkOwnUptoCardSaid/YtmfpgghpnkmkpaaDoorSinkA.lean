/- The functions of package sink, call by call: what each leaves of the sink in memory. -/
import Derived.Test.YtmfpgghpnkmkpaaDoorProg
import Derived.Test.YtmfpgghpnkmkpaaDoorBase
import Derived.Test.YtmfpgghpnkmkpaaDoorPor2
import Derived.Test.YtmfpgghpnkmkpaaDoorSinkSpec
import Derived.Test.YtmfpgghpnkmkpaaDoorSinkIs
import Derived.Lib.Hide
import Derived.WalkSpells
namespace Go.Proofs.YtmfpgghpnkmkpaaDoor
open Go.RowKit Go.Tum
theorem infoU8 : (Tryd.prog.info? 5).map (fun i => (i.zero, i.size, i.bytes)) = some (some (.int .u8 0), 1, 1) := by kernel_rfl
theorem infoI64 : (Tryd.prog.info? 2).map (fun i => (i.zero, i.size, i.bytes)) = some (some (.int .i64 0), 1, 8) := by kernel_rfl
theorem infoPConn : (Tryd.prog.info? 67).map (fun i => (i.zero, i.size, i.bytes)) = some (some (.pointer none), 1, 8) := by kernel_rfl
theorem infoChoice : (Tryd.prog.info? 60).map (fun i => (i.zero, i.size, i.bytes)) = some (some (.agg #[.int .i64 0, .bool false]), 2, 16) := by kernel_rfl

def ptr (k : Nat) : Value := .pointer (some ⟨k, 0, none⟩)
def planCells (plan : Plan) : List Value := plan.flatMap fun x => [.int .i64 x.1, .bool x.2]
theorem planCells_length (plan : Plan) : (planCells plan).length = plan.length * 2 := by
  induction plan with
  | nil => rfl
  | cons x l ih => simp only [planCells, List.flatMap_cons, List.length_append, List.length_cons, List.length_nil] at ih ⊢; omega
theorem planCells_at (plan : Plan) (i : Nat) (c : Int) (f : Bool) (h : plan[i]? = some (c, f)) : (planCells plan)[i * 2]? = some (.int .i64 c) ∧ (planCells plan)[i * 2 + 1]? = some (.bool f) := by
  induction plan generalizing i with
  | nil => cases h
  | cons x l ih =>
    cases i with
    | zero => simp at h; subst h; exact ⟨rfl, rfl⟩
    | succ i =>
      have h' : l[i]? = some (c, f) := by simpa using h
      have := ih i h'
      rw [show (i + 1) * 2 = i * 2 + 1 + 1 by omega]
      simpa [planCells] using this
theorem planCells_one (plan : Plan) : ∀ u ∈ planCells plan, u.oneCell' = true := by
  intro u hu
  obtain ⟨x, _, hx⟩ := List.mem_flatMap.1 hu
  simp at hx
  rcases hx with rfl | rfl <;> rfl

/-! ### slices.Clone -/
set_option maxHeartbeats 400000 in
set_option maxRecDepth 100000 in
theorem clone_ids (w : World) {F : Nat → Prop} {v : Value} {n : Nat} {xs : List Value} (h : Rd w F 1 v n xs) (hF : ∀ k, F k → k < w.heap.size) (h1 : ∀ u ∈ xs, u.oneCell' = true) (hn : n ≤ 1000000000) :
    Calls Tryd.prog 25 #[v] w (Ret fun v' w' => Own w' (fun k => w.heap.size ≤ k ∧ k < w'.heap.size) 2 1 v' n xs ∧ Mods No w w') := by
  obtain ⟨A, c, rfl, hnc, hcm⟩ := h.form
  cases A with
  | none =>
    have hn := fun (w : World) => Lib.run_eql_slice_nil (P := Tryd.prog) w 36 2 none n c 0 0 Tryd.underlying36
    have h0 : n = 0 := by
      rcases Nat.eq_zero_or_pos n with h0 | h0
      · exact h0
      · obtain ⟨b, off, c', e, _⟩ := h.cells h0
        injection e with e
        cases e
    subst h0
    have hx : xs = [] := List.eq_nil_of_length_eq_zero (by simpa using h.1)
    subst hx
    clear h h1 hF
    go_enter Tryd.func25, Tryd.ntmps25
    go_wp2_with (first | ((with_reducible refine wp_region_por ?_ ?_ ?_ ?_); kernel_rfl; kernel_rfl; (with_reducible repeat (first | exact calm_ret | refine calm_then ?_ | refine calm_in ?_ | refine calm_chk ?_ | refine calm_noGoto ?_))) | ((with_reducible refine chk_end ?_ ?_); kernel_rfl))
    go_ret
    exact ⟨Own.nil _ _ _ _, Mods.refl _ _⟩
  | some a =>
    have hn' := fun (w : World) => Lib.run_eql_slice_nil (P := Tryd.prog) w 36 2 (some a) n c 0 0 Tryd.underlying36
    have HR := Lib.hid h
    clear h
    have H1 := Lib.hid h1
    clear h1
    have HF := Lib.hid hF
    clear hF
    go_enter Tryd.func25, Tryd.ntmps25
    go_wp2_with (first | (at_builtin; refine wpList_append _ rfl (.tmp 5) (.tmp 6) 36 rfl 2 (.int .i64 0) 1 8 Tryd.underlying36 infoI64 rfl (by decide) (F := fun g => g = w.heap.size) (n := 0) (xs := []) (by rfl) ?c1 (G := F) (y := .slice (some a) n c) (m := n) (news := xs) (by rfl) ?c2 H1.out (by omega) (by decide) ?c4) | ((with_reducible refine wp_region_por ?_ ?_ ?_ ?_); kernel_rfl; kernel_rfl; (with_reducible repeat (first | exact calm_ret | refine calm_then ?_ | refine calm_in ?_ | refine calm_chk ?_ | refine calm_noGoto ?_))) | ((with_reducible refine chk_end ?_ ?_); kernel_rfl))
    case c1 => exact ⟨World.ownsRow_made w #[] 0 (Nat.zero_le _) (Nat.zero_le _) rfl, fun g hg => by injection hg with hg; exact hg.symm⟩
    case c2 => exact HR.out.same (Same.alloc w _ HF.out)
    case c4 =>
      intro v1 w1 hown hmod hlt
      have HO := Lib.hid hown
      clear hown
      go_wp2_with (first | ((with_reducible refine wp_region_por ?_ ?_ ?_ ?_); kernel_rfl; kernel_rfl; (with_reducible repeat (first | exact calm_ret | refine calm_then ?_ | refine calm_in ?_ | refine calm_chk ?_ | refine calm_noGoto ?_))) | ((with_reducible refine chk_end ?_ ?_); kernel_rfl))
      go_ret
      refine ⟨?_, ?_⟩
      · have := HO.out
        try simp only [Nat.zero_add, List.nil_append] at this
        refine ⟨this.1, fun g hg => ⟨?_, hlt g hg⟩⟩
        rcases this.2 g hg with e | e
        · simp only [Value.ownBlock, Option.some.injEq] at e; omega
        · first | omega | (simp at e; omega)
      · exact ((Mods.refl No w).alloc _).trans hmod fun k hk e => by simp only [Value.ownBlock, Option.some.injEq] at e; omega
set_option maxHeartbeats 400000 in
set_option maxRecDepth 100000 in
theorem clone_bytes (w : World) {F : Nat → Prop} {v : Value} {n : Nat} {xs : List Value} (h : Rd w F 1 v n xs) (hF : ∀ k, F k → k < w.heap.size) (h1 : ∀ u ∈ xs, u.oneCell' = true) (hn : n ≤ 1000000000) :
    Calls Tryd.prog 26 #[v] w (Ret fun v' w' => Own w' (fun k => w.heap.size ≤ k ∧ k < w'.heap.size) 5 1 v' n xs ∧ Mods No w w') := by
  obtain ⟨A, c, rfl, hnc, hcm⟩ := h.form
  cases A with
  | none =>
    have hn := fun (w : World) => Lib.run_eql_slice_nil (P := Tryd.prog) w 30 5 none n c 0 0 Tryd.underlying30
    have h0 : n = 0 := by
      rcases Nat.eq_zero_or_pos n with h0 | h0
      · exact h0
      · obtain ⟨b, off, c', e, _⟩ := h.cells h0
        injection e with e
        cases e
    subst h0
    have hx : xs = [] := List.eq_nil_of_length_eq_zero (by simpa using h.1)
    subst hx
    clear h h1 hF
    go_enter Tryd.func26, Tryd.ntmps26
    go_wp2_with (first | ((with_reducible refine wp_region_por ?_ ?_ ?_ ?_); kernel_rfl; kernel_rfl; (with_reducible repeat (first | exact calm_ret | refine calm_then ?_ | refine calm_in ?_ | refine calm_chk ?_ | refine calm_noGoto ?_))) | ((with_reducible refine chk_end ?_ ?_); kernel_rfl))
    go_ret
    exact ⟨Own.nil _ _ _ _, Mods.refl _ _⟩
  | some a =>
    have hn' := fun (w : World) => Lib.run_eql_slice_nil (P := Tryd.prog) w 30 5 (some a) n c 0 0 Tryd.underlying30
    have HR := Lib.hid h
    clear h
    have H1 := Lib.hid h1
    clear h1
    have HF := Lib.hid hF
    clear hF
    go_enter Tryd.func26, Tryd.ntmps26
    go_wp2_with (first | (at_builtin; refine wpList_append _ rfl (.tmp 5) (.tmp 6) 30 rfl 5 (.int .u8 0) 1 1 Tryd.underlying30 infoU8 rfl (by decide) (F := fun g => g = w.heap.size) (n := 0) (xs := []) (by rfl) ?c1 (G := F) (y := .slice (some a) n c) (m := n) (news := xs) (by rfl) ?c2 H1.out (by omega) (by decide) ?c4) | ((with_reducible refine wp_region_por ?_ ?_ ?_ ?_); kernel_rfl; kernel_rfl; (with_reducible repeat (first | exact calm_ret | refine calm_then ?_ | refine calm_in ?_ | refine calm_chk ?_ | refine calm_noGoto ?_))) | ((with_reducible refine chk_end ?_ ?_); kernel_rfl))
    case c1 => exact ⟨World.ownsRow_made w #[] 0 (Nat.zero_le _) (Nat.zero_le _) rfl, fun g hg => by injection hg with hg; exact hg.symm⟩
    case c2 => exact HR.out.same (Same.alloc w _ HF.out)
    case c4 =>
      intro v1 w1 hown hmod hlt
      have HO := Lib.hid hown
      clear hown
      go_wp2_with (first | ((with_reducible refine wp_region_por ?_ ?_ ?_ ?_); kernel_rfl; kernel_rfl; (with_reducible repeat (first | exact calm_ret | refine calm_then ?_ | refine calm_in ?_ | refine calm_chk ?_ | refine calm_noGoto ?_))) | ((with_reducible refine chk_end ?_ ?_); kernel_rfl))
      go_ret
      refine ⟨?_, ?_⟩
      · have := HO.out
        try simp only [Nat.zero_add, List.nil_append] at this
        refine ⟨this.1, fun g hg => ⟨?_, hlt g hg⟩⟩
        rcases this.2 g hg with e | e
        · simp only [Value.ownBlock, Option.some.injEq] at e; omega
        · first | omega | (simp at e; omega)
      · exact ((Mods.refl No w).alloc _).trans hmod fun k hk e => by simp only [Value.ownBlock, Option.some.injEq] at e; omega
set_option maxHeartbeats 400000 in
set_option maxRecDepth 100000 in
theorem clone_plan (w : World) {F : Nat → Prop} {v : Value} {n : Nat} {xs : List Value} (h : Rd w F 2 v n xs) (hF : ∀ k, F k → k < w.heap.size) (h1 : ∀ u ∈ xs, u.oneCell' = true) (hn : n ≤ 1000000000) :
    Calls Tryd.prog 20 #[v] w (Ret fun v' w' => Own w' (fun k => w.heap.size ≤ k ∧ k < w'.heap.size) 60 2 v' n xs ∧ Mods No w w') := by
  obtain ⟨A, c, rfl, hnc, hcm⟩ := h.form
  cases A with
  | none =>
    have hn := fun (w : World) => Lib.run_eql_slice_nil (P := Tryd.prog) w 22 60 none n c 0 0 Tryd.underlying22
    have h0 : n = 0 := by
      rcases Nat.eq_zero_or_pos n with h0 | h0
      · exact h0
      · obtain ⟨b, off, c', e, _⟩ := h.cells h0
        injection e with e
        cases e
    subst h0
    have hx : xs = [] := List.eq_nil_of_length_eq_zero (by simpa using h.1)
    subst hx
    clear h h1 hF
    go_enter Tryd.func20, Tryd.ntmps20
    go_wp2_with (first | ((with_reducible refine wp_region_por ?_ ?_ ?_ ?_); kernel_rfl; kernel_rfl; (with_reducible repeat (first | exact calm_ret | refine calm_then ?_ | refine calm_in ?_ | refine calm_chk ?_ | refine calm_noGoto ?_))) | ((with_reducible refine chk_end ?_ ?_); kernel_rfl))
    go_ret
    exact ⟨Own.nil _ _ _ _, Mods.refl _ _⟩
  | some a =>
    have hn' := fun (w : World) => Lib.run_eql_slice_nil (P := Tryd.prog) w 22 60 (some a) n c 0 0 Tryd.underlying22
    have HR := Lib.hid h
    clear h
    have H1 := Lib.hid h1
    clear h1
    have HF := Lib.hid hF
    clear hF
    go_enter Tryd.func20, Tryd.ntmps20
    go_wp2_with (first | (at_builtin; refine wpList_append _ rfl (.tmp 5) (.tmp 6) 22 rfl 60 (.agg #[.int .i64 0, .bool false]) 2 16 Tryd.underlying22 infoChoice rfl (by decide) (F := fun g => g = w.heap.size) (n := 0) (xs := []) (by rfl) ?c1 (G := F) (y := .slice (some a) n c) (m := n) (news := xs) (by rfl) ?c2 H1.out (by omega) (by decide) ?c4) | ((with_reducible refine wp_region_por ?_ ?_ ?_ ?_); kernel_rfl; kernel_rfl; (with_reducible repeat (first | exact calm_ret | refine calm_then ?_ | refine calm_in ?_ | refine calm_chk ?_ | refine calm_noGoto ?_))) | ((with_reducible refine chk_end ?_ ?_); kernel_rfl))
    case c1 => exact ⟨World.ownsRow_made w #[] 0 (Nat.zero_le _) (Nat.zero_le _) rfl, fun g hg => by injection hg with hg; exact hg.symm⟩
    case c2 => exact HR.out.same (Same.alloc w _ HF.out)
    case c4 =>
      intro v1 w1 hown hmod hlt
      have HO := Lib.hid hown
      clear hown
      go_wp2_with (first | ((with_reducible refine wp_region_por ?_ ?_ ?_ ?_); kernel_rfl; kernel_rfl; (with_reducible repeat (first | exact calm_ret | refine calm_then ?_ | refine calm_in ?_ | refine calm_chk ?_ | refine calm_noGoto ?_))) | ((with_reducible refine chk_end ?_ ?_); kernel_rfl))
      go_ret
      refine ⟨?_, ?_⟩
      · have := HO.out
        try simp only [Nat.zero_add, List.nil_append] at this
        refine ⟨this.1, fun g hg => ⟨?_, hlt g hg⟩⟩
        rcases this.2 g hg with e | e
        · simp only [Value.ownBlock, Option.some.injEq] at e; omega
        · first | omega | (simp at e; omega)
      · exact ((Mods.refl No w).alloc _).trans hmod fun k hk e => by simp only [Value.ownBlock, Option.some.injEq] at e; omega

/-! ### (*Sink).ok -/
theorem ok_nil (w : World) : Calls Tryd.prog 21 #[.pointer none] w (Ret fun v w' => v = .bool false ∧ w = w') := by
  go_enter Tryd.func21, Tryd.ntmps21
  go_wp2
  go_ret
  exact ⟨rfl, rfl⟩
theorem ok_some (w : World) (b : Nat) (m : Bool) (h : w.cell? ⟨b, 0, none⟩ = some (.bool m)) : Calls Tryd.prog 21 #[.pointer (some ⟨b, 0, none⟩)] w (Ret fun v w' => v = .bool m ∧ w = w') := by
  go_enter Tryd.func21, Tryd.ntmps21
  go_wp2
  go_ret
  exact ⟨rfl, rfl⟩

/-! ### (*Sink).conn -/
set_option maxHeartbeats 400000 in
set_option maxRecDepth 100000 in
theorem conn_old (w : World) (p n k : Nat) (cv bv : Value) (ks : List Nat) (F : Nat → Prop) (hc : w.cell? ⟨p, 2, none⟩ = some cv)
    (ho : Own w F 67 1 cv (n + 1) (ks.map ptr)) (hk : ks[n]? = some k) (hkc : Cells w k 70 #[bv, .bool false]) (hn : n ≤ 1000000000) :
    Calls Tryd.prog 27 #[.pointer (some ⟨p, 0, none⟩)] w (Ret fun v w' => v = ptr k ∧ ∃ d, w' = w.drewN d) := by
  obtain ⟨b, off, c, rfl, _, hi⟩ := ho.rd.at1 (i := n) (by omega)
  have hi' : w.cell? ⟨b, off + n, none⟩ = some (.pointer (some ⟨k, 0, none⟩)) := by rw [hi]; simp [hk, ptr]
  have hf : w.cell? ⟨k, 1, none⟩ = some (.bool false) := hkc.at_ 1 rfl
  have Hho := Lib.hid ho
  clear ho
  have Hhk := Lib.hid hk
  clear hk
  have Hhkc := Lib.hid hkc
  clear hkc
  clear hi
  go_enter Tryd.func27, Tryd.ntmps27
  go_wp2_with (first | ((with_reducible refine wp_region_por ?_ ?_ ?_ ?_); kernel_rfl; kernel_rfl; (with_reducible repeat (first | exact calm_ret | refine calm_then ?_ | refine calm_in ?_ | refine calm_chk ?_ | refine calm_noGoto ?_))) | ((with_reducible refine chk_end ?_ ?_); kernel_rfl))
  go_ret
  exact ⟨rfl, 0, rfl⟩
/-- What a new connection leaves. -/
def ConnNew (w w' : World) (p n : Nat) (s0 s1 cv s3 s4 s5 s6 s7 : Value) (ks : List Nat) : Prop :=
  ∃ cv', Cells w' p 46 #[s0, s1, cv', s3, s4, s5, s6, s7] ∧ Own w' (fun g => cv.ownBlock = some g ∨ (w.heap.size ≤ g ∧ g < w'.heap.size)) 67 1 cv' (n + 1) ((ks ++ [w.heap.size]).map ptr) ∧
    Cells w' w.heap.size 70 #[.slice none 0 0, .bool false] ∧ Mods (fun g => g = p ∨ cv.ownBlock = some g) w w'
set_option maxHeartbeats 400000 in
set_option maxRecDepth 100000 in
theorem conn_new (w : World) (p n : Nat) (s0 s1 cv s3 s4 s5 s6 s7 : Value) (ks : List Nat) (F : Nat → Prop) (hp : Cells w p 46 #[s0, s1, cv, s3, s4, s5, s6, s7])
    (ho : Own w F 67 1 cv n (ks.map ptr)) (hl : n = 0 ∨ ∃ m k bv, n = m + 1 ∧ ks[m]? = some k ∧ Cells w k 70 #[bv, .bool true]) (hn : n ≤ 1000000000) :
    Calls Tryd.prog 27 #[.pointer (some ⟨p, 0, none⟩)] w (Ret fun v w' => v = ptr w.heap.size ∧ ConnNew w w' p n s0 s1 cv s3 s4 s5 s6 s7 ks) := by
  have h2 : w.cell? ⟨p, 2, none⟩ = some cv := hp.at_ 2 rfl
  have f2 := hp.frozen 2
  have hpl := hp.lt
  have hfin : ∀ (A : Option Addr) (c : Nat), cv = .slice A n c → ∀ v1 w1, Own w1 (fun k => cv.ownBlock = some k ∨ k = w.heap.size + 2) 67 1 v1 (n + 1) (ks.map ptr ++ [ptr w.heap.size]) →
      Mods (fun k => cv.ownBlock = some k) ((w.alloc (.cells #[.slice none 0 0, .bool false] 70)).alloc (.cells #[.pointer (some ⟨w.heap.size, 0, none⟩)] 67)) w1 → (∀ g, v1.ownBlock = some g → g < w1.heap.size) →
      ConnNew w ((w1.setCell ⟨p, 2, none⟩ v1).drew) p n s0 s1 cv s3 s4 s5 s6 s7 ks ∧ Cells w1 p 46 #[s0, s1, cv, s3, s4, s5, s6, s7] := by
    intro A c hcv v1 w1 hown hmod hlt
    have hne : cv.ownBlock ≠ some p := ho.ne_cells hp (by decide)
    have hpW : Cells w1 p 46 #[s0, s1, cv, s3, s4, s5, s6, s7] := ((hp.alloc _).alloc _).mods hmod hne
    have hnp : ∀ g, v1.ownBlock = some g → g ≠ p := fun g hg e => hown.ne_cells hpW (by decide) (e ▸ hg)
    refine ⟨⟨v1, ?_, ?_, ?_, ?_⟩, hpW⟩
    · simpa using (hpW.set_ 2 v1).drew
    · have h1 : Own (w1.setCell ⟨p, 2, none⟩ v1) _ _ _ _ _ _ := hown.tight.same (Same.setCell w1 ⟨p, 2, none⟩ v1 (fun e => hnp p e rfl))
      have h2 := h1.same (Same.drew _ _)
      refine ⟨by simpa using h2.1, fun g hg => ?_⟩
      have hg' := hlt g hg
      rcases hown.2 g hg with e | e
      · exact .inl e
      · exact .inr ⟨by omega, by simpa [World.setCell] using hg'⟩
    · have hk0 : Cells (w.alloc (.cells #[.slice none 0 0, .bool false] 70)) w.heap.size 70 #[.slice none 0 0, .bool false] := Cells.new w _ _
      have hlt' := ho.lt
      refine (((hk0.alloc _).mods hmod fun e => ?_).far (p := ⟨p, 2, none⟩) (by simp; omega) v1).drew
      have := hlt' _ e
      omega
    · exact (((((Mods.refl (fun g => g = p ∨ cv.ownBlock = some g) w).alloc _).alloc _).trans hmod (fun k _ e => Or.inr e)).setCell ⟨p, 2, none⟩ v1 (fun _ => Or.inl rfl)).drew
  have hrd : ∀ A c, cv = .slice A n c → Own ((w.alloc (.cells #[.slice none 0 0, .bool false] 70)).alloc (.cells #[.pointer (some ⟨w.heap.size, 0, none⟩)] 67)) (fun g => cv.ownBlock = some g) 67 1 cv n (ks.map ptr) := by
    intro A c _
    exact (ho.tight.same (Same.alloc w _ fun k hk => ho.lt k hk)).same (Same.alloc _ _ fun k hk => by have := ho.lt k hk; simp; omega)
  rcases hl with rfl | ⟨m, k, bv, rfl, hk, hkc⟩
  · obtain ⟨A, c, rfl, hnc, hcm⟩ := ho.form
    have hfin1 := hfin A c rfl
    have hrd1 := hrd A c rfl
    clear hfin hrd
    have Hho := Lib.hid ho
    clear ho
    have Hhp := Lib.hid hp
    clear hp
    have Hhfin1 := Lib.hid hfin1
    clear hfin1
    have Hhrd1 := Lib.hid hrd1
    clear hrd1
    go_enter Tryd.func27, Tryd.ntmps27
    go_wp2_with (first | (at_builtin; refine wpList_append _ rfl (.tmp 37) (.tmp 40) 44 rfl 67 (.pointer none) 1 8 Tryd.underlying44 infoPConn rfl (by decide) (F := fun g => (Value.slice A 0 c).ownBlock = some g) (n := 0) (xs := ks.map ptr) (by rfl) Hhrd1.out (G := fun g => g = w.heap.size + 1) (y := .slice (some ⟨w.heap.size + 1, 0, none⟩) 1 1) (m := 1) (news := [ptr w.heap.size]) (by rfl) ?c2 (by intro u hu; simp at hu; subst hu; rfl) (by omega) (by decide) ?c4) | ((with_reducible refine wp_region_por ?_ ?_ ?_ ?_); kernel_rfl; kernel_rfl; (with_reducible repeat (first | exact calm_ret | refine calm_then ?_ | refine calm_in ?_ | refine calm_chk ?_ | refine calm_noGoto ?_))) | ((with_reducible refine chk_end ?_ ?_); kernel_rfl))
    case c2 => exact Rd.box _ #[ptr w.heap.size] _ (by simp) rfl (by decide)
    case c4 =>
      intro v1 w1 hown hmod hlt
      obtain ⟨hend, hpW⟩ := Hhfin1.out v1 w1 hown hmod hlt
      obtain ⟨g, c1, hv1, _, _, hx⟩ := hown.at1 (i := 0) (by omega)
      have hgp : g ≠ p := fun e => hown.ne_cells hpW (by decide) (by rw [hv1, e]; rfl)
      have hx' : w1.cell? ⟨g, 0, none⟩ = some (ptr w.heap.size) := by
        rw [hx]
        have hl := Hho.out.1.1
        simp at hl
        simp [hl]
      have hpg : p ≠ g := fun e => hgp e.symm
      have hw2 : w1.cell? ⟨p, 2, none⟩ = some (.slice A 0 c) := hpW.at_ 2 rfl
      have hf2 := hpW.frozen 2
      clear hx hmod hlt hown
      subst hv1
      clear hpW
      have Hhend := Lib.hid hend
      clear hend
      go_wp2_with (first | ((with_reducible refine wp_region_por ?_ ?_ ?_ ?_); kernel_rfl; kernel_rfl; (with_reducible repeat (first | exact calm_ret | refine calm_then ?_ | refine calm_in ?_ | refine calm_chk ?_ | refine calm_noGoto ?_))) | ((with_reducible refine chk_end ?_ ?_); kernel_rfl))
      go_ret
      exact ⟨rfl, Hhend.out⟩
  · have hf : w.cell? ⟨k, 1, none⟩ = some (.bool true) := hkc.at_ 1 rfl
    obtain ⟨b, c0, rfl, _, _, hi⟩ := ho.at1 (i := m) (by omega)
    have hi' : w.cell? ⟨b, m, none⟩ = some (.pointer (some ⟨k, 0, none⟩)) := by rw [hi]; simp [hk, ptr]
    clear hi hk hkc
    have hfin1 := hfin _ _ rfl
    have hrd1 := hrd _ _ rfl
    clear hfin hrd
    have Hho := Lib.hid ho
    clear ho
    have Hhp := Lib.hid hp
    clear hp
    have Hhfin1 := Lib.hid hfin1
    clear hfin1
    have Hhrd1 := Lib.hid hrd1
    clear hrd1
    go_enter Tryd.func27, Tryd.ntmps27
    go_wp2_with (first | (at_builtin; refine wpList_append _ rfl (.tmp 37) (.tmp 40) 44 rfl 67 (.pointer none) 1 8 Tryd.underlying44 infoPConn rfl (by decide) (F := fun g => (Value.slice (some ⟨b, 0, none⟩) (m + 1) c0).ownBlock = some g) (n := (m + 1)) (xs := ks.map ptr) (by rfl) Hhrd1.out (G := fun g => g = w.heap.size + 1) (y := .slice (some ⟨w.heap.size + 1, 0, none⟩) 1 1) (m := 1) (news := [ptr w.heap.size]) (by rfl) ?d2 (by intro u hu; simp at hu; subst hu; rfl) (by omega) (by decide) ?d4) | ((with_reducible refine wp_region_por ?_ ?_ ?_ ?_); kernel_rfl; kernel_rfl; (with_reducible repeat (first | exact calm_ret | refine calm_then ?_ | refine calm_in ?_ | refine calm_chk ?_ | refine calm_noGoto ?_))) | ((with_reducible refine chk_end ?_ ?_); kernel_rfl))
    case d2 => exact Rd.box _ #[ptr w.heap.size] _ (by simp) rfl (by decide)
    case d4 =>
      intro v1 w1 hown hmod hlt
      obtain ⟨hend, hpW⟩ := Hhfin1.out v1 w1 hown hmod hlt
      obtain ⟨g, c1, hv1, _, _, hx⟩ := hown.at1 (i := (m + 1)) (by omega)
      have hgp : g ≠ p := fun e => hown.ne_cells hpW (by decide) (by rw [hv1, e]; rfl)
      have hx' : w1.cell? ⟨g, (m + 1), none⟩ = some (ptr w.heap.size) := by
        rw [hx]
        have hl := Hho.out.1.1
        simp at hl
        simp [hl]
      have hpg : p ≠ g := fun e => hgp e.symm
      have hw2 : w1.cell? ⟨p, 2, none⟩ = some (.slice (some ⟨b, 0, none⟩) (m + 1) c0) := hpW.at_ 2 rfl
      have hf2 := hpW.frozen 2
      clear hx hmod hlt hown
      subst hv1
      clear hpW
      have Hhend := Lib.hid hend
      clear hend
      go_wp2_with (first | ((with_reducible refine wp_region_por ?_ ?_ ?_ ?_); kernel_rfl; kernel_rfl; (with_reducible repeat (first | exact calm_ret | refine calm_then ?_ | refine calm_in ?_ | refine calm_chk ?_ | refine calm_noGoto ?_))) | ((with_reducible refine chk_end ?_ ?_); kernel_rfl))
      go_ret
      exact ⟨rfl, Hhend.out⟩
end Go.Proofs.YtmfpgghpnkmkpaaDoor
