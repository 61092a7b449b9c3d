/- The reference's queue: Take. -/
import Derived.Test.YtmfpgghpnkmkpaaDueR
namespace Go.Proofs.Ytmfpgghpnkmkpaa
open Go.RowKit Go.Tum Go.Shelf
set_option maxRecDepth 100000
theorem tw_at {p : Ent → Bool} {L : List Ent} {i : Nat} (h : ∀ y ∈ L.take i, p y = true) (hs : L.length ≤ i ∨ ∃ x, L[i]? = some x ∧ p x = false) : L.takeWhile p = L.take i ∧ L.dropWhile p = L.drop i := by
  induction L generalizing i with
  | nil => simp
  | cons y L ih =>
    cases i with
    | zero =>
      rcases hs with hs | ⟨x, hx, hp⟩
      · simp at hs
      · simp only [List.getElem?_cons_zero, Option.some.injEq] at hx
        subst hx
        simp [hp]
    | succ i =>
      have h1 : p y = true := h y (by simp)
      obtain ⟨a, b⟩ := ih (i := i) (fun z hz => h z (by simp [hz])) (by
        rcases hs with hs | ⟨x, hx, hp⟩
        · exact .inl (by simpa using hs)
        · exact .inr ⟨x, by simpa using hx, hp⟩)
      simp [h1, a, b]
def due (now : Int) (x : Ent) : Bool := decide (x.2 ≤ now)
theorem _root_.Go.Tum.Rd.of_take {w : World} {F : Nat → Prop} {v : Value} {L : List Ent} {i : Nat} (h : Rd w F 2 v i ((entsL L).take (i * 2))) (hi : i ≤ L.length) : Rd w F 2 v (L.take i).length (entsL (L.take i)) := by
  rw [entsL_take] at h
  rw [List.length_take, Nat.min_eq_left hi]
  exact h
theorem _root_.Go.Tum.Rd.of_drop {w : World} {F : Nat → Prop} {v : Value} {L : List Ent} {i : Nat} (h : Rd w F 2 v (L.length - i) (((entsL L).take (L.length * 2)).drop (i * 2))) : Rd w F 2 v (L.drop i).length (entsL (L.drop i)) := by
  rw [entsL_take, List.take_length, entsL_drop] at h
  rw [List.length_drop]
  exact h
theorem take_end {w wr : World} {r i n c : Nat} {lim : Int} {A : Option Addr} {u : Value} {L T D : List Ent} {F : Nat → Prop} (hrk : RK wr r lim (.slice A n c) L F) (hn : L.length = n) (hm : Mods No w wr) (hi : i ≤ n)
    {m : Nat} (hR : Rd wr F 2 u m (((entsL L).take (L.length * 2)).drop (i * 2))) (hT : T = L.take i) (hD : D = L.drop i) (hmm : L.length - i = m) :
    Rd (wr.setCell ⟨r, 1, none⟩ u) F 2 (.slice A i c) T.length (entsL T) ∧ Mods (fun k => k = r) w (wr.setCell ⟨r, 1, none⟩ u) ∧ RefK (wr.setCell ⟨r, 1, none⟩ u) r lim D F := by
  subst hT hD hn hmm
  refine ⟨((hrk.rd.take hi).same (Same.setCell wr _ _ hrk.nr)).of_take hi, (hm.mono no_sub).setCell _ _ fun _ => rfl, _, RK.put hrk.cells hR.of_drop (fun g hg => ⟨fun e => hrk.nr (e ▸ hg), hrk.lt g hg⟩) ?_⟩
  have := hrk.small
  rw [List.length_drop]; omega
set_option maxHeartbeats 1600000 in
theorem rtake_K (w : World) (r : Nat) (lim : Int) (L : List Ent) (F : Nat → Prop) (now : Int) (h : RefK w r lim L F) :
    Calls Try.prog 18 #[(.pointer (some ⟨r, 0, none⟩)), .int .i64 now] w (Ret fun v w' => Rd w' F 2 v (L.takeWhile (due now)).length (entsL (L.takeWhile (due now))) ∧ Mods (fun k => k = r) w w' ∧ RefK w' r lim (L.dropWhile (due now)) F) := by
  obtain ⟨v, h⟩ := h
  obtain ⟨A, c, rfl, hac, hac2⟩ := h.rd.form
  have c0 := h.cells.at_ 1 rfl
  have hsm := h.small
  have Hh := Lib.hid h
  clear h
  go_enter Try.func18, Try.ntmps18
  go_wp2_with (first | ((with_reducible refine wp_region_por ?_ ?_ ?_ ?_); kernel_rfl; kernel_rfl; (with_reducible repeat (first | exact calm_ret | refine calm_then ?_ | refine calm_in ?_ | refine calm_chk ?_ | refine calm_noGoto ?_))) | ((with_reducible refine chk_end ?_ ?_); kernel_rfl))
  go_loopg [5] L.length (fun k v5 wr => ∃ i : Nat, v5 = .int .i64 i ∧ i ≤ L.length ∧ k + i = L.length ∧ (∀ y ∈ L.take i, due now y = true) ∧ Mods No w wr)
  case atStart => exact ⟨0, rfl, Nat.zero_le _, rfl, fun y hy => by simp at hy, Mods.refl _ _⟩
  case round =>
    obtain ⟨i, rfl, hi, hki, hall, hm⟩ := hrel
    have c1 := (Hh.out.cells.mods hm fun e => e).at_ 1 rfl
    have f1 := (Hh.out.cells.mods hm fun e => e).frozen 1
    have HM := Lib.hid hm
    clear hm
    have Hki := Lib.hid hki
    have Hall := Lib.hid hall
    clear hki hall
    rcases Nat.lt_or_ge i L.length with h1 | h1
    · obtain ⟨x, hx⟩ := lt_get h1
      obtain ⟨b1, o1, rfl, _, x0, x1⟩ := (Hh.out.mods HM.out (fun e => e) fun _ _ e => e).rd.pair hx
      by_cases hk : x.2 ≤ now
      · have hs : decide (x.2 ≤ now) = true := decide_eq_true hk
        have Hk := Lib.hid (And.intro hx hk)
        clear hx hk
        go_wp2_with (first | ((with_reducible refine wp_region_por ?_ ?_ ?_ ?_); kernel_rfl; kernel_rfl; (with_reducible repeat (first | exact calm_ret | refine calm_then ?_ | refine calm_in ?_ | refine calm_chk ?_ | refine calm_noGoto ?_))) | ((with_reducible refine chk_end ?_ ?_); kernel_rfl))
        go_roundg (gk - 1)
        case rel =>
          have h5 := Hki.out
          refine ⟨i + 1, by go_num, h1, by omega, fun y hy => ?_, by have := HM.out; repeat (first | exact this | apply Mods.drew | apply Mods.drewN)⟩
          rw [take_next Hk.out.1] at hy
          rcases List.mem_append.1 hy with hy | hy
          · exact Hall.out y hy
          · rw [List.mem_singleton.1 hy]; exact decide_eq_true Hk.out.2
        case measure => have := Hki.out; omega
      · have hs : decide (x.2 ≤ now) = false := decide_eq_false hk
        have Htw := Lib.hid (tw_at Hall.out (.inr ⟨x, hx, hs⟩))
        have hci : ¬ c = i := by omega
        have hR1 := ((Hh.out.mods HM.out (fun e => e) fun _ _ e => e).rd.cut (k := i) (l := L.length) hi (Nat.le_refl _))
        rw [if_neg hci, Option.map_some, Addr.add_lit] at hR1
        clear hx
        have HR1 := Lib.hid hR1
        clear hR1
        go_wp2_with (first | ((with_reducible refine wp_region_por ?_ ?_ ?_ ?_); kernel_rfl; kernel_rfl; (with_reducible repeat (first | exact calm_ret | refine calm_then ?_ | refine calm_in ?_ | refine calm_chk ?_ | refine calm_noGoto ?_))) | ((with_reducible refine chk_end ?_ ?_); kernel_rfl))
        go_ret
        exact take_end (Hh.out.mods HM.out (fun e => e) fun _ _ e => e) rfl HM.out hi HR1.out Htw.out.1 Htw.out.2 (by omega)
    · obtain rfl : i = L.length := by omega
      have Htw := Lib.hid (tw_at Hall.out (.inl (Nat.le_refl _)))
      have hR1 := ((Hh.out.mods HM.out (fun e => e) fun _ _ e => e).rd.cut (k := L.length) (l := L.length) hi (Nat.le_refl _))
      by_cases hci : c = L.length
      · rw [if_pos hci, hci, Nat.sub_self] at hR1
        subst hci
        have HR1 := Lib.hid hR1
        clear hR1
        go_wp2_with (first | ((with_reducible refine wp_region_por ?_ ?_ ?_ ?_); kernel_rfl; kernel_rfl; (with_reducible repeat (first | exact calm_ret | refine calm_then ?_ | refine calm_in ?_ | refine calm_chk ?_ | refine calm_noGoto ?_))) | ((with_reducible refine chk_end ?_ ?_); kernel_rfl))
        go_ret
        exact take_end (Hh.out.mods HM.out (fun e => e) fun _ _ e => e) rfl HM.out hi HR1.out Htw.out.1 Htw.out.2 (by omega)
      · rw [if_neg hci, Nat.sub_self] at hR1
        have HR1 := Lib.hid hR1
        clear hR1
        go_wp2_with (first | ((with_reducible refine wp_region_por ?_ ?_ ?_ ?_); kernel_rfl; kernel_rfl; (with_reducible repeat (first | exact calm_ret | refine calm_then ?_ | refine calm_in ?_ | refine calm_chk ?_ | refine calm_noGoto ?_))) | ((with_reducible refine chk_end ?_ ?_); kernel_rfl))
        go_ret
        exact take_end (Hh.out.mods HM.out (fun e => e) fun _ _ e => e) rfl HM.out hi HR1.out Htw.out.1 Htw.out.2 (by omega)
end Go.Proofs.Ytmfpgghpnkmkpaa
