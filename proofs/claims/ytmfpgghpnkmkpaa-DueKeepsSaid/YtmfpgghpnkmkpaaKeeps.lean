/- The law DueKeeps of package tumblerlaw07 is true for every limit and every list of calls; the arguments read behind the call as before. -/
import Derived.Test.YtmfpgghpnkmkpaaDueX
import Derived.Test.YtmfpgghpnkmkpaaDueArgs
namespace Go.Proofs.Ytmfpgghpnkmkpaa
open Go.ChangeShapes Go.WideShapes Go.RowKit Go.Tum Go.Deep
set_option maxRecDepth 100000 in
theorem arg_ops {H : Type} {enc : TypeId × Value → H} {W : World} {base : Nat} {v : Value} {d : DataW H} {ps : List MemPlace} (hval : Value.okWide Try.prog W .any base 51 v) (h : DataW.Trod enc Try.prog W 0 (fun _ => true) true 51 v d ps) (hw : Law.Wok Try.prog 51 d) :
    ∃ l : List Opr, Rd W (Law.Old W) 3 v l.length (l.flatMap row3) ∧ ∀ a ∈ l, a.2.1.length ≤ reachBytes := by
  obtain ⟨fuel, h⟩ := Law.slice_cells Try.underlying51 hval h
  haveI : Inhabited Opr := ⟨(0, [], 0)⟩
  exact Law.trod_triplesW (α := Opr) (fun a => .int .i64 a.1) (fun a => ks a.2.1) (fun a => .int .i64 a.2.2) (fun a => a.2.1.length ≤ reachBytes) Try.underlying51 Try.underlying55 (by kernel_rfl) rfl rfl rfl (by kernel_rfl) (by kernel_rfl) (by kernel_rfl)
    (fun k u0 u1 u2 y0 y1 y2 h0 h1 h2 w0 w1 w2 => by
      obtain ⟨n, e0, _, _⟩ := DataW.trod_int Try.underlying3 h0
      obtain ⟨s, e1, rfl, hs⟩ := DataW.trod_string Try.underlying9 h1
      obtain ⟨m, e2, _, _⟩ := DataW.trod_int Try.underlying2 h2
      injection e0 with e0
      injection e1 with e1
      injection e2 with e2
      subst e0 e1 e2
      exact ⟨(n, s.data.toList, m), rfl, ks_bytes s, rfl, Law.wok_string w1⟩) h hw
theorem own_knob : ownKnob Try.prog.godebug = none := by kernel_rfl
set_option maxRecDepth 100000 in
theorem dueKeeps_contract (H : Type) (enc : TypeId × Value → H) (W : World) (base : Nat) (args : Array Value) (ds gs : List (DataW H)) (before : List MemPlace)
    (hval : ∀ (j : Nat) t v, Try.f6.params[j]? = some t → args[j]? = some v → Value.okWide Try.prog W .any base t v)
    (hW : DataW.Whole enc Try.prog Try.f6.params.toList Rows.dueKeepsSpec.vars false W args.toList ds gs before)
    (hsz : (DataW.weightsEach Try.prog (Try.f6.params.toList ++ Rows.dueKeepsSpec.plain.varTypes Try.prog) (ds ++ gs)).all (· ≤ reachBytes) = true) :
    Calls Try.prog 6 args W fun e W' => ∃ v, e = .returned v ∧ Rows.dueKeepsSpec.post enc Try.prog Try.f6 false true false false W args v W' := by
  have hW' := hW
  obtain ⟨p, q, hA0, hV, rfl, hfz, hnd⟩ := hW
  have hA : DataW.TrodAll enc Try.prog W 0 (fun _ => true) true Try.f6.params.toList args.toList ds p := hA0
  rw [Try.params6] at hA hval hsz
  obtain ⟨rfl, rfl⟩ := trodVars_none hV
  rw [List.append_nil] at hsz
  obtain ⟨v0, v1, d0, d1, p0, p1, rfl, rfl, rfl, h0, h1⟩ := trodAll_two hA
  obtain ⟨lim, rfl, rfl, rfl, hwl⟩ := open_int Try.underlying3 (hval 0 _ v0 rfl rfl) h0
  obtain ⟨l, hl, hb⟩ := arg_ops (hval 1 _ v1 rfl rfl) h1 (Law.wok_arg hsz (j := 1) rfl rfl)
  refine (dueKeeps_K W lim v1 l hl (fun a ha => Nat.le_trans (hb a ha) (by decide))).mono fun e W' he => ?_
  cases e with
  | returned v =>
    obtain ⟨rfl, hm⟩ := he
    exact ⟨_, rfl, Law.post_true hW' (of_decide_eq_true (by kernel_rfl)) (of_decide_eq_true (by kernel_rfl)) (by kernel_rfl) Try.underlying4 rfl rfl hm.below⟩
  | panicked c => exact he.elim
  | outgrown => exact he.elim
set_option maxRecDepth 100000 in
theorem dueKeeps_lifted (os : Os) (started : os.Started) (H : Type) (enc : TypeId × Value → H) :
    ReturnsInHanded {} Try.checked os 6 .any (Rows.dueKeepsSpec.pre6 enc Try.prog Try.f6 Rows.dueKeepsRow.domain false) (Rows.dueKeepsSpec.post enc Try.prog Try.f6 false true false false) := by
  refine returnsInHanded_of_change_sized (C := Try.checked) own_knob started (by kernel_rfl) Try.func6
    (ChangeSpec.witness6 (enc := enc) (C := Try.checked) false ⟨#[], #[.int .i64 0, .slice none 0 0], []⟩ 8 (by kernel_rfl) (by kernel_rfl) (by kernel_rfl) (by kernel_rfl)) ?_
  intro W base args ds gs before hval hW _ hsz _
  exact dueKeeps_contract H enc W base args ds gs before hval hW hsz
theorem dueKeeps_holds : Rows.DueKeepsSaid :=
  OpenClaim.holds_of_wide 6 Try.f6 rfl rfl rfl rfl rfl rfl rfl ⟨rfl, rfl, rfl, rfl, rfl⟩ rfl rfl rfl rfl rfl (by kernel_rfl) Try.func6 (by kernel_rfl)
    (of_decide_eq_true (by kernel_rfl)) (by unfold Func.isWrapper; first | (rw [if_pos (by decide +kernel)]; kernel_rfl) | (rw [if_neg (by decide +kernel)]; exact ⟨rfl, rfl⟩))
    (fun os started H enc _ => dueKeeps_lifted os started H enc)
end Go.Proofs.Ytmfpgghpnkmkpaa
