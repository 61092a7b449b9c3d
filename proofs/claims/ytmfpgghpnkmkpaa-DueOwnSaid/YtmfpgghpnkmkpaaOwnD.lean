/- The law DueOwn of package tumblerlaw07 is true for every list of entries and every time; the arguments read behind the call as before. -/
import Derived.Test.YtmfpgghpnkmkpaaDueOwn
import Derived.Test.YtmfpgghpnkmkpaaDueArgs
namespace Go.Proofs.Ytmfpgghpnkmkpaa
open Go.ChangeShapes Go.WideShapes Go.RowKit Go.Tum Go.Deep
theorem own_knob : ownKnob Try.prog.godebug = none := by kernel_rfl
set_option maxRecDepth 100000 in
theorem dueOwn_contract (H : Type) (enc : TypeId × Value → H) (W : World) (base : Nat) (args : Array Value) (ds gs : List (DataW H)) (before : List MemPlace)
    (hval : ∀ (j : Nat) t v, Try.f4.params[j]? = some t → args[j]? = some v → Value.okWide Try.prog W .any base t v)
    (hW : DataW.Whole enc Try.prog Try.f4.params.toList Rows.dueOwnSpec.vars false W args.toList ds gs before)
    (hsz : (DataW.weightsEach Try.prog (Try.f4.params.toList ++ Rows.dueOwnSpec.plain.varTypes Try.prog) (ds ++ gs)).all (· ≤ reachBytes) = true) :
    Calls Try.prog 4 args W fun e W' => ∃ v, e = .returned v ∧ Rows.dueOwnSpec.post enc Try.prog Try.f4 false true false false W args v W' := by
  have hW' := hW
  obtain ⟨p, q, hA0, hV, rfl, hfz, hnd⟩ := hW
  have hA : DataW.TrodAll enc Try.prog W 0 (fun _ => true) true Try.f4.params.toList args.toList ds p := hA0
  rw [Try.params4] at hA hval hsz
  obtain ⟨rfl, rfl⟩ := trodVars_none hV
  rw [List.append_nil] at hsz
  obtain ⟨v0, v1, d0, d1, p0, p1, rfl, rfl, rfl, h0, h1⟩ := trodAll_two hA
  obtain ⟨l, hl, hb⟩ := arg_ents (hval 0 _ v0 rfl rfl) h0 (Law.wok_arg hsz (j := 0) rfl rfl)
  obtain ⟨now, rfl, rfl, rfl, hwn⟩ := open_int Try.underlying2 (hval 1 _ v1 rfl rfl) h1
  refine (dueOwn_K W v0 l now hl (fun a ha => Nat.le_trans (hb a ha) (by decide))).mono fun e W' he => ?_
  cases e with
  | returned v =>
    obtain ⟨rfl, hm⟩ := he
    exact ⟨_, rfl, Law.post_true hW' (of_decide_eq_true (by kernel_rfl)) (of_decide_eq_true (by kernel_rfl)) (by kernel_rfl) Try.underlying4 rfl rfl hm.below⟩
  | panicked c => exact he.elim
  | outgrown => exact he.elim
set_option maxRecDepth 100000 in
theorem dueOwn_lifted (os : Os) (started : os.Started) (H : Type) (enc : TypeId × Value → H) :
    ReturnsInHanded {} Try.checked os 4 .any (Rows.dueOwnSpec.pre6 enc Try.prog Try.f4 Rows.dueOwnRow.domain false) (Rows.dueOwnSpec.post enc Try.prog Try.f4 false true false false) := by
  refine returnsInHanded_of_change_sized (C := Try.checked) own_knob started (by kernel_rfl) Try.func4
    (ChangeSpec.witness6 (enc := enc) (C := Try.checked) false ⟨#[], #[.slice none 0 0, .int .i64 0], []⟩ 8 (by kernel_rfl) (by kernel_rfl) (by kernel_rfl) (by kernel_rfl)) ?_
  intro W base args ds gs before hval hW _ hsz _
  exact dueOwn_contract H enc W base args ds gs before hval hW hsz
theorem dueOwn_holds : Rows.DueOwnSaid :=
  OpenClaim.holds_of_wide 4 Try.f4 rfl rfl rfl rfl rfl rfl rfl ⟨rfl, rfl, rfl, rfl, rfl⟩ rfl rfl rfl rfl rfl (by kernel_rfl) Try.func4 (by kernel_rfl)
    (of_decide_eq_true (by kernel_rfl)) (by unfold Func.isWrapper; first | (rw [if_pos (by decide +kernel)]; kernel_rfl) | (rw [if_neg (by decide +kernel)]; exact ⟨rfl, rfl⟩))
    (fun os started H enc _ => dueOwn_lifted os started H enc)
end Go.Proofs.Ytmfpgghpnkmkpaa
