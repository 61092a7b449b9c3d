/- The law RingPicks of package tumblerlaw13 is true for every list of nodes, every number of copies, every key and count; the arguments read behind the call as before. -/
import Derived.Test.YtilkepmmkhmghaaDoorRgT
import Derived.Test.YtilkepmmkhmghaaDoorRgArgs
namespace Go.Proofs.YtilkepmmkhmghaaDoor
open Go.ChangeShapes Go.WideShapes Go.RowKit Go.Tum Go.Deep
set_option maxRecDepth 100000 in
theorem ringPicks_contract (H : Type) (enc : TypeId × Value → H) (W : World) (base : Nat) (args : Array Value) (ds gs : List (DataW H)) (before : List MemPlace)
    (hval : ∀ (j : Nat) t v, Tryd.f5.params[j]? = some t → args[j]? = some v → Value.okWide Tryd.prog W .any base t v)
    (hW : DataW.Whole enc Tryd.prog Tryd.f5.params.toList Rows.ringPicksSpec.vars false W args.toList ds gs before)
    (hsz : (DataW.weightsEach Tryd.prog (Tryd.f5.params.toList ++ Rows.ringPicksSpec.plain.varTypes Tryd.prog) (ds ++ gs)).all (· ≤ reachBytes) = true) (hL : laidMetH Tryd.prog Rows.ringPicksRow.laid W) :
    Calls Tryd.prog 5 args W fun e W' => ∃ v, e = .returned v ∧ Rows.ringPicksSpec.post enc Tryd.prog Tryd.f5 false true false false W args v W' := by
  have hW' := hW
  obtain ⟨p, q, hA0, hV, rfl, hfz, hnd⟩ := hW
  have hA : DataW.TrodAll enc Tryd.prog W 0 (fun _ => true) true Tryd.f5.params.toList args.toList ds p := hA0
  rw [Tryd.params5] at hA hval hsz
  obtain ⟨rfl, rfl⟩ := trodVars_none hV
  rw [List.append_nil] at hsz
  have ht := tab_of_laid hL
  obtain ⟨v0, v1, v2, v3, d0, d1, d2, d3, p0, p1, p2, p3, rfl, rfl, rfl, h0, h1, h2, h3⟩ := trodAll_four hA
  obtain ⟨l, hl⟩ := arg_texts (hval 0 _ v0 rfl rfl) h0
  obtain ⟨c, rfl, rfl, rfl, _⟩ := open_int Tryd.underlying3 (hval 1 _ v1 rfl rfl) h1
  obtain ⟨s, rfl, rfl, rfl, _⟩ := ChangeMaps.open_string Tryd.underlying9 (hval 2 _ v2 rfl rfl) h2
  obtain ⟨n, rfl, rfl, rfl, _⟩ := open_int Tryd.underlying3 (hval 3 _ v3 rfl rfl) h3
  have hs := Nat.le_trans (Law.wok_string (Law.wok_arg hsz (j := 2) rfl rfl)) (show reachBytes ≤ maxLen by decide)
  rw [ks_of]
  refine (ringPicks_K W v0 l c s.data.toList n hl ht hs).mono fun e W' he => ?_
  cases e with
  | returned v =>
    obtain ⟨rfl, hm⟩ := he
    exact ⟨_, rfl, Law.post_true hW' rg_out (of_decide_eq_true (by kernel_rfl)) (by kernel_rfl) Tryd.underlying4 rfl rfl hm.below⟩
  | panicked c => exact he.elim
  | outgrown => exact he.elim
theorem ringPicks_reads (os : Os) {H : Type} (enc : TypeId × Value → H) : ∃ places, DataW.whole enc Tryd.prog ((laidW os).forCall (fun _ _ => 0) ⟨#[], #[.slice none 0 0, .int .i64 0, .string ⟨#[]⟩, .int .i64 0], []⟩).memory Tryd.f5.params.toList Rows.ringPicksSpec.vars false #[.slice none 0 0, .int .i64 0, .string ⟨#[]⟩, .int .i64 0].toList 8 = some ([.nil, .lit (.int .i64 0), .lit (.string []), .lit (.int .i64 0)], [], places) :=
  ⟨[], by kernel_rfl⟩
set_option maxRecDepth 100000 in
theorem ringPicks_lifted (os : Os) (started : os.Started) (H : Type) (enc : TypeId × Value → H) (F : Stop.Interp) :
    ReturnsInHanded {} Tryd.checked os 5 .any ((OpenSpec.ofChange Rows.ringPicksSpec).preRow enc Tryd.prog Tryd.f5 Rows.ringPicksRow.domain false Rows.ringPicksRow.laid) (((OpenSpec.ofChange Rows.ringPicksSpec).at F).post enc Tryd.prog Tryd.f5 false true false false) := by
  obtain ⟨places, hx⟩ := ringPicks_reads os enc
  refine returnsInHanded_of_row (C := Tryd.checked) (s := OpenSpec.ofChange Rows.ringPicksSpec) rg_own started (by kernel_rfl) Tryd.func5
    (witness_row_atRef (enc := enc) (C := Tryd.checked) false (laidW os) #[.slice none 0 0, .int .i64 0, .string ⟨#[]⟩, .int .i64 0] rfl (by kernel_rfl) (by kernel_rfl) (by kernel_rfl)
      (OpenSpec.preRow_of_cond 8 hx (by kernel_rfl) (fun k hk => by cases hk) (by kernel_rfl) (laidW_met os _))) ?_
  intro W base args ds gs before hval hW _ _ hsz hL _ _
  exact ringPicks_contract H enc W base args ds gs before hval hW hsz hL
theorem ringPicks_said : Rows.RingPicksSaid :=
  OpenClaim.holds_of_cond 5 Tryd.f5 rfl rfl rfl rfl rfl rfl rfl ⟨rfl, rfl, rfl, rfl, rfl⟩ rfl rfl rfl rfl rfl (by kernel_rfl) Tryd.func5 (by kernel_rfl)
    (of_decide_eq_true (by kernel_rfl)) (by unfold Func.isWrapper; first | (rw [if_pos (by decide +kernel)]; kernel_rfl) | (rw [if_neg (by decide +kernel)]; exact ⟨rfl, rfl⟩))
    (fun os started H enc _ F => by rw [OpenClaim.pre_eq_preRow]; exact ringPicks_lifted os started H enc F)
theorem ringPicks_plain (f : FuncId) (fn : Func) (hf : Tryd.pinned.checked.prog.funcNamed "tumbler/tumblerlaw13.RingPicks" = some f) (hfn : Tryd.pinned.checked.prog.funcs[f]? = some fn) :
    false = Tryd.pinned.checked.prog.looks [] ∧ ∀ (j : Nat) t, fn.params[j]? = some t → Tryd.pinned.checked.prog.wantsStandIn t = false := by
  obtain rfl : f = 5 := Option.some.inj ((show Tryd.prog.funcNamed "tumbler/tumblerlaw13.RingPicks" = some 5 by kernel_rfl).symm.trans hf) |>.symm
  obtain rfl : fn = Tryd.f5 := (Option.some.inj (Tryd.func5.symm.trans hfn)).symm
  refine ⟨by kernel_rfl, fun j t ht => ?_⟩
  have h : ∀ t ∈ Tryd.f5.params.toList, Tryd.prog.wantsStandIn t = false := of_decide_eq_true (by kernel_rfl)
  exact h t (by simpa using Array.mem_of_getElem? ht)
theorem ringPicks_card : Rows.RingPicksCardSaid :=
  Claim7.holds_tied_plain_at .later [] _ _ _ _ ringPicks_said (fun _ h => by cases h) (by kernel_rfl) (fun _ h => by cases h) ringPicks_row_tie rfl ⟨rfl, rfl⟩ (by kernel_rfl) rfl ringPicks_plain (by kernel_rfl)
end Go.Proofs.YtilkepmmkhmghaaDoor
