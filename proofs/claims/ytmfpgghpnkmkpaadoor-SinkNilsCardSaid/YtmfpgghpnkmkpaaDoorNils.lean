/- The law SinkNils of package tumblerlaw18 is true for every number and every slice of bytes; the arguments read behind the call as before. The laid variable is package sink's sentinel. -/
import Derived.Test.YtmfpgghpnkmkpaaDoorSinkQ
import Derived.Test.YtmfpgghpnkmkpaaDoorSinkR
namespace Go.Proofs.YtmfpgghpnkmkpaaDoor
open Go.ChangeShapes Go.WideShapes Go.RowKit Go.Tum Go.Deep
set_option maxRecDepth 100000 in
theorem sinkNils_contract (H : Type) (enc : TypeId × Value → H) (W : World) (base : Nat) (args : Array Value) (ds gs : List (DataW H)) (before : List MemPlace)
    (hval : ∀ (j : Nat) t v, Tryd.f4.params[j]? = some t → args[j]? = some v → Value.okWide Tryd.prog W .any base t v)
    (hW : DataW.Whole enc Tryd.prog Tryd.f4.params.toList Rows.sinkNilsSpec.vars false W args.toList ds gs before) (hL : laidMetH Tryd.prog Rows.sinkNilsRow.laid W) :
    Calls Tryd.prog 4 args W fun e W' => ∃ v, e = .returned v ∧ Rows.sinkNilsSpec.post enc Tryd.prog Tryd.f4 false true false false W args v W' := by
  have hW' := hW
  obtain ⟨p, q, hA0, hV, rfl, hfz, hnd⟩ := hW
  have hA : DataW.TrodAll enc Tryd.prog W 0 (fun _ => true) true Tryd.f4.params.toList args.toList ds p := hA0
  rw [Tryd.params4] at hA hval
  obtain ⟨v0, v1, d0, d1, p0, p1, rfl, rfl, rfl, h0, h1⟩ := trodAll_two hA
  obtain ⟨id, rfl, rfl, rfl, hwn⟩ := open_int Tryd.underlying2 (hval 0 2 v0 rfl rfl) h0
  obtain ⟨n1, h1⟩ := Law.slice_cells Tryd.underlying30 (hval 1 30 v1 rfl rfl) h1
  obtain ⟨b, hb, _⟩ := Law.trod_bytes Tryd.underlying30 Tryd.underlying5 (by kernel_rfl) h1
  obtain ⟨A, c, rfl, _, _⟩ := hb.form
  obtain ⟨ea, hea⟩ := failed_of_laid hL
  refine (sinkNils_K W ea hea id A b.length c).mono fun e W' he => ?_
  cases e with
  | returned v =>
    obtain ⟨rfl, hm⟩ := he
    exact ⟨_, rfl, Law.post_true hW' sk_out (of_decide_eq_true (by kernel_rfl)) (by kernel_rfl) Tryd.underlying4 rfl rfl hm.below⟩
  | panicked c => exact he.elim
  | outgrown => exact he.elim
theorem sinkNils_reads (os : Os) {H : Type} (enc : TypeId × Value → H) : ∃ places, DataW.whole enc Tryd.prog ((laidW os).forCall (fun _ _ => 0) ⟨#[], #[.int .i64 0, .slice none 0 0], []⟩).memory Tryd.f4.params.toList Rows.sinkNilsSpec.vars false #[.int .i64 0, .slice none 0 0].toList 8 = some ([.lit (.int .i64 0), .nil], [], places) :=
  ⟨[], by kernel_rfl⟩
set_option maxRecDepth 100000 in
theorem sinkNils_lifted (os : Os) (started : os.Started) (H : Type) (enc : TypeId × Value → H) (F : Stop.Interp) :
    ReturnsInHanded {} Tryd.checked os 4 .any ((OpenSpec.ofChange Rows.sinkNilsSpec).preRow enc Tryd.prog Tryd.f4 Rows.sinkNilsRow.domain false Rows.sinkNilsRow.laid) (((OpenSpec.ofChange Rows.sinkNilsSpec).at F).post enc Tryd.prog Tryd.f4 false true false false) := by
  obtain ⟨places, hx⟩ := sinkNils_reads os enc
  refine returnsInHanded_of_row (C := Tryd.checked) (s := OpenSpec.ofChange Rows.sinkNilsSpec) sk_own started (by kernel_rfl) Tryd.func4
    (witness_row_atRef (enc := enc) (C := Tryd.checked) false (laidW os) #[.int .i64 0, .slice none 0 0] rfl (by kernel_rfl) (by kernel_rfl) (by kernel_rfl)
      (OpenSpec.preRow_of_cond 8 hx (by kernel_rfl) (fun k hk => by cases hk) (by kernel_rfl) (laidW_met os _))) ?_
  intro W base args ds gs before hval hW _ hcond _ hL _ _
  exact sinkNils_contract H enc W base args ds gs before hval hW hL 
theorem sinkNils_said : Rows.SinkNilsSaid :=
  OpenClaim.holds_of_cond 4 Tryd.f4 rfl rfl rfl rfl rfl rfl rfl ⟨rfl, rfl, rfl, rfl, rfl⟩ rfl rfl rfl rfl rfl (by kernel_rfl) Tryd.func4 (by kernel_rfl)
    (of_decide_eq_true (by kernel_rfl)) (by unfold Func.isWrapper; first | (rw [if_pos (by decide +kernel)]; kernel_rfl) | (rw [if_neg (by decide +kernel)]; exact ⟨rfl, rfl⟩))
    (fun os started H enc _ F => by rw [OpenClaim.pre_eq_preRow]; exact sinkNils_lifted os started H enc F)
theorem sinkNils_plain (f : FuncId) (fn : Func) (hf : Tryd.pinned.checked.prog.funcNamed "tumbler/tumblerlaw18.SinkNils" = some f) (hfn : Tryd.pinned.checked.prog.funcs[f]? = some fn) :
    true = Tryd.pinned.checked.prog.looks [] ∧ ∀ (j : Nat) t, fn.params[j]? = some t → Tryd.pinned.checked.prog.wantsStandIn t = false := by
  obtain rfl : f = 4 := Option.some.inj ((show Tryd.prog.funcNamed "tumbler/tumblerlaw18.SinkNils" = some 4 by kernel_rfl).symm.trans hf) |>.symm
  obtain rfl : fn = Tryd.f4 := (Option.some.inj (Tryd.func4.symm.trans hfn)).symm
  refine ⟨by kernel_rfl, fun j t ht => ?_⟩
  have h : ∀ t ∈ Tryd.f4.params.toList, Tryd.prog.wantsStandIn t = false := of_decide_eq_true (by kernel_rfl)
  exact h t (by simpa using Array.mem_of_getElem? ht)
theorem sinkNils_card : Rows.SinkNilsCardSaid :=
  Claim7.holds_tied_plain_at .later [] _ _ _ _ sinkNils_said (fun _ h => by cases h) (by kernel_rfl) (fun _ h => by cases h) sinkNils_row_tie rfl ⟨rfl, rfl⟩ (by kernel_rfl) rfl sinkNils_plain (by kernel_rfl)
end Go.Proofs.YtmfpgghpnkmkpaaDoor
