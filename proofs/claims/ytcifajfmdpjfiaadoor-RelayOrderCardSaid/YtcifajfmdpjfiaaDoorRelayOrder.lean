/- The law RelayOrder of package tumblerlaw24 is true for every list of nodes, number, list of records and list of bytes; the arguments read behind the call as before. -/
import Derived.Test.YtcifajfmdpjfiaaDoorRlOs
import Derived.Test.YtcifajfmdpjfiaaDoorRlArgs
namespace Go.Proofs.YtcifajfmdpjfiaaDoor
open Go.ChangeShapes Go.WideShapes Go.RowKit Go.Tum Go.Deep
set_option maxRecDepth 100000 in
theorem relayOrder_contract (H : Type) (enc : TypeId × Value → H) (W : World) (base : Nat) (args : Array Value) (ds gs : List (DataW H)) (before : List MemPlace)
    (hval : ∀ (j : Nat) t v, Tryd.f3.params[j]? = some t → args[j]? = some v → Value.okWide Tryd.prog W .any base t v)
    (hW : DataW.Whole enc Tryd.prog Tryd.f3.params.toList Rows.relayOrderSpec.vars false W args.toList ds gs before)
    (hsz : (DataW.weightsEach Tryd.prog (Tryd.f3.params.toList ++ Rows.relayOrderSpec.plain.varTypes Tryd.prog) (ds ++ gs)).all (· ≤ reachBytes) = true) (hL : laidMetH Tryd.prog Rows.relayOrderRow.laid W) :
    Calls Tryd.prog 3 args W fun e W' => ∃ v, e = .returned v ∧ Rows.relayOrderSpec.post enc Tryd.prog Tryd.f3 false true false false W args v W' := by
  have hW' := hW
  obtain ⟨p, q, hA0, hV, rfl, hfz, hnd⟩ := hW
  have hA : DataW.TrodAll enc Tryd.prog W 0 (fun _ => true) true Tryd.f3.params.toList args.toList ds p := hA0
  rw [Tryd.params3] at hA hval hsz
  obtain ⟨rfl, rfl⟩ := trodVars_none hV
  rw [List.append_nil] at hsz
  have ht := tab_of_laid hL
  obtain ⟨v0, v1, v2, v3, d0, d1, d2, d3, p0, p1, p2, p3, rfl, rfl, rfl, h0, h1, h2, h3⟩ := trodAll_four hA
  obtain ⟨nodes, hn⟩ := arg_texts (hval 0 _ v0 rfl rfl) h0
  obtain ⟨n, rfl, rfl, rfl, _⟩ := open_int Tryd.underlying3 (hval 1 _ v1 rfl rfl) h1
  obtain ⟨l, hl, hp, _⟩ := arg_recs (hval 2 _ v2 rfl rfl) (Law.wok_arg hsz (j := 2) rfl rfl) h2
  obtain ⟨fuel, h3⟩ := Law.slice_cells Tryd.underlying24 (hval 3 _ v3 rfl rfl) h3
  obtain ⟨tk, htk, _⟩ := Law.trod_bytes Tryd.underlying24 Tryd.underlying5 (by kernel_rfl) h3
  have hp' : ∀ x ∈ l, x.1.length ≤ maxLen := fun x hx => Nat.le_trans (hp x hx) (by decide)
  refine (relayOrder_K W nodes n l tk v0 v2 v3 ht hn hl htk hp').mono fun e W' he => ?_
  cases e with
  | returned v =>
    obtain ⟨rfl, hm⟩ := he
    exact ⟨_, rfl, Law.post_true hW' rg_out (of_decide_eq_true (by kernel_rfl)) (by kernel_rfl) Tryd.underlying4 rfl rfl hm.below⟩
  | panicked c => exact he.elim
  | outgrown => exact he.elim
theorem relayOrder_reads (os : Os) {H : Type} (enc : TypeId × Value → H) : ∃ places, DataW.whole enc Tryd.prog ((laidW os).forCall (fun _ _ => 0) ⟨#[], #[.slice none 0 0, .int .i64 0, .slice none 0 0, .slice none 0 0], []⟩).memory Tryd.f3.params.toList Rows.relayOrderSpec.vars false #[.slice none 0 0, .int .i64 0, .slice none 0 0, .slice none 0 0].toList 8 = some ([.nil, .lit (.int .i64 0), .nil, .nil], [], places) :=
  ⟨[], by kernel_rfl⟩
set_option maxRecDepth 100000 in
theorem relayOrder_lifted (os : Os) (started : os.Started) (H : Type) (enc : TypeId × Value → H) (F : Stop.Interp) :
    ReturnsInHanded {} Tryd.checked os 3 .any ((OpenSpec.ofChange Rows.relayOrderSpec).preRow enc Tryd.prog Tryd.f3 Rows.relayOrderRow.domain false Rows.relayOrderRow.laid) (((OpenSpec.ofChange Rows.relayOrderSpec).at F).post enc Tryd.prog Tryd.f3 false true false false) := by
  obtain ⟨places, hx⟩ := relayOrder_reads os enc
  refine returnsInHanded_of_row (C := Tryd.checked) (s := OpenSpec.ofChange Rows.relayOrderSpec) rg_own started (by kernel_rfl) Tryd.func3
    (witness_row_atRef (enc := enc) (C := Tryd.checked) false (laidW os) #[.slice none 0 0, .int .i64 0, .slice none 0 0, .slice none 0 0] rfl (by kernel_rfl) (by kernel_rfl) (by kernel_rfl)
      (OpenSpec.preRow_of_cond 8 hx (by kernel_rfl) (fun k hk => by cases hk) (by kernel_rfl) (laidW_met os _))) ?_
  intro W base args ds gs before hval hW _ _ hsz hL _ _
  exact relayOrder_contract H enc W base args ds gs before hval hW hsz hL
theorem relayOrder_said : Rows.RelayOrderSaid :=
  OpenClaim.holds_of_cond 3 Tryd.f3 rfl rfl rfl rfl rfl rfl rfl ⟨rfl, rfl, rfl, rfl, rfl⟩ rfl rfl rfl rfl rfl (by kernel_rfl) Tryd.func3 (by kernel_rfl)
    (of_decide_eq_true (by kernel_rfl)) (by unfold Func.isWrapper; first | (rw [if_pos (by decide +kernel)]; kernel_rfl) | (rw [if_neg (by decide +kernel)]; exact ⟨rfl, rfl⟩))
    (fun os started H enc _ F => by rw [OpenClaim.pre_eq_preRow]; exact relayOrder_lifted os started H enc F)
theorem relayOrder_plain (f : FuncId) (fn : Func) (hf : Tryd.pinned.checked.prog.funcNamed "tumbler/tumblerlaw24.RelayOrder" = some f) (hfn : Tryd.pinned.checked.prog.funcs[f]? = some fn) :
    false = Tryd.pinned.checked.prog.looks [] ∧ ∀ (j : Nat) t, fn.params[j]? = some t → Tryd.pinned.checked.prog.wantsStandIn t = false := by
  obtain rfl : f = 3 := Option.some.inj ((show Tryd.prog.funcNamed "tumbler/tumblerlaw24.RelayOrder" = some 3 by kernel_rfl).symm.trans hf) |>.symm
  obtain rfl : fn = Tryd.f3 := (Option.some.inj (Tryd.func3.symm.trans hfn)).symm
  refine ⟨by kernel_rfl, fun j t ht => ?_⟩
  have h : ∀ t ∈ Tryd.f3.params.toList, Tryd.prog.wantsStandIn t = false := of_decide_eq_true (by kernel_rfl)
  exact h t (by simpa using Array.mem_of_getElem? ht)
theorem relayOrder_card : Rows.RelayOrderCardSaid :=
  Claim7.holds_tied_plain_at .later [] _ _ _ _ relayOrder_said (fun _ h => by cases h) (by kernel_rfl) (fun _ h => by cases h) relayOrder_row_tie rfl ⟨rfl, rfl⟩ (by kernel_rfl) rfl relayOrder_plain (by kernel_rfl)
end Go.Proofs.YtcifajfmdpjfiaaDoor
