/- The law RingOwn of package tumblerlaw13 is true for every list of nodes, every number of copies and every key; the arguments read behind the call as before. -/
import Derived.Test.YtilkepmmkhmghaaDoorRfJ
import Derived.Test.YtilkepmmkhmghaaDoorRgArgs
import Derived.Test.YtilkepmmkhmghaaDoorLaw4
namespace Go.Proofs.YtilkepmmkhmghaaDoor
open Go.ChangeShapes Go.WideShapes Go.RowKit Go.Tum Go.Deep
set_option maxRecDepth 100000 in
theorem arg_texts_len {H : Type} {enc : TypeId × Value → H} {W : World} {base n : Nat} {v : Value} {d : DataW H} {ps : List MemPlace} {F : Nat → Prop} {xs : List Value} (hval : Value.okWide Tryd.prog W .any base 22 v) (h : DataW.Trod enc Tryd.prog W 0 (fun _ => true) true 22 v d ps) (hw : Law.Wok Tryd.prog 22 d) (hr : Rd W F 1 v n xs) : n * 16 ≤ 140737488355328 := by
  obtain ⟨fuel, h⟩ := Law.slice_cells Tryd.underlying22 hval h
  have h1 := Law.trod_bytes_len Tryd.underlying22 h hw hr
  rw [show Tryd.prog.bytesOf 9 = 16 by kernel_rfl] at h1
  exact Nat.le_trans h1 (by decide)
set_option maxRecDepth 100000 in
theorem ringOwn_contract (H : Type) (enc : TypeId × Value → H) (W : World) (base : Nat) (args : Array Value) (ds gs : List (DataW H)) (before : List MemPlace)
    (hval : ∀ (j : Nat) t v, Tryd.f3.params[j]? = some t → args[j]? = some v → Value.okWide Tryd.prog W .any base t v)
    (hW : DataW.Whole enc Tryd.prog Tryd.f3.params.toList Rows.ringOwnSpec.vars false W args.toList ds gs before)
    (hsz : (DataW.weightsEach Tryd.prog (Tryd.f3.params.toList ++ Rows.ringOwnSpec.plain.varTypes Tryd.prog) (ds ++ gs)).all (· ≤ reachBytes) = true) (hL : laidMetH Tryd.prog Rows.ringOwnRow.laid W) :
    Calls Tryd.prog 3 args W fun e W' => ∃ v, e = .returned v ∧ Rows.ringOwnSpec.post enc Tryd.prog Tryd.f3 false true false false W args v W' := by
  have hW' := hW
  obtain ⟨p, q, hA0, hV, rfl, hfz, hnd⟩ := hW
  have hA : DataW.TrodAll enc Tryd.prog W 0 (fun _ => true) true Tryd.f3.params.toList args.toList ds p := hA0
  rw [Tryd.params3] at hA hval hsz
  obtain ⟨rfl, rfl⟩ := trodVars_none hV
  rw [List.append_nil] at hsz
  have ht := tab_of_laid hL
  obtain ⟨v0, v1, v2, d0, d1, d2, p0, p1, p2, rfl, rfl, rfl, h0, h1, h2⟩ := trodAll_three hA
  obtain ⟨l, hl⟩ := arg_texts (hval 0 _ v0 rfl rfl) h0
  have hlb := arg_texts_len (hval 0 _ v0 rfl rfl) h0 (Law.wok_arg hsz (j := 0) rfl rfl) hl
  obtain ⟨c, rfl, rfl, rfl, _⟩ := open_int Tryd.underlying3 (hval 1 _ v1 rfl rfl) h1
  obtain ⟨s, rfl, rfl, rfl, _⟩ := ChangeMaps.open_string Tryd.underlying9 (hval 2 _ v2 rfl rfl) h2
  have hs := Nat.le_trans (Law.wok_string (Law.wok_arg hsz (j := 2) rfl rfl)) (show reachBytes ≤ maxLen by decide)
  rw [ks_of]
  refine (ringOwn_K W v0 l c s.data.toList hl hlb ht hs).mono fun e W' he => ?_
  cases e with
  | returned v =>
    obtain ⟨rfl, hm⟩ := he
    exact ⟨_, rfl, Law.post_true hW' rg_out (of_decide_eq_true (by kernel_rfl)) (by kernel_rfl) Tryd.underlying4 rfl rfl hm.below⟩
  | panicked c => exact he.elim
  | outgrown => exact he.elim
theorem ringOwn_reads (os : Os) {H : Type} (enc : TypeId × Value → H) : ∃ places, DataW.whole enc Tryd.prog ((laidW os).forCall (fun _ _ => 0) ⟨#[], #[.slice none 0 0, .int .i64 0, .string ⟨#[]⟩], []⟩).memory Tryd.f3.params.toList Rows.ringOwnSpec.vars false #[.slice none 0 0, .int .i64 0, .string ⟨#[]⟩].toList 8 = some ([.nil, .lit (.int .i64 0), .lit (.string [])], [], places) :=
  ⟨[], by kernel_rfl⟩
set_option maxRecDepth 100000 in
theorem ringOwn_lifted (os : Os) (started : os.Started) (H : Type) (enc : TypeId × Value → H) (F : Stop.Interp) :
    ReturnsInHanded {} Tryd.checked os 3 .any ((OpenSpec.ofChange Rows.ringOwnSpec).preRow enc Tryd.prog Tryd.f3 Rows.ringOwnRow.domain false Rows.ringOwnRow.laid) (((OpenSpec.ofChange Rows.ringOwnSpec).at F).post enc Tryd.prog Tryd.f3 false true false false) := by
  obtain ⟨places, hx⟩ := ringOwn_reads os enc
  refine returnsInHanded_of_row (C := Tryd.checked) (s := OpenSpec.ofChange Rows.ringOwnSpec) rg_own started (by kernel_rfl) Tryd.func3
    (witness_row_atRef (enc := enc) (C := Tryd.checked) false (laidW os) #[.slice none 0 0, .int .i64 0, .string ⟨#[]⟩] rfl (by kernel_rfl) (by kernel_rfl) (by kernel_rfl)
      (OpenSpec.preRow_of_cond 8 hx (by kernel_rfl) (fun k hk => by cases hk) (by kernel_rfl) (laidW_met os _))) ?_
  intro W base args ds gs before hval hW _ _ hsz hL _ _
  exact ringOwn_contract H enc W base args ds gs before hval hW hsz hL
theorem ringOwn_said : Rows.RingOwnSaid :=
  OpenClaim.holds_of_cond 3 Tryd.f3 rfl rfl rfl rfl rfl rfl rfl ⟨rfl, rfl, rfl, rfl, rfl⟩ rfl rfl rfl rfl rfl (by kernel_rfl) Tryd.func3 (by kernel_rfl)
    (of_decide_eq_true (by kernel_rfl)) (by unfold Func.isWrapper; first | (rw [if_pos (by decide +kernel)]; kernel_rfl) | (rw [if_neg (by decide +kernel)]; exact ⟨rfl, rfl⟩))
    (fun os started H enc _ F => by rw [OpenClaim.pre_eq_preRow]; exact ringOwn_lifted os started H enc F)
theorem ringOwn_plain (f : FuncId) (fn : Func) (hf : Tryd.pinned.checked.prog.funcNamed "tumbler/tumblerlaw13.RingOwn" = some f) (hfn : Tryd.pinned.checked.prog.funcs[f]? = some fn) :
    false = Tryd.pinned.checked.prog.looks [] ∧ ∀ (j : Nat) t, fn.params[j]? = some t → Tryd.pinned.checked.prog.wantsStandIn t = false := by
  obtain rfl : f = 3 := Option.some.inj ((show Tryd.prog.funcNamed "tumbler/tumblerlaw13.RingOwn" = some 3 by kernel_rfl).symm.trans hf) |>.symm
  obtain rfl : fn = Tryd.f3 := (Option.some.inj (Tryd.func3.symm.trans hfn)).symm
  refine ⟨by kernel_rfl, fun j t ht => ?_⟩
  have h : ∀ t ∈ Tryd.f3.params.toList, Tryd.prog.wantsStandIn t = false := of_decide_eq_true (by kernel_rfl)
  exact h t (by simpa using Array.mem_of_getElem? ht)
theorem ringOwn_card : Rows.RingOwnCardSaid :=
  Claim7.holds_tied_plain_at .later [] _ _ _ _ ringOwn_said (fun _ h => by cases h) (by kernel_rfl) (fun _ h => by cases h) ringOwn_row_tie rfl ⟨rfl, rfl⟩ (by kernel_rfl) rfl ringOwn_plain (by kernel_rfl)
end Go.Proofs.YtilkepmmkhmghaaDoor
