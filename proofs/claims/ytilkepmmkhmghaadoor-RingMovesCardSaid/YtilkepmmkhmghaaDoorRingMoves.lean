/- The law RingMoves of package tumblerlaw13 is true for every list of nodes, every number of copies, every node and list of keys; the arguments read behind the call as before. -/
import Derived.Test.YtilkepmmkhmghaaDoorRfK
import Derived.Test.YtilkepmmkhmghaaDoorRgArgs
namespace Go.Proofs.YtilkepmmkhmghaaDoor
open Go.ChangeShapes Go.WideShapes Go.RowKit Go.Tum Go.Deep
set_option maxRecDepth 100000 in
theorem arg_textsM {H : Type} {enc : TypeId × Value → H} {W : World} {base : Nat} {v : Value} {d : DataW H} {ps : List MemPlace} (hval : Value.okWide Tryd.prog W .any base 22 v) (h : DataW.Trod enc Tryd.prog W 0 (fun _ => true) true 22 v d ps) :
    ∃ l : List Tx, Rd W (Law.Old W) 1 v l.length (l.map ks) ∧ ∀ a ∈ l, a.length ≤ maxLen := by
  obtain ⟨fuel, h⟩ := Law.slice_cells Tryd.underlying22 hval h
  obtain ⟨l, h1, h2, _⟩ := Law.trod_ones (α := Tx) ks (fun _ => 0) (fun a => a.length ≤ maxLen) Tryd.underlying22 (by kernel_rfl) (fun k u y hy => by
    obtain ⟨s, e0, rfl, hs⟩ := DataW.trod_string Tryd.underlying9 hy
    injection e0 with e0
    subst e0
    exact ⟨s.data.toList, ks_of s, by simpa using hs, Nat.zero_le _⟩) h
  exact ⟨l, h1, h2⟩
set_option maxRecDepth 100000 in
theorem ringMoves_contract (H : Type) (enc : TypeId × Value → H) (W : World) (base : Nat) (args : Array Value) (ds gs : List (DataW H)) (before : List MemPlace)
    (hval : ∀ (j : Nat) t v, Tryd.f8.params[j]? = some t → args[j]? = some v → Value.okWide Tryd.prog W .any base t v)
    (hW : DataW.Whole enc Tryd.prog Tryd.f8.params.toList Rows.ringMovesSpec.vars false W args.toList ds gs before)
    (hsz : (DataW.weightsEach Tryd.prog (Tryd.f8.params.toList ++ Rows.ringMovesSpec.plain.varTypes Tryd.prog) (ds ++ gs)).all (· ≤ reachBytes) = true) (hL : laidMetH Tryd.prog Rows.ringMovesRow.laid W) :
    Calls Tryd.prog 8 args W fun e W' => ∃ v, e = .returned v ∧ Rows.ringMovesSpec.post enc Tryd.prog Tryd.f8 false true false false W args v W' := by
  have hW' := hW
  obtain ⟨p, q, hA0, hV, rfl, hfz, hnd⟩ := hW
  have hA : DataW.TrodAll enc Tryd.prog W 0 (fun _ => true) true Tryd.f8.params.toList args.toList ds p := hA0
  rw [Tryd.params8] at hA hval hsz
  obtain ⟨rfl, rfl⟩ := trodVars_none hV
  rw [List.append_nil] at hsz
  have ht := tab_of_laid hL
  obtain ⟨v0, v1, v2, v3, d0, d1, d2, d3, p0, p1, p2, p3, rfl, rfl, rfl, h0, h1, h2, h3⟩ := trodAll_four hA
  obtain ⟨l, hl⟩ := arg_texts (hval 0 _ v0 rfl rfl) h0
  obtain ⟨c, rfl, rfl, rfl, _⟩ := open_int Tryd.underlying3 (hval 1 _ v1 rfl rfl) h1
  obtain ⟨s, rfl, rfl, rfl, _⟩ := ChangeMaps.open_string Tryd.underlying9 (hval 2 _ v2 rfl rfl) h2
  obtain ⟨K, hk, hks⟩ := arg_textsM (hval 3 _ v3 rfl rfl) h3
  have hs := Nat.le_trans (Law.wok_string (Law.wok_arg hsz (j := 2) rfl rfl)) (show reachBytes ≤ 281474976710656 by decide)
  rw [ks_of]
  refine (ringMoves_K W v0 v3 l c s.data.toList K hl hk ht hs hks).mono fun e W' he => ?_
  cases e with
  | returned v =>
    obtain ⟨rfl, hm⟩ := he
    exact ⟨_, rfl, Law.post_true hW' rg_out (of_decide_eq_true (by kernel_rfl)) (by kernel_rfl) Tryd.underlying4 rfl rfl hm.below⟩
  | panicked c => exact he.elim
  | outgrown => exact he.elim
theorem ringMoves_reads (os : Os) {H : Type} (enc : TypeId × Value → H) : ∃ places, DataW.whole enc Tryd.prog ((laidW os).forCall (fun _ _ => 0) ⟨#[], #[.slice none 0 0, .int .i64 0, .string ⟨#[]⟩, .slice none 0 0], []⟩).memory Tryd.f8.params.toList Rows.ringMovesSpec.vars false #[.slice none 0 0, .int .i64 0, .string ⟨#[]⟩, .slice none 0 0].toList 8 = some ([.nil, .lit (.int .i64 0), .lit (.string []), .nil], [], places) :=
  ⟨[], by kernel_rfl⟩
set_option maxRecDepth 100000 in
theorem ringMoves_lifted (os : Os) (started : os.Started) (H : Type) (enc : TypeId × Value → H) (F : Stop.Interp) :
    ReturnsInHanded {} Tryd.checked os 8 .any ((OpenSpec.ofChange Rows.ringMovesSpec).preRow enc Tryd.prog Tryd.f8 Rows.ringMovesRow.domain false Rows.ringMovesRow.laid) (((OpenSpec.ofChange Rows.ringMovesSpec).at F).post enc Tryd.prog Tryd.f8 false true false false) := by
  obtain ⟨places, hx⟩ := ringMoves_reads os enc
  refine returnsInHanded_of_row (C := Tryd.checked) (s := OpenSpec.ofChange Rows.ringMovesSpec) rg_own started (by kernel_rfl) Tryd.func8
    (witness_row_atRef (enc := enc) (C := Tryd.checked) false (laidW os) #[.slice none 0 0, .int .i64 0, .string ⟨#[]⟩, .slice none 0 0] rfl (by kernel_rfl) (by kernel_rfl) (by kernel_rfl)
      (OpenSpec.preRow_of_cond 8 hx (by kernel_rfl) (fun k hk => by cases hk) (by kernel_rfl) (laidW_met os _))) ?_
  intro W base args ds gs before hval hW _ _ hsz hL _ _
  exact ringMoves_contract H enc W base args ds gs before hval hW hsz hL
theorem ringMoves_said : Rows.RingMovesSaid :=
  OpenClaim.holds_of_cond 8 Tryd.f8 rfl rfl rfl rfl rfl rfl rfl ⟨rfl, rfl, rfl, rfl, rfl⟩ rfl rfl rfl rfl rfl (by kernel_rfl) Tryd.func8 (by kernel_rfl)
    (of_decide_eq_true (by kernel_rfl)) (by unfold Func.isWrapper; first | (rw [if_pos (by decide +kernel)]; kernel_rfl) | (rw [if_neg (by decide +kernel)]; exact ⟨rfl, rfl⟩))
    (fun os started H enc _ F => by rw [OpenClaim.pre_eq_preRow]; exact ringMoves_lifted os started H enc F)
theorem ringMoves_plain (f : FuncId) (fn : Func) (hf : Tryd.pinned.checked.prog.funcNamed "tumbler/tumblerlaw13.RingMoves" = some f) (hfn : Tryd.pinned.checked.prog.funcs[f]? = some fn) :
    false = Tryd.pinned.checked.prog.looks [] ∧ ∀ (j : Nat) t, fn.params[j]? = some t → Tryd.pinned.checked.prog.wantsStandIn t = false := by
  obtain rfl : f = 8 := Option.some.inj ((show Tryd.prog.funcNamed "tumbler/tumblerlaw13.RingMoves" = some 8 by kernel_rfl).symm.trans hf) |>.symm
  obtain rfl : fn = Tryd.f8 := (Option.some.inj (Tryd.func8.symm.trans hfn)).symm
  refine ⟨by kernel_rfl, fun j t ht => ?_⟩
  have h : ∀ t ∈ Tryd.f8.params.toList, Tryd.prog.wantsStandIn t = false := of_decide_eq_true (by kernel_rfl)
  exact h t (by simpa using Array.mem_of_getElem? ht)
theorem ringMoves_card : Rows.RingMovesCardSaid :=
  Claim7.holds_tied_plain_at .later [] _ _ _ _ ringMoves_said (fun _ h => by cases h) (by kernel_rfl) (fun _ h => by cases h) ringMoves_row_tie rfl ⟨rfl, rfl⟩ (by kernel_rfl) rfl ringMoves_plain (by kernel_rfl)
end Go.Proofs.YtilkepmmkhmghaaDoor
