/- The law RelayOwn of package tumblerlaw24 is true for all settings and every list of records; the arguments read behind the call as before. -/
import Derived.Test.YtcifajfmdpjfiaaDoorRlOw
namespace Go.Proofs.YtcifajfmdpjfiaaDoor
open Go.ChangeShapes Go.WideShapes Go.RowKit Go.Tum Go.Deep
set_option maxRecDepth 100000 in
/-- The settings' nodes lie within the form's reach. -/
theorem conf_len {H : Type} {enc : TypeId × Value → H} {W : World} {base : Nat} {v : Value} {d : DataW H} {ps : List MemPlace} {vn : Value} {nodes : List Tx} {C R K : Int} {nw : Bool} (hval : Value.okWide Tryd.prog W .any base 26 v) (h : DataW.Trod enc Tryd.prog W 0 (fun _ => true) true 26 v d ps) (hw : Law.Wok Tryd.prog 26 d)
    (hv : v = .agg #[vn, .int .i64 C, .int .i64 R, .int .i64 K, .bool nw]) (hr : Rd W (Law.Old W) 1 vn nodes.length (nodes.map ks)) : nodes.length * 16 ≤ reachBytes := by
  obtain ⟨cs, k, rfl, h2⟩ := arg_struct Tryd.underlying26 hval h
  injection hv with hv
  have hcs : cs = [vn, .int .i64 C, .int .i64 R, .int .i64 K, .bool nw] := by simpa using congrArg Array.toList hv
  subst hcs
  obtain ⟨ys, k1, rfl, e, hl, hy, hf⟩ := DataW.trod_struct Tryd.underlying26 h2
  have hd : d = .agg (ys.map (·.1)) := congrArg Prod.fst e
  subst hd
  have hy2 : ys.length = 5 := hy
  obtain ⟨y0, g0, h0⟩ := field_read (t := 22) (off := 0) (hf 0 _ rfl) co_texts (by omega)
  have hw0 := Law.wok_part (j := 0) Tryd.underlying26 hw rfl (by rw [List.getElem?_map, g0]; rfl)
  have h0' : DataW.trod enc Tryd.prog W 0 (fun _ => true) true k1 22 [vn] = some y0 := h0
  have h3 := Law.trod_bytes_len Tryd.underlying22 h0' hw0 hr
  rwa [show Tryd.prog.bytesOf 9 = 16 by kernel_rfl] at h3
set_option maxRecDepth 100000 in
theorem relayOwn_contract (H : Type) (enc : TypeId × Value → H) (W : World) (base : Nat) (args : Array Value) (ds gs : List (DataW H)) (before : List MemPlace)
    (hval : ∀ (j : Nat) t v, Tryd.f5.params[j]? = some t → args[j]? = some v → Value.okWide Tryd.prog W .any base t v)
    (hW : DataW.Whole enc Tryd.prog Tryd.f5.params.toList Rows.relayOwnSpec.vars false W args.toList ds gs before)
    (hsz : (DataW.weightsEach Tryd.prog (Tryd.f5.params.toList ++ Rows.relayOwnSpec.plain.varTypes Tryd.prog) (ds ++ gs)).all (· ≤ reachBytes) = true) (hL : laidMetH Tryd.prog Rows.relayOwnRow.laid W) :
    Calls Tryd.prog 5 args W fun e W' => ∃ v, e = .returned v ∧ Rows.relayOwnSpec.post enc Tryd.prog Tryd.f5 false true false false W args v W' := by
  have hW' := hW
  obtain ⟨p, q, hA0, hV, rfl, hfz, hnd⟩ := hW
  have hA : DataW.TrodAll enc Tryd.prog W 0 (fun _ => true) true Tryd.f5.params.toList args.toList ds p := hA0
  rw [Tryd.params5] at hA hval hsz
  obtain ⟨rfl, rfl⟩ := trodVars_none hV
  rw [List.append_nil] at hsz
  have ht := tab_of_laid hL
  obtain ⟨v0, v1, d0, d1, p0, p1, rfl, rfl, rfl, h0, h1⟩ := trodAll_two hA
  obtain ⟨vn, nodes, C, R, K, nw, hv, hn⟩ := arg_conf (hval 0 _ v0 rfl rfl) h0
  have hnl := Nat.le_trans (conf_len (hval 0 _ v0 rfl rfl) h0 (Law.wok_arg hsz (j := 0) rfl rfl) hv hn) (show reachBytes ≤ 140737488355328 by decide)
  subst hv
  obtain ⟨l, hl, hp, hln⟩ := arg_recs (hval 1 _ v1 rfl rfl) (Law.wok_arg hsz (j := 1) rfl rfl) h1
  have hp' : ∀ x ∈ l, x.1.length ≤ maxLen := fun x hx => Nat.le_trans (hp x hx) (by decide)
  have hl' : l.length ≤ 144115188075855872 := by
    have h5 : reachBytes ≤ 144115188075855872 := by decide
    omega
  refine (relayOwn_K W nodes C R K nw l vn v1 ht hn hl hp' hl' hnl).mono fun e W' he => ?_
  cases e with
  | returned v =>
    obtain ⟨rfl, hm⟩ := he
    exact ⟨_, rfl, Law.post_true hW' rg_out (of_decide_eq_true (by kernel_rfl)) (by kernel_rfl) Tryd.underlying4 rfl rfl hm.below⟩
  | panicked c => exact he.elim
  | outgrown => exact he.elim
theorem relayOwn_reads (os : Os) {H : Type} (enc : TypeId × Value → H) : ∃ places, DataW.whole enc Tryd.prog ((laidW os).forCall (fun _ _ => 0) ⟨#[], #[.agg #[.slice none 0 0, .int .i64 0, .int .i64 0, .int .i64 0, .bool false], .slice none 0 0], []⟩).memory Tryd.f5.params.toList Rows.relayOwnSpec.vars false #[.agg #[.slice none 0 0, .int .i64 0, .int .i64 0, .int .i64 0, .bool false], .slice none 0 0].toList 8 = some ([.agg [.nil, .lit (.int .i64 0), .lit (.int .i64 0), .lit (.int .i64 0), .lit (.bool false)], .nil], [], places) :=
  ⟨[], by kernel_rfl⟩
set_option maxRecDepth 100000 in
theorem relayOwn_lifted (os : Os) (started : os.Started) (H : Type) (enc : TypeId × Value → H) (F : Stop.Interp) :
    ReturnsInHanded {} Tryd.checked os 5 .any ((OpenSpec.ofChange Rows.relayOwnSpec).preRow enc Tryd.prog Tryd.f5 Rows.relayOwnRow.domain false Rows.relayOwnRow.laid) (((OpenSpec.ofChange Rows.relayOwnSpec).at F).post enc Tryd.prog Tryd.f5 false true false false) := by
  obtain ⟨places, hx⟩ := relayOwn_reads os enc
  refine returnsInHanded_of_row (C := Tryd.checked) (s := OpenSpec.ofChange Rows.relayOwnSpec) rg_own started (by kernel_rfl) Tryd.func5
    (witness_row_atRef (enc := enc) (C := Tryd.checked) false (laidW os) #[.agg #[.slice none 0 0, .int .i64 0, .int .i64 0, .int .i64 0, .bool false], .slice none 0 0] rfl (by kernel_rfl) (by kernel_rfl) (by kernel_rfl)
      (OpenSpec.preRow_of_cond 8 hx (by kernel_rfl) (fun k hk => by cases hk) (by kernel_rfl) (laidW_met os _))) ?_
  intro W base args ds gs before hval hW _ _ hsz hL _ _
  exact relayOwn_contract H enc W base args ds gs before hval hW hsz hL
theorem relayOwn_said : Rows.RelayOwnSaid :=
  OpenClaim.holds_of_cond 5 Tryd.f5 rfl rfl rfl rfl rfl rfl rfl ⟨rfl, rfl, rfl, rfl, rfl⟩ rfl rfl rfl rfl rfl (by kernel_rfl) Tryd.func5 (by kernel_rfl)
    (of_decide_eq_true (by kernel_rfl)) (by unfold Func.isWrapper; first | (rw [if_pos (by decide +kernel)]; kernel_rfl) | (rw [if_neg (by decide +kernel)]; exact ⟨rfl, rfl⟩))
    (fun os started H enc _ F => by rw [OpenClaim.pre_eq_preRow]; exact relayOwn_lifted os started H enc F)
theorem relayOwn_plain (f : FuncId) (fn : Func) (hf : Tryd.pinned.checked.prog.funcNamed "tumbler/tumblerlaw24.RelayOwn" = some f) (hfn : Tryd.pinned.checked.prog.funcs[f]? = some fn) :
    false = Tryd.pinned.checked.prog.looks [] ∧ ∀ (j : Nat) t, fn.params[j]? = some t → Tryd.pinned.checked.prog.wantsStandIn t = false := by
  obtain rfl : f = 5 := Option.some.inj ((show Tryd.prog.funcNamed "tumbler/tumblerlaw24.RelayOwn" = some 5 by kernel_rfl).symm.trans hf) |>.symm
  obtain rfl : fn = Tryd.f5 := (Option.some.inj (Tryd.func5.symm.trans hfn)).symm
  refine ⟨by kernel_rfl, fun j t ht => ?_⟩
  have h : ∀ t ∈ Tryd.f5.params.toList, Tryd.prog.wantsStandIn t = false := of_decide_eq_true (by kernel_rfl)
  exact h t (by simpa using Array.mem_of_getElem? ht)
theorem relayOwn_card : Rows.RelayOwnCardSaid :=
  Claim7.holds_tied_plain_at .later [] _ _ _ _ relayOwn_said (fun _ h => by cases h) (by kernel_rfl) (fun _ h => by cases h) relayOwn_row_tie rfl ⟨rfl, rfl⟩ (by kernel_rfl) rfl relayOwn_plain (by kernel_rfl)
end Go.Proofs.YtcifajfmdpjfiaaDoor
