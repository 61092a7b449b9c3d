/- The law RingKeeps of package tumblerlaw13 is true for every list of nodes, every number of copies and every list of calls; the arguments read behind the call as before. -/
import Derived.Test.YtilkepmmkhmghaaDoorRfI
import Derived.Test.YtilkepmmkhmghaaDoorRgArgs
import Derived.Test.YtilkepmmkhmghaaDoorLaw3
namespace Go.Proofs.YtilkepmmkhmghaaDoor
open Go.ChangeShapes Go.WideShapes Go.RowKit Go.Tum Go.Deep
set_option maxRecDepth 100000 in
theorem arg_ops {H : Type} {enc : TypeId × Value → H} {W : World} {base : Nat} {v : Value} {d : DataW H} {ps : List MemPlace} (hval : Value.okWide Tryd.prog W .any base 53 v) (h : DataW.Trod enc Tryd.prog W 0 (fun _ => true) true 53 v d ps) (hw : Law.Wok Tryd.prog 53 d) :
    ∃ l : List Opr, Rd W (Law.Old W) 3 v l.length (l.flatMap row3) ∧ ∀ a ∈ l, a.2.1.length ≤ reachBytes := by
  obtain ⟨fuel, h⟩ := Law.slice_cells Tryd.underlying53 hval h
  haveI : Inhabited Opr := ⟨(0, [], 0)⟩
  exact Law.trod_triplesW (α := Opr) (fun a => .int .i64 a.1) (fun a => ks a.2.1) (fun a => .int .i64 a.2.2) (fun a => a.2.1.length ≤ reachBytes) Tryd.underlying53 Tryd.underlying57 (by kernel_rfl) rfl rfl rfl (by kernel_rfl) (by kernel_rfl) (by kernel_rfl)
    (fun k u0 u1 u2 y0 y1 y2 h0 h1 h2 w0 w1 w2 => by
      obtain ⟨n, e0, _, _⟩ := DataW.trod_int Tryd.underlying3 h0
      obtain ⟨s, e1, rfl, hs⟩ := DataW.trod_string Tryd.underlying9 h1
      obtain ⟨m, e2, _, _⟩ := DataW.trod_int Tryd.underlying3 h2
      injection e0 with e0
      injection e1 with e1
      injection e2 with e2
      subst e0 e1 e2
      exact ⟨(n, s.data.toList, m), rfl, ks_of s, rfl, Law.wok_string w1⟩) h hw
set_option maxRecDepth 100000 in
theorem ringKeeps_contract (H : Type) (enc : TypeId × Value → H) (W : World) (base : Nat) (args : Array Value) (ds gs : List (DataW H)) (before : List MemPlace)
    (hval : ∀ (j : Nat) t v, Tryd.f7.params[j]? = some t → args[j]? = some v → Value.okWide Tryd.prog W .any base t v)
    (hW : DataW.Whole enc Tryd.prog Tryd.f7.params.toList Rows.ringKeepsSpec.vars false W args.toList ds gs before)
    (hsz : (DataW.weightsEach Tryd.prog (Tryd.f7.params.toList ++ Rows.ringKeepsSpec.plain.varTypes Tryd.prog) (ds ++ gs)).all (· ≤ reachBytes) = true) (hL : laidMetH Tryd.prog Rows.ringKeepsRow.laid W) :
    Calls Tryd.prog 7 args W fun e W' => ∃ v, e = .returned v ∧ Rows.ringKeepsSpec.post enc Tryd.prog Tryd.f7 false true false false W args v W' := by
  have hW' := hW
  obtain ⟨p, q, hA0, hV, rfl, hfz, hnd⟩ := hW
  have hA : DataW.TrodAll enc Tryd.prog W 0 (fun _ => true) true Tryd.f7.params.toList args.toList ds p := hA0
  rw [Tryd.params7] at hA hval hsz
  obtain ⟨rfl, rfl⟩ := trodVars_none hV
  rw [List.append_nil] at hsz
  have ht := tab_of_laid hL
  obtain ⟨v0, v1, v2, d0, d1, d2, p0, p1, p2, rfl, rfl, rfl, h0, h1, h2⟩ := trodAll_three hA
  obtain ⟨l, hl⟩ := arg_texts (hval 0 _ v0 rfl rfl) h0
  obtain ⟨c, rfl, rfl, rfl, _⟩ := open_int Tryd.underlying3 (hval 1 _ v1 rfl rfl) h1
  obtain ⟨sc, hs, hb⟩ := arg_ops (hval 2 _ v2 rfl rfl) h2 (Law.wok_arg hsz (j := 2) rfl rfl)
  refine (ringKeeps_K W v0 v2 l c sc hl hs ht (fun a ha => Nat.le_trans (hb a ha) (by decide))).mono fun e W' he => ?_
  cases e with
  | returned v =>
    obtain ⟨rfl, hm⟩ := he
    exact ⟨_, rfl, Law.post_true hW' rg_out (of_decide_eq_true (by kernel_rfl)) (by kernel_rfl) Tryd.underlying4 rfl rfl hm.below⟩
  | panicked c => exact he.elim
  | outgrown => exact he.elim
theorem ringKeeps_reads (os : Os) {H : Type} (enc : TypeId × Value → H) : ∃ places, DataW.whole enc Tryd.prog ((laidW os).forCall (fun _ _ => 0) ⟨#[], #[.slice none 0 0, .int .i64 0, .slice none 0 0], []⟩).memory Tryd.f7.params.toList Rows.ringKeepsSpec.vars false #[.slice none 0 0, .int .i64 0, .slice none 0 0].toList 8 = some ([.nil, .lit (.int .i64 0), .nil], [], places) :=
  ⟨[], by kernel_rfl⟩
set_option maxRecDepth 100000 in
theorem ringKeeps_lifted (os : Os) (started : os.Started) (H : Type) (enc : TypeId × Value → H) (F : Stop.Interp) :
    ReturnsInHanded {} Tryd.checked os 7 .any ((OpenSpec.ofChange Rows.ringKeepsSpec).preRow enc Tryd.prog Tryd.f7 Rows.ringKeepsRow.domain false Rows.ringKeepsRow.laid) (((OpenSpec.ofChange Rows.ringKeepsSpec).at F).post enc Tryd.prog Tryd.f7 false true false false) := by
  obtain ⟨places, hx⟩ := ringKeeps_reads os enc
  refine returnsInHanded_of_row (C := Tryd.checked) (s := OpenSpec.ofChange Rows.ringKeepsSpec) rg_own started (by kernel_rfl) Tryd.func7
    (witness_row_atRef (enc := enc) (C := Tryd.checked) false (laidW os) #[.slice none 0 0, .int .i64 0, .slice none 0 0] rfl (by kernel_rfl) (by kernel_rfl) (by kernel_rfl)
      (OpenSpec.preRow_of_cond 8 hx (by kernel_rfl) (fun k hk => by cases hk) (by kernel_rfl) (laidW_met os _))) ?_
  intro W base args ds gs before hval hW _ _ hsz hL _ _
  exact ringKeeps_contract H enc W base args ds gs before hval hW hsz hL
theorem ringKeeps_said : Rows.RingKeepsSaid :=
  OpenClaim.holds_of_cond 7 Tryd.f7 rfl rfl rfl rfl rfl rfl rfl ⟨rfl, rfl, rfl, rfl, rfl⟩ rfl rfl rfl rfl rfl (by kernel_rfl) Tryd.func7 (by kernel_rfl)
    (of_decide_eq_true (by kernel_rfl)) (by unfold Func.isWrapper; first | (rw [if_pos (by decide +kernel)]; kernel_rfl) | (rw [if_neg (by decide +kernel)]; exact ⟨rfl, rfl⟩))
    (fun os started H enc _ F => by rw [OpenClaim.pre_eq_preRow]; exact ringKeeps_lifted os started H enc F)
theorem ringKeeps_plain (f : FuncId) (fn : Func) (hf : Tryd.pinned.checked.prog.funcNamed "tumbler/tumblerlaw13.RingKeeps" = some f) (hfn : Tryd.pinned.checked.prog.funcs[f]? = some fn) :
    false = Tryd.pinned.checked.prog.looks [] ∧ ∀ (j : Nat) t, fn.params[j]? = some t → Tryd.pinned.checked.prog.wantsStandIn t = false := by
  obtain rfl : f = 7 := Option.some.inj ((show Tryd.prog.funcNamed "tumbler/tumblerlaw13.RingKeeps" = some 7 by kernel_rfl).symm.trans hf) |>.symm
  obtain rfl : fn = Tryd.f7 := (Option.some.inj (Tryd.func7.symm.trans hfn)).symm
  refine ⟨by kernel_rfl, fun j t ht => ?_⟩
  have h : ∀ t ∈ Tryd.f7.params.toList, Tryd.prog.wantsStandIn t = false := of_decide_eq_true (by kernel_rfl)
  exact h t (by simpa using Array.mem_of_getElem? ht)
theorem ringKeeps_card : Rows.RingKeepsCardSaid :=
  Claim7.holds_tied_plain_at .later [] _ _ _ _ ringKeeps_said (fun _ h => by cases h) (by kernel_rfl) (fun _ h => by cases h) ringKeeps_row_tie rfl ⟨rfl, rfl⟩ (by kernel_rfl) rfl ringKeeps_plain (by kernel_rfl)
end Go.Proofs.YtilkepmmkhmghaaDoor
