/- The law RelayOrder: one destination's taking, step by step. -/
import Derived.Test.YtcifajfmdpjfiaaDoorRlDr
namespace Go.Tum
open Go.RowKit
section
variable {P : Program} (w : World)
/-- An operation behind a guard that stands. -/
theorem wpList_wanted {ops : Array Oper} {rest : List Oper} {o : Oper} {a : Act} {Q : Exit → Act → World → Prop} {w : World} (hg : Region.wanted o (yielded ops a.tmps) = true)
    (h : ∀ K : Act → World → Prop, (∀ a w, wpList P ops Q rest a w → K a w) → o.wp P a w K Q) : wpList P ops Q (o :: rest) a w :=
  wpList_step fun K hK => by rw [if_pos hg]; exact h K hK
theorem wpList_append_w {ops : Array Oper} {rest : List Oper} {o : Oper} {a : Act} {Q : Exit → Act → World → Prop} (hgd : Region.wanted o (yielded ops a.tmps) = true) (s x : Operand) (t : TypeId)
    (ho : o.op = .call { callee := .builtin .append, args := #[s, x], argTypes := #[t, t] })
    (e : TypeId) (z : Value) (size bytes : Nat) (ht : P.underlying t = some (.slice e)) (hinfo : (P.info? e).map (fun i => (i.zero, i.size, i.bytes)) = some (some z, size, bytes)) (hzs : z.cells.size = size) (hsz : 0 < size)
    {F G : Nat → Prop} {v : Value} {n : Nat} {xs : List Value} (hs : a.eval s = v) (hown : Own w F e size v n xs) {y : Value} {m : Nat} {news : List Value} (hx : a.eval x = y) (hr : Rd w G size y m news) (h1 : ∀ u ∈ news, u.oneCell' = true)
    (hbytes : (n + m) * bytes ≤ 140737488355328) (hb0 : 0 < bytes)
    (h : ∀ v' w', Own w' (fun k => v.ownBlock = some k ∨ k = w.heap.size) e size v' (n + m) (xs ++ news) → Mods (fun k => v.ownBlock = some k) w w' → (∀ g, v'.ownBlock = some g → g < w'.heap.size) → wpList P ops Q rest (a.put o.dst v') w') : wpList P ops Q (o :: rest) a w :=
  wpList_wanted hgd fun K hK => by
    obtain ⟨v', w', hrun, h2, h3, h4⟩ := run_append_rd (P := P) w t o.type e z size bytes ht hinfo hzs hsz hown hr h1 hbytes hb0
    unfold Oper.wp execOp
    simp only [ho, resolve, invoke, builtin, Sem.run_bind, Sem.run_pure, Result.andThen_ok, List.map_toArray, List.map_cons, List.map_nil, hs, hx, hrun]
    exact hK _ _ (h v' w' h2 h3 h4)
end
end Go.Tum
namespace Go.Proofs.YtcifajfmdpjfiaaDoor
open Go.RowKit Go.Tum Go.Lib Go.Sort
set_option maxRecDepth 100000
theorem RelK.strict {w : World} {rb C R H : Nat} {nw : Bool} {N : List Tx} {S : List Stn} {dn : List Tx} {F : Nat → Prop} (h : RelK w rb C R H nw N S dn F) : Strict ltT N := by
  obtain ⟨_, _, _, _, _, _, _, _, hp, _⟩ := h
  exact hp.ring.1.strict
/-- All destinations hold the same, none has taken anything. -/
structure OrP (W wr : World) (rb C : Nat) (N : List Tx) (d : List Rcd) : Prop where
  rel : RelK wr rb C 8 65536 false N (List.replicate N.length ⟨d, 0, 0⟩) [] (fun b => W.heap.size ≤ b)
  hm : Mods No W wr
theorem or_put {W w : World} {rb C : Nat} {N : List Tx} {d : List Rcd} {x : Rcd} (h : OrP W w rb C N d) (hN : N.length ≤ 8) (hx : x.1.length ≤ maxLen) (hd : d.length < 65536) :
    Calls Tryd.prog 13 #[(.pointer (some ⟨rb, 0, none⟩)), rv x] w (Ret fun v w' => v = .int .i64 (N.length : Int) ∧ OrP W w' rb C N (d ++ [x])) := by
  refine ret_use (putAll_K w rb C 8 65536 false N _ _ x h.rel hN hx fun t ht => ?_) fun v w' ⟨e1, e2, e3⟩ => ⟨e1, ?_, h.hm.trans e3 fun k hk e => absurd hk (Nat.not_lt.2 e)⟩
  · rw [List.eq_of_mem_replicate ht]
    exact ⟨Nat.zero_le _, by dsimp only; omega⟩
  · have hs := h.hm.size
    have e4 := e2.more (G := fun b => W.heap.size ≤ b) fun b _ hb => by
      rcases hb with hb | hb
      · exact hb
      · omega
    rw [List.map_replicate, show deal 65536 false x ⟨d, 0, 0⟩ = ⟨d ++ [x], 0, 0⟩ by unfold deal; rw [if_pos hd]] at e4
    exact e4
/-- Destination s has taken c records; those of a greater place none. -/
structure OrS (W wr : World) (rb C : Nat) (nodes : List Tx) (l : List Rcd) (i c : Nat) (s : Tx) (F : Nat → Prop) (S : List Stn) : Prop where
  rel : RelK wr rb C 8 65536 false (nodesOf nodes) S [] F
  low : ∀ b, F b → W.heap.size ≤ b
  up : ∀ b, F b → b < wr.heap.size
  hm : Mods No W wr
  sum : ∀ t ∈ S, t.sent + t.L.length = l.length
  rest : ∀ j s', i < j → nodes[j]? = some s' → S[posT (nodesOf nodes) s']? = some ⟨l, 0, 0⟩
  here : S[posT (nodesOf nodes) s]? = some ⟨l.drop c, c, 0⟩
/-- Those from place i on have taken nothing. -/
structure OrO (W wr : World) (rb C : Nat) (nodes : List Tx) (l : List Rcd) (i : Nat) (F : Nat → Prop) (S : List Stn) : Prop where
  rel : RelK wr rb C 8 65536 false (nodesOf nodes) S [] F
  low : ∀ b, F b → W.heap.size ≤ b
  up : ∀ b, F b → b < wr.heap.size
  hm : Mods No W wr
  sum : ∀ t ∈ S, t.sent + t.L.length = l.length
  rest : ∀ j s', i ≤ j → nodes[j]? = some s' → S[posT (nodesOf nodes) s']? = some ⟨l, 0, 0⟩
theorem OrP.out {W w : World} {rb C : Nat} {nodes : List Tx} {l : List Rcd} (h : OrP W w rb C (nodesOf nodes) l) : OrO W w rb C nodes l 0 (fun b => W.heap.size ≤ b ∧ b < w.heap.size) (List.replicate (nodesOf nodes).length ⟨l, 0, 0⟩) := by
  refine ⟨h.rel.more fun b hb e => ⟨e, hb⟩, fun b e => e.1, fun b e => e.2, h.hm, fun t ht => by rw [List.eq_of_mem_replicate ht]; exact Nat.zero_add _, fun j s' _ hj => ?_⟩
  have hm : s' ∈ nodesOf nodes := (nodesOf_mem nodes _).2 (List.mem_of_getElem? hj)
  have hp := pos_of h.rel.strict hm
  have := (List.getElem?_eq_some_iff.1 hp).1
  rw [List.getElem?_replicate, if_pos this]
theorem OrO.start {W w : World} {rb C i : Nat} {nodes : List Tx} {l : List Rcd} {F : Nat → Prop} {S : List Stn} {s : Tx} (h : OrO W w rb C nodes l i F S) (hs : nodes[i]? = some s) : OrS W w rb C nodes l i 0 s F S :=
  ⟨h.rel, h.low, h.up, h.hm, h.sum, fun j s' hj e => h.rest j s' (by omega) e, h.rest i s (Nat.le_refl _) hs⟩
theorem OrS.next {W w : World} {rb C i c : Nat} {nodes : List Tx} {l : List Rcd} {F : Nat → Prop} {S : List Stn} {s : Tx} (h : OrS W w rb C nodes l i c s F S) : OrO W w rb C nodes l (i + 1) F S :=
  ⟨h.rel, h.low, h.up, h.hm, h.sum, fun j s' hj e => h.rest j s' (by omega) e⟩
theorem OrS.le {W w : World} {rb C i c : Nat} {nodes : List Tx} {l : List Rcd} {F : Nat → Prop} {S : List Stn} {s : Tx} (h : OrS W w rb C nodes l i c s F S) : c ≤ l.length := by
  have := h.sum _ (List.mem_of_getElem? h.here)
  dsimp only at this
  rw [List.length_drop] at this
  omega
/-- What nobody of the relay holds is turned. -/
theorem OrS.mods {W w w' : World} {rb C i c : Nat} {nodes : List Tx} {l : List Rcd} {F T : Nat → Prop} {S : List Stn} {s : Tx} (h : OrS W w rb C nodes l i c s F S) (hm : Mods T w w') (h1 : ∀ b, T b → ¬ F b) (h2 : ∀ b, T b → W.heap.size ≤ b) : OrS W w' rb C nodes l i c s F S :=
  ⟨h.rel.mods hm fun b _ e k => h1 b k e, h.low, fun b e => Nat.lt_of_lt_of_le (h.up b e) hm.size, h.hm.trans hm fun k hk e => absurd hk (Nat.not_lt.2 (h2 k e)), h.sum, h.rest, h.here⟩
theorem or_take {W w w' : World} {rb C i c : Nat} {nodes : List Tx} {l : List Rcd} {F : Nat → Prop} {S : List Stn} {s : Tx} {n : Int} {v : Value} (h : OrS W w rb C nodes l i c s F S) (hs : nodes[i]? = some s) (hnd : nodes.Nodup) (hn : 1 ≤ n)
    (ht : TakeIs w w' rb C 8 65536 false (nodesOf nodes) S [] F s n v) :
    ∃ (A : Option Addr) (m k : Nat) (F' : Nat → Prop) (S' : List Stn), v = .tuple #[.slice A m k, .int .i64 0] ∧ (m : Int) = min n ((l.length - c : Nat) : Int) ∧ Own w' (fun g => w.heap.size ≤ g ∧ ¬ F' g) 45 4 (.slice A m k) m (rcs ((l.drop c).take m)) ∧
      OrS W w' rb C nodes l i (c + m) s F' S' ∧ (∀ b, b < w.heap.size → F' b → F b) ∧ Mods F w w' := by
  have hmem : s ∈ nodesOf nodes := (nodesOf_mem nodes _).2 (List.mem_of_getElem? hs)
  have hst := h.rel.strict
  rcases ht with ⟨h0, _⟩ | ⟨_, k, m, mid, st, A, cp, hk, hsk, hm, rfl, hmid, ho, hr, hmm⟩
  · exact absurd (by unfold takeE; rw [if_neg (by simpa using hmem), if_neg (by simp), if_neg (by omega)]) h0
  · have hkp := pos_at hst hk
    have hh := h.here
    rw [hkp, hsk] at hh
    injection hh with hh
    subst hh
    have hmin : (m : Int) = min n ((l.length - c : Nat) : Int) := by rw [hm]; dsimp only; rw [List.length_drop]
    have hml : m ≤ l.length - c := by omega
    have hkS : k < S.length := (List.getElem?_eq_some_iff.1 hsk).1
    have hle := h.le
    refine ⟨A, m, cp, fun b => (F b ∨ mid ≤ b) ∧ b < w'.heap.size, _, rfl, hmin, ho.more fun g hg => ⟨hg.1, fun e => ?_⟩, ⟨hr.more fun b hb e => ⟨e, hb⟩, fun b e => ?_, fun b e => e.2, h.hm.trans hmm fun b hb e => absurd hb (Nat.not_lt.2 (h.low b e)), fun t ht => ?_, fun j s' hj e => ?_, ?_⟩, fun b hb e => ?_, hmm⟩
    · rcases e.1 with e1 | e1
      · have := h.up g e1; have := hg.1; omega
      · have := hg.2; omega
    · rcases e.1 with e1 | e1
      · exact h.low b e1
      · have := h.hm.size; omega
    · rcases mem_set_or ht with rfl | e
      · rw [takeS_ok (by dsimp only; rw [List.length_drop]; exact hml)]
        dsimp only
        rw [List.length_drop, List.length_drop]
        omega
      · exact h.sum t e
    · have hne : posT (nodesOf nodes) s' ≠ k := fun e2 => by
        have h1 : s' = s := pos_inj hst ((nodesOf_mem nodes _).2 (List.mem_of_getElem? e)) hmem (by rw [e2, hkp])
        subst h1
        have := (List.getElem?_inj (List.getElem?_eq_some_iff.1 e).1 hnd).1 (e.trans hs.symm)
        omega
      rw [List.getElem?_set_ne (fun e => hne e.symm)]
      exact h.rest j s' hj e
    · rw [hkp, List.getElem?_set_self hkS, takeS_ok (by dsimp only; rw [List.length_drop]; exact hml)]
      dsimp only
      rw [List.drop_drop]
    · rcases e.1 with e1 | e1
      · exact e1
      · omega
end Go.Proofs.YtcifajfmdpjfiaaDoor
