/- A range over a function: the iterator lays its own blocks ahead of the first round; the rounds leave them alone. No program here. -/
import Derived.Test.YtmfpgghpnkmkpaaBase2
import Derived.RangeFuncKeeps
import Derived.OwnWalkIn
namespace Go.Tum
open Go.RowKit
variable {P : Program} {α : Type}
/-- What is promised of an iterator called in W1: it hands over xs, in order; its own blocks lie between W1's size and m; between two rounds it lays blocks alone. -/
def Iter (P : Program) (gf : FuncId) (lb : Array Value) (encs : α → Array Value) (xs : List α) (W1 : World) : Prop :=
  ∀ (l : Nat) (J Jx : Nat → List α → World → Prop),
    (∀ W', Mods No W1 W' → J W'.heap.size [] W') → (∀ m pre W W', J m pre W → Mods No W W' → J m pre W') → (∀ m pre W W', Jx m pre W → Mods No W W' → Jx m pre W') →
    (∀ m pre x W, W1.heap.size ≤ m → pre ++ [x] <+: xs → J m pre W → YieldAt Fence.wide 0 P l (encs x) W fun e W' =>
      (e = .returned (.bool true) ∧ J m (pre ++ [x]) W' ∧ Mods (fun b => b < W1.heap.size ∨ m ≤ b) W W') ∨ (e = .returned (.bool false) ∧ Jx m (pre ++ [x]) W')) →
    CallsIn Fence.wide 0 P gf (#[.func (.yield l) #[] #[]] ++ lb) W1 fun e W' => (∃ v, e = .returned v) ∧ ∃ m, J m xs W' ∨ ∃ pre, pre <+: xs ∧ Jx m pre W'
/-- How a round may be left. -/
def roundEnd (n0 m : Nat) (I : Nat → List α → World → Prop) (Ix : Nat → Code → List α → World → Prop) (xs : List α) (W : World) : Exit → Act → World → Prop
  | .normal, _, W' => Mods (fun b => b < n0 ∨ m ≤ b) W W' ∧ I m xs W'
  | .ret, _, W' => Mods (fun b => b < n0 ∨ m ≤ b) W W' ∧ Ix m .ret xs W'
  | .exit id, _, W' => Mods (fun b => b < n0 ∨ m ≤ b) W W' ∧ Ix m (.exit id) xs W'
  | .goto t, _, W' => Mods (fun b => b < n0 ∨ m ≤ b) W W' ∧ Ix m (.goto t) xs W'
  | .panic _, _, _ => False
  | .outgrown, _, _ => False
theorem mods_putObj {S : Nat → Prop} (W : World) (l : Nat) (o : Obj) (h : S l) : Mods S W (W.putObj l o) :=
  ⟨rfl, rfl, rfl, by simp, fun k _ hn => World.putObj_heap_other fun e => hn (e ▸ h)⟩
/-- append(v, x...) in a round. -/
theorem wpListIn_append {Fe : Fence} {fu : Nat} (w : World) {ops : Array Oper} {rest : List Oper} {o : Oper} {a : Act} {Q : Exit → Act → World → Prop} (hgd : o.guard = none) (s x : Operand) (t : TypeId)
    (ho : o.op = .call { callee := .builtin .append, args := #[s, x], argTypes := #[t, t] })
    (e : TypeId) (z : Value) (size bytes : Nat) (ht : P.underlying t = some (.slice e)) (hinfo : (P.info? e).map (fun i => (i.zero, i.size, i.bytes)) = some (some z, size, bytes)) (hzs : z.cells.size = size) (hsz : 0 < size)
    {F G : Nat → Prop} {v : Value} {n : Nat} {xs : List Value} (hs : a.eval s = v) (hown : Own w F e size v n xs) {y : Value} {m : Nat} {news : List Value} (hx : a.eval x = y) (hr : Rd w G size y m news) (h1 : ∀ u ∈ news, u.oneCell' = true)
    (hbytes : (n + m) * bytes ≤ 140737488355328) (hb0 : 0 < bytes)
    (h : ∀ v' w', Own w' (fun k => v.ownBlock = some k ∨ k = w.heap.size) e size v' (n + m) (xs ++ news) → Mods (fun k => v.ownBlock = some k) w w' → (∀ g, v'.ownBlock = some g → g < w'.heap.size) → wpListIn Fe fu P ops Q rest (a.put o.dst v') w') : wpListIn Fe fu P ops Q (o :: rest) a w :=
  wpListIn_plain hgd fun K hK => by
    obtain ⟨v', w', hrun, h2, h3, h4⟩ := run_append_rd (P := P) w t o.type e z size bytes ht hinfo hzs hsz hown hr h1 hbytes hb0
    unfold Oper.wpIn
    refine ⟨?_, ?_⟩
    · simp [Oper.about, ho, resolve, Target.leads, Sem.run_pure]
    · rw [Oper.semAt_plain Fe _ _ (by rw [ho]; intro c hc'; cases hc')]
      simp only [execOp, ho, resolve, invoke, builtin, Sem.run_bind, Sem.run_pure, Result.andThen_ok, List.map_toArray, List.map_cons, List.map_nil, hs, hx, hrun]
      exact hK _ _ (h v' w' h2 h3 h4)
/-- Behind the assignment to the loop's variable: the body is to be walked. -/
def Assigned (P : Program) (l n0 m : Nat) (body : Code) (I : Nat → List α → World → Prop) (Ix : Nat → Code → List α → World → Prop) (xs : List α) (W : World) (a1 : Act) (W1 : World) : Prop :=
  Mods No W W1 ∧ ∀ W2, Mods (fun b => b = l) W1 W2 → W2.heap.size = W1.heap.size → body.wpIn (Fence.wide.inRound l) 0 P (roundEnd n0 m I Ix xs W2) a1 W2
def Never : Exit → Act → World → Prop := fun _ _ _ => False
/-- for x := range g { body } -/
theorem wp_rangeFunc {g : Operand} {ps : Array Tmp} {assign body : Code} {Q : Exit → Act → World → Prop} {a : Act} {w : World}
    {gf : Nat} {lb : Array Value} (hg : a.eval g = .func (.func gf) #[] lb) (eg : ∀ args w, (callFunc gf args).run P w = .ok (.enter gf args) w)
    {encs : α → Array Value} {xs : List α} (hps : ∀ x, (encs x).size = ps.size)
    (I : Nat → List α → World → Prop) (Ix : Nat → Code → List α → World → Prop)
    (hI : ∀ m pre W W', I m pre W → Mods (fun b => w.heap.size ≤ b ∧ b < m) W W' → I m pre W') (hIx : ∀ m c pre W W', Ix m c pre W → Mods (fun b => w.heap.size ≤ b ∧ b < m) W W' → Ix m c pre W')
    (hiter : ∀ W1, Mods No w W1 → W1.heap.size = w.heap.size + 2 → Iter P gf lb encs xs W1)
    (h0 : ∀ W', Mods No w W' → I W'.heap.size [] W')
    (hround : ∀ (l m : Nat) (pre : List α) (x : α) (W : World), l = w.heap.size + 1 → w.heap.size + 2 ≤ m → pre ++ [x] <+: xs → I m pre W → l < W.heap.size →
      assign.wpIn (Fence.wide.inRound l) 0 P (Exit.then (Assigned P l w.heap.size m body I Ix (pre ++ [x]) W) Never)
        { tmps := (ps.zip (encs x)).foldl (fun t (p, v) => t.setIfInBounds p v) a.tmps, defers := [] } W)
    (hdone : ∀ (D m : Nat) (W : World), w.heap.size ≤ D → w.heap.size + 2 ≤ m → I m xs W → W.heap[D]? = some (.deferred (some [])) → Q .normal { a with defers := { target := .collected D, args := #[] } :: a.defers } W)
    (hstop : ∀ (D m : Nat) (c : Code) (pre : List α) (W : World), w.heap.size ≤ D → w.heap.size + 2 ≤ m → pre <+: xs → Ix m c pre W → W.heap[D]? = some (.deferred (some [])) → c.wp P Q { a with defers := { target := .collected D, args := #[] } :: a.defers } W) :
    (Code.rangeFunc g ps assign body).wp P Q a w := by
  refine (wpIn_wide (n := 0)).1 (wpIn_rangeFunc ?_)
  intro fn hfn
  obtain ⟨rec, hrec⟩ : ∃ rec : LoopState → Option Code → Loop, rec = fun st pe => { state := st, pending := pe, fn, tmps := a.tmps, params := ps, assign, body, defers := w.heap.size } := ⟨_, rfl⟩
  obtain ⟨W1, hW1⟩ : ∃ W1, (w.alloc (.deferred (some []))).alloc (.loop (rec .ready none)) = W1 := ⟨_, rfl⟩
  have hsz : W1.heap.size = w.heap.size + 2 := by rw [← hW1, World.size_alloc, World.size_alloc]
  have hL1 : W1.heap[w.heap.size + 1]? = some (.loop (rec .ready none)) := by
    rw [← hW1]; have := World.alloc_heap_new (w.alloc (.deferred (some []))) (.loop (rec .ready none)); rwa [World.size_alloc] at this
  have hK1 : W1.heap[w.heap.size]? = some (.deferred (some [])) := by
    rw [← hW1]; exact (Below.heap_alloc _ _ _ (by simp)).trans (World.alloc_heap_new w _)
  have hM1 : Mods No w W1 := by rw [← hW1]; exact ((Mods.refl No w).alloc _).alloc _
  refine ⟨w.heap.size + 1, [{ target := .collected w.heap.size, args := #[] }], W1, { target := .fn (.func gf) lb, args := #[.func (.yield (w.heap.size + 1)) #[] #[]] }, W1, gf,
    #[.func (.yield (w.heap.size + 1)) #[] #[]] ++ lb, W1, ?_, ?_, ?_, ?_, (fun h => by cases h), ?_⟩
  · rw [← hW1, hrec]; exact run_enterLoop_outer _ _ _ _ _
  · simp only [resolve, hg]
    simp [go_sem]
  · intro f' _; exact trivial
  · simp [invoke, go_sem, eg]
  · have keep : ∀ {S : Nat → Prop} {A B : World} {b : Nat} {o : Obj}, Mods S A B → ¬ S b → A.heap[b]? = some o → B.heap[b]? = some o := fun hm hs ho => (hm.block _ (Array.getElem?_eq_some_iff.1 ho).1 hs).trans ho
    have hits := hiter W1 hM1 hsz
    refine (hits (w.heap.size + 1)
      (fun m pre W => w.heap.size + 2 ≤ m ∧ I m pre W ∧ W.heap[w.heap.size + 1]? = some (.loop (rec .ready none)) ∧ W.heap[w.heap.size]? = some (.deferred (some [])))
      (fun m pre W => w.heap.size + 2 ≤ m ∧ ∃ c, Ix m c pre W ∧ W.heap[w.heap.size + 1]? = some (.loop (rec .done (some c))) ∧ W.heap[w.heap.size]? = some (.deferred (some [])))
      (fun W' hm => ⟨by have := hm.size; omega, h0 W' (hM1.trans hm fun _ _ e => e), keep hm (fun e => e) hL1, keep hm (fun e => e) hK1⟩)
      (fun m pre W W' h hm => ⟨h.1, hI m pre W W' h.2.1 (hm.mono fun _ _ e => e.elim), keep hm (fun e => e) h.2.2.1, keep hm (fun e => e) h.2.2.2⟩)
      (fun m pre W W' h hm => by
        obtain ⟨hle, c, h1, h2, h3⟩ := h
        exact ⟨hle, c, hIx m c pre W W' h1 (hm.mono fun _ _ e => e.elim), keep hm (fun e => e) h2, keep hm (fun e => e) h3⟩)
      ?_).mono ?_
    · rintro m pre x W hm hpx ⟨hle, hi, hl, hk⟩
      have hlt : w.heap.size + 1 < W.heap.size := (Array.getElem?_eq_some_iff.1 hl).1
      have hy := run_yield (P := P) (args := encs x) hl (by rw [hrec]; exact hps x)
      rw [hrec] at hy
      refine ⟨fn, _, assign, body, hy, roundIn_of_wpIn hfn (wpIn_mono (hround (w.heap.size + 1) m pre x W rfl hle hpx hi hlt) ?_)⟩
      rintro e a1 Wa hq
      cases e with
      | normal =>
        obtain ⟨hMa, hbody⟩ := hq
        have hla : Wa.heap[w.heap.size + 1]? = some (.loop (rec .ready none)) := keep hMa (fun e => e) hl
        have hka : Wa.heap[w.heap.size]? = some (.deferred (some [])) := keep hMa (fun e => e) hk
        refine ⟨_, run_beginRound hla (by rw [hrec]), ?_⟩
        have hl2 : (Wa.putObj (w.heap.size + 1) (.loop { rec .ready none with state := .busy })).heap[w.heap.size + 1]? = some (.loop { rec .ready none with state := .busy }) := World.putObj_heap_same (Array.getElem?_eq_some_iff.1 hla).1
        have hk2 : (Wa.putObj (w.heap.size + 1) (.loop { rec .ready none with state := .busy })).heap[w.heap.size]? = some (.deferred (some [])) := (World.putObj_heap_other (by omega)).trans hka
        have hM2 : Mods (fun b => b < W1.heap.size ∨ m ≤ b) W (Wa.putObj (w.heap.size + 1) (.loop { rec .ready none with state := .busy })) :=
          (hMa.mono fun _ _ e => e.elim).trans (mods_putObj (S := fun b => b = w.heap.size + 1) Wa (w.heap.size + 1) _ rfl) fun k _ e => .inl (by omega)
        refine wpIn_mono (hbody _ (mods_putObj Wa (w.heap.size + 1) _ rfl) (by simp)) ?_
        generalize Wa.putObj (w.heap.size + 1) (.loop { rec .ready none with state := .busy }) = W2 at hl2 hk2 hM2
        have fin : ∀ (jump : Option Code) (W3 : World), Mods (fun b => b < w.heap.size ∨ m ≤ b) W2 W3 →
            (Instr.endRound (w.heap.size + 1) jump).run P W3 = .ok (.bool jump.isNone) (W3.putObj (w.heap.size + 1) (.loop (rec (if jump.isNone then .ready else .done) jump))) ∧
            Mods (fun b => w.heap.size ≤ b ∧ b < m) W3 (W3.putObj (w.heap.size + 1) (.loop (rec (if jump.isNone then .ready else .done) jump))) ∧
            (W3.putObj (w.heap.size + 1) (.loop (rec (if jump.isNone then .ready else .done) jump))).heap[w.heap.size + 1]? = some (.loop (rec (if jump.isNone then .ready else .done) jump)) ∧
            (W3.putObj (w.heap.size + 1) (.loop (rec (if jump.isNone then .ready else .done) jump))).heap[w.heap.size]? = some (.deferred (some [])) ∧
            Mods (fun b => b < W1.heap.size ∨ m ≤ b) W (W3.putObj (w.heap.size + 1) (.loop (rec (if jump.isNone then .ready else .done) jump))) := fun jump W3 hm3 => by
          have hl3 := keep (b := w.heap.size + 1) hm3 (by omega) hl2
          have hk3 := keep (b := w.heap.size) hm3 (by omega) hk2
          have := run_endRound (P := P) jump hl3
          rw [hrec] at this ⊢
          exact ⟨this, mods_putObj _ _ _ ⟨by omega, by omega⟩, World.putObj_heap_same (Array.getElem?_eq_some_iff.1 hl3).1, (World.putObj_heap_other (by omega)).trans hk3,
            (hM2.trans hm3 fun k _ e => by rcases e with e | e; exact .inl (by omega); exact .inr e).trans (mods_putObj (S := fun b => b = w.heap.size + 1) W3 (w.heap.size + 1) _ rfl) fun k _ e => .inl (by omega)⟩
        rintro e a3 W3 hp
        cases e with
        | normal =>
          obtain ⟨hm3, hi3⟩ := hp
          obtain ⟨hr, hmm, hl4, hk4, hmw⟩ := fin none W3 hm3
          exact ⟨_, _, hr, .inl ⟨rfl, ⟨hle, hI m _ _ _ hi3 hmm, hl4, hk4⟩, hmw⟩⟩
        | ret =>
          obtain ⟨hm3, hi3⟩ := hp
          obtain ⟨hr, hmm, hl4, hk4, hmw⟩ := fin (some .ret) W3 hm3
          exact ⟨_, _, hr, .inr ⟨rfl, hle, .ret, hIx m _ _ _ _ hi3 hmm, hl4, hk4⟩⟩
        | exit id =>
          obtain ⟨hm3, hi3⟩ := hp
          obtain ⟨hr, hmm, hl4, hk4, hmw⟩ := fin (some (.exit id)) W3 hm3
          exact ⟨_, _, hr, .inr ⟨rfl, hle, .exit id, hIx m _ _ _ _ hi3 hmm, hl4, hk4⟩⟩
        | goto t =>
          obtain ⟨hm3, hi3⟩ := hp
          obtain ⟨hr, hmm, hl4, hk4, hmw⟩ := fin (some (.goto t)) W3 hm3
          exact ⟨_, _, hr, .inr ⟨rfl, hle, .goto t, hIx m _ _ _ _ hi3 hmm, hl4, hk4⟩⟩
        | panic ch => exact hp.elim
        | outgrown => exact hp.elim
      | exit id => exact hq.elim
      | goto t => exact hq.elim
      | ret => exact hq.elim
      | panic chain => exact hq.elim
      | outgrown => exact hq.elim
    · rintro e W2 ⟨⟨v, rfl⟩, m, ⟨hle, hi, hl, hk⟩ | ⟨pre, hSp, hle, c, hi, hl, hk⟩⟩
      · exact ⟨none, _, by have := run_endLoop (P := P) hl (by rw [hrec]; simp); rw [hrec] at this; exact this, hdone w.heap.size m _ (Nat.le_refl _) hle (hI m _ _ _ hi (mods_putObj _ _ _ ⟨by omega, by omega⟩)) ((World.putObj_heap_other (by omega)).trans hk)⟩
      · exact ⟨some c, _, by have := run_endLoop (P := P) hl (by rw [hrec]; simp); rw [hrec] at this; exact this,
          wpIn_wide.2 (hstop w.heap.size m c pre _ (Nat.le_refl _) hle hSp (hIx m c _ _ _ hi (mods_putObj _ _ _ ⟨by omega, by omega⟩)) ((World.putObj_heap_other (by omega)).trans hk))⟩
end Go.Tum
