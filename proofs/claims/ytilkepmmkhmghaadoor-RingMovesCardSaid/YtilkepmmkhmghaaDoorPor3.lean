/- A region that draws its order, with calls that loads may cross: walked in the order of the text, where each such call leaves the blocks that those loads read. -/
import Derived.Test.YtilkepmmkhmghaaDoorPor2
namespace Go.Tum
/-- The blocks of B hold the same in both, and no view. -/
def Keep (B : Nat → Prop) (w w' : World) : Prop := ∀ b, B b → ∃ o, (∀ x y, o ≠ Obj.view x y) ∧ w.heap[b]? = some o ∧ w'.heap[b]? = some o
theorem Keep.of {B S : Nat → Prop} {w w' : World} (hm : Mods S w w') (hB : ∀ b, B b → ¬ S b ∧ ∃ t cs, Cells w b t cs) : Keep B w w' := fun b hb => by
  obtain ⟨h1, t, cs, hc⟩ := hB b hb
  exact ⟨_, (fun _ _ e => by cases e), hc, hc.mods hm h1⟩
/-- What reads block b alone. -/
def Loc (P : Program) (b : Nat) {α : Type} (s : Sem α) : Prop := ∀ o, (∀ x y, o ≠ Obj.view x y) → ∀ W1 W2 : World, W1.heap[b]? = some o → W2.heap[b]? = some o →
  (∃ v, s.run P W1 = .ok v W1 ∧ s.run P W2 = .ok v W2) ∨ ((∃ h W', s.run P W1 = .halt h W') ∧ ∃ h W', s.run P W2 = .halt h W')
section
variable {P : Program} {α β : Type} {b : Nat}
theorem Wless.loc {s : Sem α} (h : Wless P s) : Loc P b s := fun _ _ W1 W2 _ _ => by
  rcases h with ⟨v, hv⟩ | h
  · exact .inl ⟨v, hv W1, hv W2⟩
  · exact .inr ⟨h W1, h W2⟩
theorem Loc.bind {s : Sem α} {f : α → Sem β} (h : Loc P b s) (k : ∀ v, Loc P b (f v)) : Loc P b (s >>= f) := fun o ho W1 W2 h1 h2 => by
  rcases h o ho W1 W2 h1 h2 with ⟨v, e1, e2⟩ | ⟨⟨x, W', e1⟩, y, W'', e2⟩
  · rcases k v o ho W1 W2 h1 h2 with ⟨u, e3, e4⟩ | ⟨⟨x, W', e3⟩, y, W'', e4⟩
    · exact .inl ⟨u, by simp [e1, Result.andThen, e3], by simp [e2, Result.andThen, e4]⟩
    · exact .inr ⟨⟨x, W', by simp [e1, Result.andThen, e3]⟩, y, W'', by simp [e2, Result.andThen, e4]⟩
  · exact .inr ⟨⟨x, W', by simp [e1, Result.andThen]⟩, y, W'', by simp [e2, Result.andThen]⟩
theorem loc_load (a : Addr) : Loc P a.block (load a) := fun o ho W1 W2 h1 h2 => by
  have hc : W1.cell? a = W2.cell? a := World.cell?_of_block (h1.trans h2.symm)
  unfold load
  simp only [Sem.run]
  rw [← hc]
  cases W1.cell? a with
  | some v => exact .inl ⟨v, rfl, rfl⟩
  | none =>
    have hf : ∀ W : World, W.heap[a.block]? = some o → W.farLoad P a (Mode.plain == .atomic) = .error (W.noCell a "load: no such cell") := fun W hW => by
      unfold World.farLoad
      rw [hW]
      cases o <;> first | rfl | exact absurd rfl (ho _ _)
    simp only
    rw [hf W1 h1, hf W2 h2]
    exact .inr ⟨⟨_, _, rfl⟩, _, _, rfl⟩
theorem loc_loadCellsFrom (a : Addr) : ∀ (n i : Nat) (acc : Array Value), Loc P a.block (loadCellsFrom a i n acc)
  | 0, _, acc => by unfold loadCellsFrom; exact (Wless.pure_ _).loc
  | n + 1, i, acc => by
    unfold loadCellsFrom
    have hb : (a.add i).block = a.block := by cases a; simp only [Addr.add]; repeat (split <;> try rfl)
    have hl := loc_load (P := P) (a.add i)
    rw [hb] at hl
    exact hl.bind fun _ => loc_loadCellsFrom a n _ _
theorem loc_loadVar (t : TypeId) (a : Addr) : Loc P a.block (loadVar t a) := by
  unfold loadVar
  refine (wless_isAgg t).loc.bind fun b => ?_
  split
  · exact (wless_sizeOf t).loc.bind fun _ => (loc_loadCellsFrom a _ _ _).bind fun _ => (Wless.pure_ _).loc
  · exact loc_load a
theorem loc_loadAt (t : TypeId) (x : Value) (h : ∀ a, x = .pointer (some a) → a.block = b) : Loc P b (Instr.loadAt t x) := by
  cases x
  case pointer p =>
    cases p with
    | none => exact (Halts.bind_left (by unfold Instr.sureAddr; exact halts_stuck _)).wless.loc
    | some a =>
      have := h a rfl
      subst this
      have e : Instr.loadAt t (.pointer (some a)) = loadVar t a := rfl
      rw [e]
      exact loc_loadVar t a
  all_goals exact (Halts.bind_left (by unfold Instr.sureAddr; exact halts_stuck _)).wless.loc
end

/-- A load's address, where it is one. -/
def loadAddr (o : Oper) : Option Operand :=
  match o.op with
  | .load _ x => some x
  | _ => none
/-- It lies in B. -/
def goodAddr (B : Nat → Prop) (v : Value) : Prop := ∀ x, v = .pointer (some x) → B x.block
theorem loc_op {P : Program} {B : Nat → Prop} {ρ : Operand → Value} {o : Oper} {x : Operand} (h : loadAddr o = some x) (hg : goodAddr B (ρ x)) : (∃ b, B b ∧ Loc P b (execOp ρ o)) ∨ Halts P (execOp ρ o) := by
  obtain ⟨dst, op, type, pos, after, guard⟩ := o
  cases op <;> simp only [loadAddr] at h <;> first | cases h | skip
  case load.refl t =>
    have e : ∀ b, Loc P b (Instr.loadAt t (ρ x)) → Loc P b (execOp ρ ⟨dst, .load t x, type, pos, after, guard⟩) := fun b hl => hl.bind fun _ => (Wless.pure_ _).loc
    have e2 : Halts P (Instr.loadAt t (ρ x)) → Halts P (execOp ρ ⟨dst, .load t x, type, pos, after, guard⟩) := fun hl => hl.bind_left
    unfold goodAddr at hg
    generalize ρ x = v at hg e e2
    cases v
    case pointer p =>
      cases p with
      | none => exact .inr (e2 (Halts.bind_left (by unfold Instr.sureAddr; exact halts_stuck _)))
      | some a => exact .inl ⟨a.block, hg a rfl, e _ (loc_loadAt t _ fun a' ha => by injection ha with ha; injection ha with ha; rw [ha])⟩
    all_goals exact .inr (e2 (Halts.bind_left (by unfold Instr.sureAddr; exact halts_stuck _)))
/-- What such a load tells in one world it tells in the other. -/
theorem keep_run {P : Program} {B : Nat → Prop} {ρ : Operand → Value} {o : Oper} {x : Operand} (h : loadAddr o = some x) (hg : goodAddr B (ρ x)) {w w' : World} (hk : Keep B w w') (u : Value) :
    (execOp ρ o).run P w = .ok (.value u) w ↔ (execOp ρ o).run P w' = .ok (.value u) w' := by
  rcases loc_op (P := P) h hg with ⟨b, hb, hl⟩ | hh
  · obtain ⟨ob, hv, h1, h2⟩ := hk b hb
    rcases hl ob hv w w' h1 h2 with ⟨v, e1, e2⟩ | ⟨⟨x1, w1, e1⟩, y1, w2, e2⟩
    · rw [e1, e2]
      simp
    · rw [e1, e2]
      simp
  · obtain ⟨x1, w1, e1⟩ := hh w
    obtain ⟨x2, w2, e2⟩ := hh w'
    rw [e1, e2]
    simp

section
variable {P : Program} {ops : Array Oper} {Q : Exit → Act → World → Prop}
/-- x carried out where y's value is already in its temporary: out of x, and what then stands. -/
theorem wpOp_under2 {i : Nat} {x : Oper} {dy : Option Tmp} {u : Value} (hi : ops[i]? = some x) (h2' : ∀ d, dy = some d → x.dst ≠ some d) (hex : ∀ (a : Act), execOp (a.put dy u).eval x = execOp a.eval x) (hwx : ∀ (a : Act), Region.wanted x (yielded ops (a.put dy u).tmps) = Region.wanted x (yielded ops a.tmps))
    (Y : Act → Prop) (keep : ∀ a, Y a → ∀ v, Y (a.put x.dst v)) (keepD : ∀ a, Y a → ∀ d, Y { a with defers := d :: a.defers })
    {G K : Act → World → Prop} (next : ∀ a' w', Y a' → G a' w' → K (a'.put dy u) w')
    {a : Act} {w : World} (hQ : Calm Q) (hy : Y a) (h : wpOp P ops Q i G a w) : wpOp P ops Q i K (a.put dy u) w := by
  unfold wpOp at h ⊢
  simp only [hi] at h ⊢
  rw [hwx a]
  split
  · rename_i hw
    simp only [hw, if_true] at h
    rcases h with h | ⟨_, h⟩
    case inr => exact absurd h hQ.lets
    refine .inl ?_
    unfold Oper.wp at *
    rw [hex a]
    generalize (execOp a.eval x).run P w = r at *
    cases r with
    | ok n w' =>
      cases n <;> simp only [Oper.upon] at h ⊢
      case value v => rw [Act.put_comm a u v h2']; exact next _ _ (keep a hy v) h
      case skip => rw [Act.put_comm a u undef h2']; exact next _ _ (keep a hy _) h
      case defer d =>
        rw [Act.put_defers, Act.put_comm _ u undef h2']
        exact next _ _ (keep _ (keepD _ hy d) _) h
      case enter f args =>
        refine Calls.mono h fun e w'' he => ?_
        cases e with
        | returned v => simp only at he ⊢; rw [Act.put_comm a u v h2']; exact next _ _ (keep a hy v) he
        | panicked c => exact absurd he (hQ.1 _ _ _)
        | outgrown => exact he
      case row row args => exact Rows.mono h fun v w'' he => by rw [Act.put_comm a u v h2']; exact next _ _ (keep a hy v) he
    | halt x' w' =>
      cases x' <;> simp only [Oper.upon] at h ⊢
      case panic v => exact absurd h (hQ.1 _ _ _)
  · rename_i hw
    simp only [hw] at h
    simp only [Bool.false_eq_true, if_false] at h
    rw [Act.put_comm a u undef h2']
    exact next _ _ (keep a hy _) h
/-- The other way: x out of where y's value is already in its temporary. -/
theorem wpOp_put2 {j : Nat} {oj : Oper} {dx : Option Tmp} {u : Value} (hj : ops[j]? = some oj) (h2 : ∀ d, oj.dst = some d → dx ≠ some d) (hex : ∀ (a : Act), execOp (a.put dx u).eval oj = execOp a.eval oj) (hwx : ∀ (a : Act), Region.wanted oj (yielded ops (a.put dx u).tmps) = Region.wanted oj (yielded ops a.tmps))
    (Y : Act → Prop) (keep : ∀ a, Y a → ∀ v, Y (a.put oj.dst v)) (keepD : ∀ a, Y a → ∀ d, Y { a with defers := d :: a.defers })
    {K : Act → World → Prop} {a : Act} {w : World} (hQ : Calm Q) (hy : Y a) (h : wpOp P ops Q j K (a.put dx u) w) : wpOp P ops Q j (fun a' w' => Y a' ∧ K (a'.put dx u) w') a w := by
  have h2' : ∀ d, dx = some d → oj.dst ≠ some d := fun d hd he => h2 d he hd
  unfold wpOp at h ⊢
  simp only [hj] at h ⊢
  rw [hwx a] at h
  split
  · rename_i hw
    simp only [hw, if_true] at h
    rcases h with h | ⟨_, h⟩
    case inr => exact absurd h hQ.lets
    refine .inl ?_
    unfold Oper.wp at *
    rw [hex a] at h
    generalize (execOp a.eval oj).run P w = r at *
    cases r with
    | ok n w' =>
      cases n <;> simp only [Oper.upon] at h ⊢
      case value v => exact ⟨keep a hy v, by rw [← Act.put_comm a u v h2']; exact h⟩
      case skip => exact ⟨keep a hy _, by rw [← Act.put_comm a u undef h2']; exact h⟩
      case defer d =>
        refine ⟨keep _ (keepD _ hy d) _, ?_⟩
        rw [← Act.put_comm _ u undef h2', ← Act.put_defers]
        exact h
      case enter f args =>
        refine Calls.mono h fun e w'' he => ?_
        cases e with
        | returned v => exact ⟨keep a hy v, by rw [← Act.put_comm a u v h2']; exact he⟩
        | panicked c => exact absurd he (hQ.1 _ _ _)
        | outgrown => exact he
      case row row args => exact Rows.mono h fun v w'' he => ⟨keep a hy v, by rw [← Act.put_comm a u v h2']; exact he⟩
    | halt x' w' =>
      cases x' <;> simp only [Oper.upon] at h ⊢
      case panic v => exact absurd h (hQ.1 _ _ _)
  · rename_i hw
    simp only [hw] at h
    simp only [Bool.false_eq_true, if_false] at h
    exact ⟨keep a hy _, by rw [← Act.put_comm a u undef h2']; exact h⟩

/-! ### The walk that tells what the calls leave -/
def Jst (B : Nat → Prop) (cs : List Nat) (i : Nat) (w w' : World) : Prop := i ∈ cs → Keep B w w'
def wpJ (P : Program) (ops : Array Oper) (Q : Exit → Act → World → Prop) (B : Nat → Prop) (cs : List Nat) : List Nat → Act → World → Prop
  | [], a, w => Q .normal a w
  | i :: l, a, w => wpOp P ops Q i (fun a' w' => Jst B cs i w w' ∧ wpJ P ops Q B cs l a' w') a w
def ChkM (B : Nat → Prop) (ms : List Nat) (ops : Array Oper) (Q : Exit → Act → World → Prop) : Exit → Act → World → Prop :=
  fun e a w => (e = .normal → chk ops a = true ∧ ∀ m ∈ ms, ∀ o x, ops[m]? = some o → loadAddr o = some x → goodAddr B (a.eval x)) ∧ Q e a w
variable {B : Nat → Prop} {ms cs : List Nat}
theorem ChkM.calm (h : Calm Q) : Calm (ChkM B ms ops Q) := ⟨fun c a w hq => h.1 c a w hq.2, fun a w hq => h.2 a w hq.2⟩
theorem loadAddr_mem {o : Oper} {x : Operand} (h : loadAddr o = some x) : x ∈ o.op.operands := by
  obtain ⟨dst, op, type, pos, after, guard⟩ := o
  cases op <;> simp only [loadAddr] at h <;> first | cases h | skip
  simp [Op.operands]
theorem now_J (hQ : Calm Q) {o : Oper} {io : Nat} (ho : ops[io]? = some o) : ∀ (l : List Nat) (a : Act) (w : World), (∀ i ∈ l, farFrom ops o i = true) →
    wpJ P ops (ChkM B ms ops Q) B cs l a w → plainOp o a.eval = true ∧ (io ∈ ms → ∀ x, loadAddr o = some x → goodAddr B (a.eval x))
  | [], a, w, _, h => by
    obtain ⟨h1, h2⟩ := h.1 rfl
    exact ⟨List.all_eq_true.1 h1 o (by simpa using Array.mem_of_getElem? ho), fun hm x hx => h2 io hm o x ho hx⟩
  | i :: l, a, w, hf, h => by
    unfold wpJ at h
    cases hi : ops[i]? with
    | none =>
      unfold wpOp at h
      simp only [hi] at h
      exact now_J hQ ho l a w (fun j hj => hf j (List.mem_cons_of_mem _ hj)) h.2
    | some oi =>
      obtain ⟨ds, v, w', h'⟩ := wpOp_exists hi (ChkM.calm hQ) h
      have h2 := now_J hQ ho l _ w' (fun j hj => hf j (List.mem_cons_of_mem _ hj)) h'.2
      have he := eval_far hi (hf i (List.mem_cons_self ..)) a (ds ++ a.defers) v
      refine ⟨?_, fun hm x hx => ?_⟩
      · have h3 := h2.1
        rw [plain_congr he] at h3
        exact h3
      · have h3 := h2.2 hm x hx
        rw [he x (loadAddr_mem hx)] at h3
        exact h3
/-- May i and j (i before j in the text) change places? -/
def swapM (P : Program) (ms cs : List Nat) (ops : Array Oper) (i j : Nat) : Bool :=
  match ops[i]?, ops[j]? with
  | some x, some y => x.apart ops y && (freeOp P x || freeOp P y || (readOp P x && readOp P y) || (cs.contains i && ms.contains j && (loadAddr y).isSome) || (ms.contains i && cs.contains j && (loadAddr x).isSome))
  | _, _ => false
def csOk (P : Program) (cs : List Nat) (ops : Array Oper) : Bool := cs.all fun c => match ops[c]? with
  | some o => !freeOp P o && !readOp P o
  | none => true
theorem csOk_not {i : Nat} {o : Oper} (h : csOk P cs ops = true) (hi : ops[i]? = some o) (hf : freeOp P o = true ∨ readOp P o = true) : i ∉ cs := fun hm => by
  have := List.all_eq_true.1 h i hm
  rw [hi] at this
  rcases hf with hf | hf <;> simp [hf] at this
theorem readOp_load {o : Oper} (h : (loadAddr o).isSome = true) : readOp P o = true := by
  obtain ⟨dst, op, type, pos, after, guard⟩ := o
  cases op <;> simp_all [loadAddr, readOp]
theorem swap_twoM (hQ : Calm Q) (hs : Region.noSelect ops = true) (hcs : csOk P cs ops = true) {i j : Nat} {l : List Nat} (hsw : swapM P ms cs ops i j = true)
    (hfi : ∀ x, ops[i]? = some x → (needs x = true ∨ i ∈ ms) → farFrom ops x i = true ∧ ∀ k ∈ l, farFrom ops x k = true) (hfj : ∀ y, ops[j]? = some y → (needs y = true ∨ j ∈ ms) → farFrom ops y j = true ∧ ∀ k ∈ l, farFrom ops y k = true)
    {a : Act} {w : World} (h : wpJ P ops (ChkM B ms ops Q) B cs (i :: j :: l) a w) : wpJ P ops (ChkM B ms ops Q) B cs (j :: i :: l) a w := by
  have hC := ChkM.calm (B := B) (ms := ms) (ops := ops) hQ
  unfold swapM at hsw
  split at hsw
  · rename_i x y hi hj
    simp only [Bool.and_eq_true, Bool.or_eq_true] at hsw
    obtain ⟨hap, hk⟩ := hsw
    have hsx := Region.noSelect_spec hs i x
    have hsy := Region.noSelect_spec hs j y
    obtain ⟨h1, h2, h3⟩ := Oper.apart_spec hap
    have fj : farFrom ops x j = true := by
      unfold farFrom
      rw [hj]
      simp only [Option.bind_some]
      split
      · rename_i d hd; simpa using h3 d hd
      · rfl
    have fi : farFrom ops y i = true := by
      unfold farFrom
      rw [hi]
      simp only [Option.bind_some]
      split
      · rename_i d hd; simpa using h1 d hd
      · rfl
    have nx : (needs x = true ∨ i ∈ ms) → plainOp x a.eval = true ∧ (i ∈ ms → ∀ z, loadAddr x = some z → goodAddr B (a.eval z)) := fun hn =>
      now_J hQ hi _ a w (fun k hk => by
        rcases List.mem_cons.1 hk with rfl | hk
        · exact (hfi x hi hn).1
        · rcases List.mem_cons.1 hk with rfl | hk
          · exact fj
          · exact (hfi x hi hn).2 k hk) h
    have ny : (needs y = true ∨ j ∈ ms) → plainOp y a.eval = true ∧ (j ∈ ms → ∀ z, loadAddr y = some z → goodAddr B (a.eval z)) := fun hn =>
      now_J hQ hj _ a w (fun k hk => by
        rcases List.mem_cons.1 hk with rfl | hk
        · exact fi
        · rcases List.mem_cons.1 hk with rfl | hk
          · exact (hfj y hj hn).1
          · exact (hfj y hj hn).2 k hk) h
    have px : plainOp x a.eval = true := by
      cases hn : needs x with
      | false => exact plain_of_not hn
      | true => exact (nx (.inl hn)).1
    have py : plainOp y a.eval = true := by
      cases hn : needs y with
      | false => exact plain_of_not hn
      | true => exact (ny (.inl hn)).1
    simp only [wpJ] at h ⊢
    have ey : ∀ (a : Act) (v : Value), execOp (a.put x.dst v).eval y = execOp a.eval y := fun a v => execOp_put y (fun cs b => hsy cs b hj) a x.dst v h1
    have wy : ∀ (a : Act) (v : Value), Region.wanted y (yielded ops (a.put x.dst v).tmps) = Region.wanted y (yielded ops a.tmps) := fun a v => wanted_put y a x.dst v h1
    have ex : ∀ (a : Act) (v : Value), execOp (a.put y.dst v).eval x = execOp a.eval x := fun a v => execOp_put x (fun cs b => hsx cs b hi) a y.dst v h3
    have wx : ∀ (a : Act) (v : Value), Region.wanted x (yielded ops (a.put y.dst v).tmps) = Region.wanted x (yielded ops a.tmps) := fun a v => wanted_put x a y.dst v h3
    have h2' : ∀ d, y.dst = some d → x.dst ≠ some d := fun d hd hx => h2 d hx hd
    have eD : ∀ (a : Act) (ds : List Deferred) (o : Oper), (∀ cs b, o.op ≠ .select cs b) → execOp ({ a with defers := ds } : Act).eval o = execOp a.eval o := fun a ds o ho => execOp_congr o ho fun z _ => by cases z <;> rfl
    rcases hk with (((hk | hk) | hk) | hk) | hk
    · have hic := csOk_not hcs hi (.inl hk)
      obtain ⟨u, hy, _, h'⟩ := yields_of_free hi hC (free_ok hk px) h
      have h4 := wpOp_put hj hap (fun cs b => hsx cs b hi) (fun cs b => hsy cs b hj) (fun c a w hq => absurd hq (hC.1 _ _ _)) hy h'
      exact wpOp_mono (fun a' w' h5 => ⟨h5.2.1, h5.1.wpOp hi ⟨fun e => absurd e hic, h5.2.2⟩⟩) h4
    · have hjc := csOk_not hcs hj (.inl hk)
      have hy : ∃ u, Yields P ops y u a := by
        obtain ⟨ds, v, w', _, h'⟩ := wpOp_exists hi hC h
        have he : execOp (({ a with defers := ds ++ a.defers } : Act).put x.dst v).eval y = execOp a.eval y := (ey _ v).trans (eD a _ y fun cs b => hsy cs b hj)
        have hw : Region.wanted y (yielded ops (({ a with defers := ds ++ a.defers } : Act).put x.dst v).tmps) = Region.wanted y (yielded ops a.tmps) := wy _ v
        have hf := free_ok hk py
        obtain ⟨u, hu, _⟩ := yields_of_free hj hC (by unfold FreeAt at *; rw [he]; exact hf) h'
        exact ⟨u, hu.of_same he.symm hw.symm⟩
      obtain ⟨u, hy⟩ := hy
      refine hy.wpOp hj ⟨fun e => absurd e hjc, wpOp_under2 hi h2' (fun a => ex a u) (fun a => wx a u) (Yields P ops y u) (fun a hy v => hy.of_same (ey a v) (wy a v)) (fun a hy d => hy.of_same rfl rfl) (fun a' w' hy' h' => ?_) hC hy h⟩
      obtain ⟨h5, h'⟩ := h'
      refine ⟨h5, ?_⟩
      unfold wpOp at h'
      simp only [hj] at h'
      rcases hy' with ⟨hw, hr⟩ | ⟨hw, rfl⟩
      · simp only [hw, if_true] at h'
        rcases h' with h' | ⟨_, h'⟩
        · unfold Oper.wp at h'; rw [hr w'] at h'; exact h'.2
        · exact absurd h' hC.lets
      · simp only [hw, Bool.false_eq_true, if_false] at h'
        exact h'.2
    · have hic := csOk_not hcs hi (.inr hk.1)
      have hjc := csOk_not hcs hj (.inr hk.2)
      obtain ⟨u, hu, _, h'⟩ := yields_of_read hi hC (read_ok hk.1) h
      obtain ⟨v, hv, _, h''⟩ := yields_of_read hj hC (read_ok hk.2) h'
      rw [ey a u, wy a u] at hv
      refine wpOp_of_read hj hv ⟨fun e => absurd e hjc, wpOp_of_read (u := u) hi ?_ ⟨fun e => absurd e hic, ?_⟩⟩
      · rw [ex a v, wx a v]
        exact hu
      · rw [← Act.put_comm a u v h2]
        exact h''
    · -- a call, then a load
      obtain ⟨⟨hic, hjm⟩, hld⟩ := hk
      have hic : i ∈ cs := by simpa using hic
      have hjm : j ∈ ms := by simpa using hjm
      have hjc := csOk_not hcs hj (.inr (readOp_load hld))
      obtain ⟨z, hz⟩ := Option.isSome_iff_exists.1 hld
      have hgood := (ny (.inr hjm)).2 hjm z hz
      have hy : ∃ u, ((Region.wanted y (yielded ops a.tmps) = true ∧ (execOp a.eval y).run P w = .ok (.value u) w) ∨ (Region.wanted y (yielded ops a.tmps) = false ∧ u = undef)) := by
        obtain ⟨ds, v, w', hJ, h'⟩ := wpOp_exists hi hC h
        have he : execOp (({ a with defers := ds ++ a.defers } : Act).put x.dst v).eval y = execOp a.eval y := (ey _ v).trans (eD a _ y fun cs b => hsy cs b hj)
        have hw : Region.wanted y (yielded ops (({ a with defers := ds ++ a.defers } : Act).put x.dst v).tmps) = Region.wanted y (yielded ops a.tmps) := wy _ v
        obtain ⟨u, hu, _⟩ := yields_of_read hj hC (read_ok (readOp_load hld)) h'
        rw [he, hw] at hu
        refine ⟨u, ?_⟩
        rcases hu with ⟨q1, q2⟩ | q
        · exact .inl ⟨q1, (keep_run hz hgood (hJ hic) u).2 q2⟩
        · exact .inr q
      obtain ⟨u, hy⟩ := hy
      refine wpOp_of_read hj hy ⟨fun e => absurd e hjc, wpOp_under2 hi h2' (fun a => ex a u) (fun a => wx a u) (fun a' => execOp a'.eval y = execOp a.eval y ∧ Region.wanted y (yielded ops a'.tmps) = Region.wanted y (yielded ops a.tmps))
        (fun a' hy v => ⟨(ey a' v).trans hy.1, (wy a' v).trans hy.2⟩) (fun a' hy d => ⟨(eD a' _ y fun cs b => hsy cs b hj).trans hy.1, hy.2⟩) (fun a' w' hy' h' => ?_) hC ⟨rfl, rfl⟩ h⟩
      obtain ⟨h5, h'⟩ := h'
      refine ⟨h5, ?_⟩
      unfold wpOp at h'
      simp only [hj] at h'
      rw [hy'.2] at h'
      rcases hy with ⟨hw, hr⟩ | ⟨hw, rfl⟩
      · simp only [hw, if_true] at h'
        rcases h' with h' | ⟨_, h'⟩
        · have hr' := (keep_run hz hgood (h5 hic) u).1 hr
          unfold Oper.wp at h'; rw [hy'.1, hr'] at h'; exact h'.2
        · exact absurd h' hC.lets
      · simp only [hw, Bool.false_eq_true, if_false] at h'
        exact h'.2
    · -- a load, then a call
      obtain ⟨⟨him, hjc⟩, hld⟩ := hk
      have him : i ∈ ms := by simpa using him
      have hjc : j ∈ cs := by simpa using hjc
      have hic := csOk_not hcs hi (.inr (readOp_load hld))
      obtain ⟨z, hz⟩ := Option.isSome_iff_exists.1 hld
      have hgood := (nx (.inr him)).2 him z hz
      obtain ⟨u, hu, _, h'⟩ := yields_of_read hi hC (read_ok (readOp_load hld)) h
      have h4 := wpOp_put2 hj h2' (fun a => ey a u) (fun a => wy a u) (fun a' => execOp a'.eval x = execOp a.eval x ∧ Region.wanted x (yielded ops a'.tmps) = Region.wanted x (yielded ops a.tmps))
        (fun a' hy v => ⟨(ex a' v).trans hy.1, (wx a' v).trans hy.2⟩) (fun a' hy d => ⟨(eD a' _ x fun cs b => hsx cs b hi).trans hy.1, hy.2⟩) hC ⟨rfl, rfl⟩ h'
      refine wpOp_mono (fun a' w' h5 => ?_) h4
      obtain ⟨⟨y1, y2⟩, h6, h7⟩ := h5
      refine ⟨h6, wpOp_of_read hi ?_ ⟨fun e => absurd e hic, h7⟩⟩
      rw [y1, y2]
      rcases hu with ⟨q1, q2⟩ | q
      · exact .inl ⟨q1, (keep_run hz hgood (h6 hjc) u).1 q2⟩
      · exact .inr q
  · cases hsw
end
end Go.Tum
