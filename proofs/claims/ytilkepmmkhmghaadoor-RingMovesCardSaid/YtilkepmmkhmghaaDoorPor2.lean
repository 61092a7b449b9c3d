/- A region that draws its order may be walked in the order of the text: the theorem, and the check that it asks of the region. -/
import Derived.Test.YtilkepmmkhmghaaDoorPor
import Derived.Tactics
import Derived.Orders
import Derived.Test.YtilkepmmkhmghaaDoorBase
namespace Go.Tum
/-- No way out but by the end. -/
def Calm (Q : Exit → Act → World → Prop) : Prop := (∀ c a w, ¬ Q (.panic c) a w) ∧ (∀ a w, ¬ Q .outgrown a w)

section
variable {P : Program} {ops : Array Oper} {Q : Exit → Act → World → Prop}

theorem Calm.lets (h : Calm Q) : ¬ LetsOut Q := fun ⟨a, w, hq⟩ => h.2 a w hq

/-- What an operation that comes to its end leaves: a value in its temporary, perhaps a deferred call. -/
theorem wp_exists {o : Oper} {a : Act} {w : World} {K : Act → World → Prop} (hQ : Calm Q) (h : o.wp P a w K Q) :
    ∃ (ds : List Deferred) (v : Value) (w' : World), K (({ a with defers := ds ++ a.defers } : Act).put o.dst v) w' := by
  unfold Oper.wp at h
  generalize (execOp a.eval o).run P w = r at h
  cases r with
  | ok n w' =>
    cases n <;> simp only [Oper.upon] at h
    case value v => exact ⟨[], v, w', h⟩
    case skip => exact ⟨[], undef, w', h⟩
    case defer d => exact ⟨[d], undef, w', h⟩
    case enter f args =>
      obtain ⟨e, w'', fr, hR, _⟩ := h []
      cases e with
      | returned v => exact ⟨[], v, w'', hR⟩
      | panicked c => exact absurd hR (hQ.1 _ _ _)
      | outgrown => exact absurd hR hQ.lets
    case row row args =>
      obtain ⟨v, w'', hR, _⟩ := h default []
      exact ⟨[], v, w'', hR⟩
  | halt x w' =>
    cases x <;> simp only [Oper.upon] at h
    case panic v => exact absurd h (hQ.1 _ _ _)

theorem wpOp_exists {i : Nat} {o : Oper} {a : Act} {w : World} {K : Act → World → Prop} (hi : ops[i]? = some o) (hQ : Calm Q) (h : wpOp P ops Q i K a w) :
    ∃ (ds : List Deferred) (v : Value) (w' : World), K (({ a with defers := ds ++ a.defers } : Act).put o.dst v) w' := by
  unfold wpOp at h
  simp only [hi] at h
  split at h
  · rcases h with h | ⟨_, h⟩
    · exact wp_exists hQ h
    · exact absurd h hQ.lets
  · exact ⟨[], undef, w, h⟩

/-- Operation i has no part in what o looks at. -/
def farFrom (ops : Array Oper) (o : Oper) (i : Nat) : Bool :=
  match (ops[i]?).bind (·.dst) with
  | some d => !(o.looksAt ops).contains d
  | none => true
theorem eval_far {o oi : Oper} {i : Nat} (hi : ops[i]? = some oi) (h : farFrom ops o i = true) (a : Act) (ds : List Deferred) (v : Value) :
    ∀ x ∈ o.op.operands, (({ a with defers := ds } : Act).put oi.dst v).eval x = a.eval x := by
  intro x hx
  have h1 : ({ a with defers := ds } : Act).eval x = a.eval x := by cases x <;> rfl
  rw [← h1]
  refine Act.eval_put fun d hd hxd => ?_
  subst hxd
  simp only [farFrom, hi, Option.bind_some, hd] at h
  have : d ∈ o.looksAt ops := List.mem_append_left _ (List.mem_filterMap.2 ⟨.tmp d, by simpa using hx, rfl⟩)
  simp [this] at h

theorem all_congr' {α : Type} {p q : α → Bool} : ∀ l : List α, (∀ x ∈ l, p x = q x) → l.all p = l.all q
  | [], _ => rfl
  | x :: l, h => by
    rw [List.all_cons, List.all_cons, h x (List.mem_cons_self ..), all_congr' l fun y hy => h y (List.mem_cons_of_mem _ hy)]
theorem plain_congr {o : Oper} {ρ ρ' : Operand → Value} (h : ∀ x ∈ o.op.operands, ρ' x = ρ x) : plainOp o ρ' = plainOp o ρ := by
  obtain ⟨dst, op, type, pos, after, guard⟩ := o
  cases op <;> simp only [plainOp] <;> simp only [Op.operands] at h
  case binOp op t x y t' => rw [h x (by simp), h y (by simp)]
  case nilCheck x => rw [h x (by simp)]
  case convert s d x => rw [h x (by simp)]
  case call c =>
    obtain ⟨callee, args, ats⟩ := c
    simp only [plainCall]
    have ha : ∀ x ∈ args.toList, ρ' x = ρ x := fun x hx => h x (by simp [Call.operands]; exact .inr (by simpa using hx))
    split
    · exact all_congr' _ fun x hx => by rw [ha x hx]
    · rw [all_congr' _ fun x hx => (by rw [ha x hx] : plainInt (ρ' x) = plainInt (ρ x)), all_congr' _ fun x hx => (by rw [ha x hx] : plainNone (ρ' x) = plainNone (ρ x))]
    · rw [all_congr' _ fun x hx => (by rw [ha x hx] : plainInt (ρ' x) = plainInt (ρ x)), all_congr' _ fun x hx => (by rw [ha x hx] : plainNone (ρ' x) = plainNone (ρ x))]
    · rfl

/-- Operations of which something is asked. -/
def needs (o : Oper) : Bool :=
  match o.op with
  | .binOp _ _ _ _ _ | .nilCheck _ | .convert _ _ _ | .call _ => true
  | _ => false
theorem plain_of_not {o : Oper} {ρ : Operand → Value} (h : needs o = false) : plainOp o ρ = true := by
  obtain ⟨dst, op, type, pos, after, guard⟩ := o
  cases op <;> simp_all [needs, plainOp]
/-- At the end every operation's operands look as they must. -/
def chk (ops : Array Oper) (a : Act) : Bool := ops.toList.all fun o => plainOp o a.eval
def Chk (ops : Array Oper) (Q : Exit → Act → World → Prop) : Exit → Act → World → Prop := fun e a w => (e = .normal → chk ops a = true) ∧ Q e a w
theorem Chk.calm (h : Calm Q) : Calm (Chk ops Q) := ⟨fun c a w hq => h.1 c a w hq.2, fun a w hq => h.2 a w hq.2⟩

/-- What the rest of the walk does not write is at the end as it is now. -/
theorem plain_now (hQ : Calm Q) {o : Oper} {io : Nat} (ho : ops[io]? = some o) : ∀ (l : List Nat) (a : Act) (w : World), (∀ i ∈ l, farFrom ops o i = true) →
    wpOps P ops (Chk ops Q) l a w → plainOp o a.eval = true
  | [], a, w, _, h => by
    have h1 : chk ops a = true := h.1 rfl
    exact List.all_eq_true.1 h1 o (by simpa using Array.mem_of_getElem? ho)
  | i :: l, a, w, hf, h => by
    rw [wpOps_cons] at h
    cases hi : ops[i]? with
    | none =>
      unfold wpOp at h
      simp only [hi] at h
      exact plain_now hQ ho l a w (fun j hj => hf j (List.mem_cons_of_mem _ hj)) h
    | some oi =>
      obtain ⟨ds, v, w', h'⟩ := wpOp_exists hi (Chk.calm hQ) h
      have h2 := plain_now hQ ho l _ w' (fun j hj => hf j (List.mem_cons_of_mem _ hj)) h'
      rw [plain_congr (eval_far hi (hf i (List.mem_cons_self ..)) a _ v)] at h2
      exact h2

/-- In this state the operation would run so. -/
theorem yields_of_free {o : Oper} {i : Nat} {a : Act} {w : World} {K : Act → World → Prop} (hi : ops[i]? = some o) (hQ : Calm Q) (hf : FreeAt P a.eval o) (h : wpOp P ops Q i K a w) :
    ∃ u, Yields P ops o u a ∧ K (a.put o.dst u) w := by
  unfold wpOp at h
  simp only [hi] at h
  split at h
  · rename_i hw
    rcases h with h | ⟨_, h⟩
    · rcases hf with ⟨u, hu⟩ | hf
      · refine ⟨u, .inl ⟨hw, hu⟩, ?_⟩
        unfold Oper.wp at h
        rw [hu w] at h
        exact h
      · obtain ⟨x, W', hx⟩ := hf w
        unfold Oper.wp at h
        rw [hx] at h
        cases x <;> simp only [Oper.upon] at h
        exact absurd h (hQ.1 _ _ _)
    · exact absurd h hQ.lets
  · rename_i hw
    exact ⟨undef, .inr ⟨by simpa using hw, rfl⟩, h⟩
theorem yields_of_read {o : Oper} {i : Nat} {a : Act} {w : World} {K : Act → World → Prop} (hi : ops[i]? = some o) (hQ : Calm Q) (hf : ReadAt P a.eval o) (h : wpOp P ops Q i K a w) :
    ∃ u, ((Region.wanted o (yielded ops a.tmps) = true ∧ (execOp a.eval o).run P w = .ok (.value u) w) ∨ (Region.wanted o (yielded ops a.tmps) = false ∧ u = undef)) ∧ K (a.put o.dst u) w := by
  unfold wpOp at h
  simp only [hi] at h
  split at h
  · rename_i hw
    rcases h with h | ⟨_, h⟩
    · rcases hf w with ⟨u, hu⟩ | ⟨x, W', hx⟩
      · refine ⟨u, .inl ⟨hw, hu⟩, ?_⟩
        unfold Oper.wp at h
        rw [hu] at h
        exact h
      · unfold Oper.wp at h
        rw [hx] at h
        cases x <;> simp only [Oper.upon] at h
        exact absurd h (hQ.1 _ _ _)
    · exact absurd h hQ.lets
  · rename_i hw
    exact ⟨undef, .inr ⟨by simpa using hw, rfl⟩, h⟩
theorem wpOp_of_read {o : Oper} {i : Nat} {a : Act} {w : World} {K : Act → World → Prop} {u : Value} (hi : ops[i]? = some o)
    (h : (Region.wanted o (yielded ops a.tmps) = true ∧ (execOp a.eval o).run P w = .ok (.value u) w) ∨ (Region.wanted o (yielded ops a.tmps) = false ∧ u = undef)) (hk : K (a.put o.dst u) w) : wpOp P ops Q i K a w := by
  unfold wpOp
  simp only [hi]
  rcases h with ⟨hw, hr⟩ | ⟨hw, rfl⟩
  · simp only [hw, if_true, Oper.wp, hr, Oper.upon]; exact .inl hk
  · simp only [hw, Bool.false_eq_true, if_false]; exact hk

/-- x carried out where y's value is already in its temporary, out of x and then y. -/
theorem wpOp_under {i j : Nat} {x y : Oper} {u : Value} (hi : ops[i]? = some x) (hj : ops[j]? = some y) (hap : x.apart ops y = true) (hsi : ∀ cs b, x.op ≠ .select cs b) (hsj : ∀ cs b, y.op ≠ .select cs b)
    {K : Act → World → Prop} {a : Act} {w : World} (hQ : Calm Q) (hy : Yields P ops y u a) (h : wpOp P ops Q i (wpOp P ops Q j K) a w) : wpOp P ops Q i K (a.put y.dst u) w := by
  obtain ⟨h1, h2, h3⟩ := Oper.apart_spec hap
  have h2' : ∀ d, y.dst = some d → x.dst ≠ some d := fun d hd hx => h2 d hx hd
  have keep : ∀ (a : Act), Yields P ops y u a → ∀ v, Yields P ops y u (a.put x.dst v) := fun a hy v =>
    hy.of_same (execOp_put y hsj a x.dst v h1) (wanted_put y a x.dst v h1)
  have keepD : ∀ d, Yields P ops y u { a with defers := d :: a.defers } := fun d => hy.of_same rfl rfl
  have next : ∀ (a' : Act) (w' : World), Yields P ops y u a' → wpOp P ops Q j K a' w' → K (a'.put y.dst u) w' := fun a' w' hy' h' => by
    unfold wpOp at h'
    simp only [hj] at h'
    rcases hy' with ⟨hw, hr⟩ | ⟨hw, rfl⟩
    · simp only [hw, if_true] at h'
      rcases h' with h' | ⟨_, h'⟩
      · unfold Oper.wp at h'; rw [hr w'] at h'; exact h'
      · exact absurd h' hQ.lets
    · simp only [hw, Bool.false_eq_true, if_false] at h'
      exact h'
  unfold wpOp at h ⊢
  simp only [hi] at h ⊢
  rw [wanted_put x a y.dst u h3]
  split
  · rename_i hw
    simp only [hw, if_true] at h
    rcases h with h | ⟨_, h⟩
    case inr => exact absurd h hQ.lets
    refine .inl ?_
    unfold Oper.wp at *
    rw [execOp_put x hsi a y.dst u h3]
    generalize (execOp a.eval x).run P w = r at *
    cases r with
    | ok n w' =>
      cases n <;> simp only [Oper.upon] at h ⊢
      case value v => rw [Act.put_comm a u v h2']; exact next _ _ (keep a hy v) h
      case skip => rw [Act.put_comm a u undef h2']; exact next _ _ (keep a hy _) h
      case defer d =>
        rw [Act.put_defers, Act.put_comm _ u undef h2']
        exact next _ _ (keep _ (keepD d) _) h
      case enter f args =>
        refine Calls.mono h fun e w'' he => ?_
        cases e with
        | returned v => simp only at he ⊢; rw [Act.put_comm a u v h2']; exact next _ _ (keep a hy v) he
        | panicked c => exact absurd he (hQ.1 _ _ _)
        | outgrown => exact he
      case row row args => exact Rows.mono h fun v w'' he => by rw [Act.put_comm a u v h2']; exact next _ _ (keep a hy v) he
    | halt x' w' =>
      cases x' <;> simp only [Oper.upon] at h ⊢
      case panic v => exact absurd h (hQ.1 _ _ _)
  · rename_i hw
    simp only [hw] at h
    simp only [Bool.false_eq_true, if_false] at h
    rw [Act.put_comm a u undef h2']
    exact next _ _ (keep a hy _) h

/-- May i and j (i before j in the text) change places? -/
def swapB (P : Program) (ops : Array Oper) (i j : Nat) : Bool :=
  match ops[i]?, ops[j]? with
  | some x, some y => x.apart ops y && (freeOp P x || freeOp P y || (readOp P x && readOp P y))
  | _, _ => false

/-- The two first change places. -/
theorem swap_two (hQ : Calm Q) (hs : Region.noSelect ops = true) {i j : Nat} {l : List Nat} (hsw : swapB P ops i j = true)
    (hfi : ∀ x, ops[i]? = some x → needs x = true → farFrom ops x i = true ∧ ∀ k ∈ l, farFrom ops x k = true) (hfj : ∀ y, ops[j]? = some y → needs y = true → farFrom ops y j = true ∧ ∀ k ∈ l, farFrom ops y k = true)
    {a : Act} {w : World} (h : wpOps P ops (Chk ops Q) (i :: j :: l) a w) : wpOps P ops (Chk ops Q) (j :: i :: l) a w := by
  have hC := Chk.calm (ops := ops) hQ
  unfold swapB at hsw
  split at hsw
  · rename_i x y hi hj
    simp only [Bool.and_eq_true, Bool.or_eq_true] at hsw
    obtain ⟨hap, hk⟩ := hsw
    have hsx := Region.noSelect_spec hs i x
    have hsy := Region.noSelect_spec hs j y
    obtain ⟨h1, h2, h3⟩ := Oper.apart_spec hap
    have fj : farFrom ops x j = true := by
      unfold farFrom
      rw [hj]
      simp only [Option.bind_some]
      split
      · rename_i d hd; simpa using h3 d hd
      · rfl
    have fi : farFrom ops y i = true := by
      unfold farFrom
      rw [hi]
      simp only [Option.bind_some]
      split
      · rename_i d hd; simpa using h1 d hd
      · rfl
    have px : plainOp x a.eval = true := by
      cases hn : needs x with
      | false => exact plain_of_not hn
      | true =>
        exact plain_now hQ hi _ a w (fun k hk => by
          rcases List.mem_cons.1 hk with rfl | hk
          · exact (hfi x hi hn).1
          · rcases List.mem_cons.1 hk with rfl | hk
            · exact fj
            · exact (hfi x hi hn).2 k hk) h
    have py : plainOp y a.eval = true := by
      cases hn : needs y with
      | false => exact plain_of_not hn
      | true =>
        exact plain_now hQ hj _ a w (fun k hk => by
          rcases List.mem_cons.1 hk with rfl | hk
          · exact fi
          · rcases List.mem_cons.1 hk with rfl | hk
            · exact (hfj y hj hn).1
            · exact (hfj y hj hn).2 k hk) h
    rw [wpOps_cons] at h
    rw [wpOps_cons]
    rw [show wpOps P ops (Chk ops Q) (j :: l) = wpOp P ops (Chk ops Q) j (wpOps P ops (Chk ops Q) l) from funext fun a => funext fun w => wpOps_cons j l a w] at h
    rw [show wpOps P ops (Chk ops Q) (i :: l) = wpOp P ops (Chk ops Q) i (wpOps P ops (Chk ops Q) l) from funext fun a => funext fun w => wpOps_cons i l a w]
    rcases hk with (hk | hk) | hk
    · obtain ⟨u, hy, h'⟩ := yields_of_free hi hC (free_ok hk px) h
      have h4 := wpOp_put hj hap (fun cs b => hsx cs b hi) (fun cs b => hsy cs b hj) (fun c a w hq => absurd hq (hC.1 _ _ _)) hy h'
      exact wpOp_mono (fun a' w' h5 => h5.1.wpOp hi h5.2) h4
    · have hy : ∃ u, Yields P ops y u a := by
        obtain ⟨ds, v, w', h'⟩ := wpOp_exists hi hC h
        have he : execOp (({ a with defers := ds ++ a.defers } : Act).put x.dst v).eval y = execOp a.eval y :=
          (execOp_put y (fun cs b => hsy cs b hj) _ x.dst v h1).trans (execOp_congr y (fun cs b => hsy cs b hj) fun o _ => by cases o <;> rfl)
        have hw : Region.wanted y (yielded ops (({ a with defers := ds ++ a.defers } : Act).put x.dst v).tmps) = Region.wanted y (yielded ops a.tmps) := wanted_put y _ x.dst v h1
        have hf := free_ok hk py
        obtain ⟨u, hu, _⟩ := yields_of_free hj hC (by unfold FreeAt at *; rw [he]; exact hf) h'
        exact ⟨u, hu.of_same he.symm hw.symm⟩
      obtain ⟨u, hy⟩ := hy
      exact hy.wpOp hj (wpOp_under hi hj hap (fun cs b => hsx cs b hi) (fun cs b => hsy cs b hj) hC hy h)
    · obtain ⟨u, hu, h'⟩ := yields_of_read hi hC (read_ok hk.1) h
      obtain ⟨v, hv, h''⟩ := yields_of_read hj hC (read_ok hk.2) h'
      rw [execOp_put y (fun cs b => hsy cs b hj) a x.dst u h1, wanted_put y a x.dst u h1] at hv
      refine wpOp_of_read hj hv (wpOp_of_read (u := u) hi ?_ ?_)
      · rw [execOp_put x (fun cs b => hsx cs b hi) a y.dst v h3, wanted_put x a y.dst v h3]
        exact hu
      · rw [← Act.put_comm a u v h2]
        exact h''
  · cases hsw

theorem wpOps_mono {l l' : List Nat} (h : ∀ a w, wpOps P ops Q l a w → wpOps P ops Q l' a w) (i : Nat) (a : Act) (w : World) (hh : wpOps P ops Q (i :: l) a w) : wpOps P ops Q (i :: l') a w := by
  rw [wpOps_cons] at hh ⊢
  exact wpOp_mono h hh

theorem far_of_swap {i j : Nat} (h : swapB P ops i j = true) : ∀ y, ops[j]? = some y → farFrom ops y i = true := by
  intro y hj
  unfold swapB at h
  rw [hj] at h
  cases hi : ops[i]? with
  | none => rw [hi] at h; cases h
  | some x =>
    rw [hi] at h
    simp only [Bool.and_eq_true] at h
    obtain ⟨h1, _, _⟩ := Oper.apart_spec h.1
    unfold farFrom
    rw [hi]
    simp only [Option.bind_some]
    split
    · rename_i d hd; simpa using h1 d hd
    · rfl

/-- j comes to the front. -/
theorem move_front (hQ : Calm Q) (hs : Region.noSelect ops = true) {j : Nat} {B : List Nat}
    (hG : ∀ i k, i ≤ k → k < ops.size → ∀ x, ops[i]? = some x → needs x = true → farFrom ops x k = true) (hjn : j < ops.size) (hB : ∀ k ∈ B, j < k ∧ k < ops.size) :
    ∀ (A : List Nat), (∀ i ∈ A, i < j ∧ swapB P ops i j = true) → A.Pairwise (· < ·) → ∀ (a : Act) (w : World), wpOps P ops (Chk ops Q) (A ++ j :: B) a w → wpOps P ops (Chk ops Q) (j :: (A ++ B)) a w
  | [], _, _, a, w, h => h
  | i :: A, hA, hp, a, w, h => by
    have hp' := List.pairwise_cons.1 hp
    have h1 : wpOps P ops (Chk ops Q) (i :: j :: (A ++ B)) a w :=
      wpOps_mono (move_front hQ hs hG hjn hB A (fun k hk => hA k (List.mem_cons_of_mem _ hk)) hp'.2) i a w h
    have hi := hA i (List.mem_cons_self ..)
    refine swap_two hQ hs hi.2 (fun x hx hn => ⟨hG i i (Nat.le_refl _) (by omega) x hx hn, fun k hk => ?_⟩) (fun y hy hn => ⟨hG j j (Nat.le_refl _) hjn y hy hn, fun k hk => ?_⟩) h1
    · rcases List.mem_append.1 hk with hk | hk
      · have := hp'.1 k hk
        have := (hA k (List.mem_cons_of_mem _ hk)).1
        exact hG i k (by omega) (by omega) x hx hn
      · have := hB k hk
        exact hG i k (by omega) this.2 x hx hn
    · rcases List.mem_append.1 hk with hk | hk
      · exact far_of_swap (hA k (List.mem_cons_of_mem _ hk)).2 y hy
      · have := hB k hk
        exact hG j k (by omega) this.2 y hy hn

/-! ### Which have not come up yet -/
def unl (ops : Array Oper) (listed : Array Bool) : List Nat := (List.range ops.size).filter fun i => !listed.getD i true
theorem mem_unl {listed : Array Bool} {i : Nat} : i ∈ unl ops listed ↔ i < ops.size ∧ listed.getD i true = false := by
  unfold unl
  rw [List.mem_filter, List.mem_range]
  simp
theorem unl_sorted (listed : Array Bool) : (unl ops listed).Pairwise (· < ·) := List.Pairwise.filter _ List.pairwise_lt_range
theorem getD_replicate_false' (m j : Nat) : (Array.replicate m false).getD j false = false := by
  rcases Nat.lt_or_ge j m with h | h
  · simp [h]
  · simp [h]
theorem getD_set_self {listed : Array Bool} (j : Nat) : (listed.setIfInBounds j true).getD j true = true := by
  rcases Nat.lt_or_ge j listed.size with h | h
  · simp [h]
  · simp [h]
theorem unl_set (listed : Array Bool) (j : Nat) : unl ops (listed.setIfInBounds j true) = (unl ops listed).filter fun i => i != j := by
  unfold unl
  rw [List.filter_filter]
  refine List.filter_congr fun i _ => ?_
  by_cases h : i = j
  · subst h
    rw [getD_set_self]
    simp
  · rw [getD_set_ne true (Ne.symm h)]
    simp [h]

def depB (ops : Array Oper) : Nat → Nat → Nat → Bool
  | 0, _, _ => false
  | f + 1, j, i => match ops[j]? with
    | some oj => oj.after.any fun e => Region.binds .any e && (e.on == i || depB ops f e.on i)
    | none => false
def Closed (ops : Array Oper) (listed : Array Bool) : Prop := ∀ (j : Nat) (oj : Oper), ops[j]? = some oj → listed.getD j false = true → ∀ e ∈ oj.after, Region.binds .any e = true → listed.getD e.on false = true
theorem dep_listed {listed : Array Bool} (hc : Closed ops listed) {i : Nat} : ∀ (f j : Nat), (∀ oj, ops[j]? = some oj → ∀ e ∈ oj.after, Region.binds .any e = true → listed.getD e.on false = true) → depB ops f j i = true → listed.getD i false = true
  | 0, _, _, h => by cases h
  | f + 1, j, hj, h => by
    unfold depB at h
    split at h
    · rename_i oj ho
      obtain ⟨e, he, hb⟩ := Array.any_eq_true'.1 h
      simp only [Bool.and_eq_true, Bool.or_eq_true, beq_iff_eq] at hb
      have hl := hj oj ho e he hb.1
      rcases hb.2 with h1 | h1
      · rw [← h1]; exact hl
      · exact dep_listed hc f e.on (fun ok hk e' he' hb' => hc e.on ok hk hl e' he' hb') h1
    · cases h

/-- THE CHECK of a region's look. -/
def porOk (P : Program) (ops : Array Oper) : Bool :=
  Region.noSelect ops && (List.range ops.size).all fun j => (match ops[j]? with
    | some o => o.after.all (fun e => !Region.binds .any e || decide (e.on < j)) && (!needs o || (List.range (ops.size - j)).all fun d => farFrom ops o (j + d))
    | none => true) && (List.range j).all fun i => swapB P ops i j || depB ops 12 j i

theorem por_any (hQ : Calm Q) (hs : Region.noSelect ops = true)
    (hE : ∀ j o, ops[j]? = some o → ∀ e ∈ o.after, Region.binds .any e = true → e.on < j)
    (hG : ∀ i k, i ≤ k → k < ops.size → ∀ x, ops[i]? = some x → needs x = true → farFrom ops x k = true)
    (hS : ∀ i j, i < j → j < ops.size → swapB P ops i j = true ∨ depB ops 12 j i = true) :
    ∀ (fuel : Nat) (listed : Array Bool) (a : Act) (w : World), listed.size = ops.size → Closed ops listed → (unl ops listed).length ≤ fuel → wpOps P ops (Chk ops Q) (unl ops listed) a w → wpAny P .any ops Q fuel listed a w := by
  have hmin : ∀ (listed : Array Bool), listed.size = ops.size → Region.ready .any ops listed = [] → unl ops listed = [] := by
    intro listed hsz hr
    cases hu : unl ops listed with
    | nil => rfl
    | cons m l =>
      exfalso
      have hm : m ∈ unl ops listed := by rw [hu]; exact List.mem_cons_self ..
      obtain ⟨hmn, hml⟩ := mem_unl.1 hm
      have hsort := unl_sorted (ops := ops) listed
      rw [hu] at hsort
      have hall := (List.pairwise_cons.1 hsort).1
      have : m ∈ Region.ready .any ops listed := by
        rw [mem_ready]
        refine ⟨hml, ops[m], Array.getElem?_eq_getElem hmn, fun e he hb => ?_⟩
        have hlt := hE m _ (Array.getElem?_eq_getElem hmn) e he hb
        cases hx : listed.getD e.on false with
        | true => rfl
        | false =>
          exfalso
          have hin : e.on < listed.size := by omega
          have hx' : listed.getD e.on true = false := by simp [hin] at hx ⊢; exact hx
          have hmem : e.on ∈ unl ops listed := mem_unl.2 ⟨by omega, hx'⟩
          rw [hu] at hmem
          rcases List.mem_cons.1 hmem with h1 | h1
          · omega
          · have := hall _ h1
            omega
      rw [hr] at this
      cases this
  intro fuel
  induction fuel with
  | zero =>
    intro listed a w hsz hc hl h
    have hu : unl ops listed = [] := List.eq_nil_of_length_eq_zero (by omega)
    rw [hu] at h
    refine ⟨?_, h.2⟩
    cases hr : Region.ready .any ops listed with
    | nil => rfl
    | cons m l =>
      exfalso
      have hm : m ∈ Region.ready .any ops listed := by rw [hr]; exact List.mem_cons_self ..
      obtain ⟨h1, o, ho, _⟩ := mem_ready.1 hm
      have : m ∈ unl ops listed := mem_unl.2 ⟨(Array.getElem?_eq_some_iff.1 ho).1, h1⟩
      rw [hu] at this
      cases this
  | succ fuel ih =>
    intro listed a w hsz hc hl h
    refine ⟨fun hr => ?_, fun j hj => ?_⟩
    · rw [hmin listed hsz hr] at h
      exact h.2
    · obtain ⟨hju, oj, hoj, hall⟩ := mem_ready.1 hj
      have hjn : j < ops.size := (Array.getElem?_eq_some_iff.1 hoj).1
      have hjm : j ∈ unl ops listed := mem_unl.2 ⟨hjn, hju⟩
      obtain ⟨A, B, hAB⟩ := List.append_of_mem hjm
      have hsort := unl_sorted (ops := ops) listed
      rw [hAB] at hsort
      obtain ⟨hpA, hpB, hAjB⟩ := List.pairwise_append.1 hsort
      have hpB' := List.pairwise_cons.1 hpB
      have hAlt : ∀ i ∈ A, i < j := fun i hi => hAjB i hi j (List.mem_cons_self ..)
      have hmemA : ∀ i ∈ A, i ∈ unl ops listed := fun i hi => by rw [hAB]; exact List.mem_append_left _ hi
      have hmemB : ∀ k ∈ B, k ∈ unl ops listed := fun k hk => by rw [hAB]; exact List.mem_append_right _ (List.mem_cons_of_mem _ hk)
      have hset : unl ops (listed.setIfInBounds j true) = A ++ B := by
        rw [unl_set, hAB, List.filter_append, List.filter_cons]
        have e1 : A.filter (fun i => i != j) = A := List.filter_eq_self.2 fun i hi => by have := hAlt i hi; simp; omega
        have e2 : B.filter (fun i => i != j) = B := List.filter_eq_self.2 fun k hk => by have := hpB'.1 k hk; simp; omega
        rw [e1, e2]
        simp
      rw [hAB] at h
      have h1 := move_front hQ hs hG hjn (fun k hk => ⟨hpB'.1 k hk, (mem_unl.1 (hmemB k hk)).1⟩) A (fun i hi => ⟨hAlt i hi, by
        rcases hS i j (hAlt i hi) hjn with h2 | h2
        · exact h2
        · exfalso
          have h3 := dep_listed hc 12 j (fun o ho e he hb => by
            have : o = oj := Option.some.inj (ho.symm.trans hoj)
            subst this
            exact hall e he hb) h2
          have h4 := (mem_unl.1 (hmemA i hi)).2
          have h5 := (mem_unl.1 (hmemA i hi)).1
          rw [← hsz] at h5
          simp [h5] at h3 h4
          rw [h3] at h4
          cases h4⟩) hpA a w h
      rw [wpOps_cons] at h1
      have hclosed : Closed ops (listed.setIfInBounds j true) := by
        intro k ok hk hl e he hb
        by_cases hjk : j = k
        · subst hjk
          have : ok = oj := Option.some.inj (hk.symm.trans hoj)
          subst this
          exact getD_set_true (hall e he hb)
        · rw [getD_set_ne false hjk] at hl
          exact getD_set_true (hc k ok hk hl e he hb)
      have hlen : (unl ops (listed.setIfInBounds j true)).length ≤ fuel := by
        rw [hset]
        rw [hAB] at hl
        simp only [List.length_append, List.length_cons] at hl ⊢
        omega
      have h2 : wpOp P ops Q j (wpOps P ops (Chk ops Q) (A ++ B)) a w := by
        unfold wpOp at h1 ⊢
        rw [hoj] at h1 ⊢
        simp only at h1 ⊢
        split
        · rename_i hw
          rw [if_pos hw] at h1
          rcases h1 with h1 | ⟨_, h1⟩
          · refine .inl ?_
            unfold Oper.wp at h1 ⊢
            generalize (execOp a.eval oj).run P w = r at h1 ⊢
            cases r with
            | ok n w' =>
              cases n <;> simp only [Oper.upon] at h1 ⊢ <;> first
                | exact h1
                | exact Calls.mono h1 fun e w'' he => by
                    cases e with
                    | returned v => exact he
                    | panicked c => exact he.2
                    | outgrown => obtain ⟨a0, w0, hq⟩ := he; exact ⟨a0, w0, hq.2⟩
            | halt x w' =>
              cases x <;> simp only [Oper.upon] at h1 ⊢
              exact h1.2
          · exact absurd h1 (Chk.calm hQ).lets
        · rename_i hw
          rw [if_neg hw] at h1
          exact h1
      refine wpOp_mono (fun a' w' h3 => ih (listed.setIfInBounds j true) a' w' (by simpa using hsz) hclosed hlen (by rw [hset]; exact h3)) h2

/-- **A region that draws its order, walked in the order of the text.** -/
theorem any_por {l : List Oper} {a : Act} {w : World} (hok : porOk P l.toArray = true) (hQ : Calm Q)
    (h : wpList P l.toArray (Chk l.toArray Q) l a w.drew) : wpAny P .any l.toArray Q l.toArray.size (Array.replicate l.toArray.size false) a w.drew := by
  unfold porOk at hok
  simp only [Bool.and_eq_true, List.all_eq_true, List.mem_range] at hok
  obtain ⟨hs, hall⟩ := hok
  refine por_any hQ hs (fun j o ho e he hb => ?_) (fun i k hik hk x hx hn => ?_) (fun i j hij hj => ?_) _ _ a _ (by simp) ?_ ?_ ?_
  · have hjn : j < l.toArray.size := (Array.getElem?_eq_some_iff.1 ho).1
    have h1 := (hall j hjn).1
    rw [ho] at h1
    simp only [Bool.and_eq_true] at h1
    have h2 := (Array.all_eq_true_iff_forall_mem.1 h1.1) e he
    simpa [hb] using h2
  · have hin : i < l.toArray.size := (Array.getElem?_eq_some_iff.1 hx).1
    have h1 := (hall i hin).1
    rw [hx] at h1
    simp only [Bool.and_eq_true, hn, Bool.not_true, Bool.false_or, List.all_eq_true, List.mem_range] at h1
    have h2 := h1.2 (k - i) (by omega)
    rwa [show i + (k - i) = k by omega] at h2
  · have h1 := (hall j hj).2 i hij
    simpa using h1
  · intro j oj hj hl
    rw [getD_replicate_false'] at hl
    cases hl
  · refine Nat.le_trans (List.length_filter_le _ _) (by simp)
  · have hu : unl l.toArray (Array.replicate l.toArray.size false) = List.range l.toArray.size := List.filter_eq_self.2 fun i hi => by
      have := List.mem_range.1 hi
      simp at this
      simp [this]
    rw [hu, List.range_eq_range', List.size_toArray, wpOps_eq_wpList l 0 (by simp)]
    exact h
theorem wp_region_por {id : Nat} {l : List Oper} {a : Act} {w : World} (hm : P.follows .mixedOrders = true) (hok : porOk P l.toArray = true) (hQ : Calm Q)
    (h : wpList P l.toArray (Chk l.toArray Q) l a w.drew) : (Code.region id l.toArray true).wp P Q a w := wp_region_any hm (any_por hok hQ h)
theorem calm_ret {fn : Func} {Φ : Value → World → Prop} : Calm (bodyPost P fn (Ret Φ)) := ⟨fun _ _ _ h => h.2, fun _ _ h => h⟩
theorem calm_then {K : Act → World → Prop} (h : Calm Q) : Calm (Exit.then K Q) := ⟨fun c a w hq => h.1 c a w hq, fun a w hq => h.2 a w hq⟩
theorem calm_in {id : Nat} (h : Calm Q) : Calm (Exit.inBlock id Q) := ⟨fun c a w hq => h.1 c a w hq, fun a w hq => h.2 a w hq⟩
theorem calm_noGoto (h : Calm Q) : Calm (Exit.noGoto Q) := ⟨fun c a w hq => h.1 c a w hq, fun a w hq => h.2 a w hq⟩
theorem calm_chk {os : Array Oper} (h : Calm Q) : Calm (Chk os Q) := Chk.calm h
theorem chk_end {os : Array Oper} {a : Act} {w : World} (h : chk os a = true) (k : Q .normal a w) : Chk os Q .normal a w := ⟨fun _ => h, k⟩
end
end Go.Tum
