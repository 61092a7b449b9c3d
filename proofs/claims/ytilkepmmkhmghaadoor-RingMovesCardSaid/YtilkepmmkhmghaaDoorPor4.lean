/- The theorem on regions with calls that loads may cross. -/
import Derived.Test.YtilkepmmkhmghaaDoorPor3
namespace Go.Tum
section
variable {P : Program} {ops : Array Oper} {Q : Exit → Act → World → Prop} {B : Nat → Prop} {ms cs : List Nat}
theorem wpJ_mono {l l' : List Nat} (h : ∀ a w, wpJ P ops Q B cs l a w → wpJ P ops Q B cs l' a w) (i : Nat) (a : Act) (w : World) (hh : wpJ P ops Q B cs (i :: l) a w) : wpJ P ops Q B cs (i :: l') a w :=
  wpOp_mono (fun a' w' h' => ⟨h'.1, h a' w' h'.2⟩) hh
theorem far_of_swapM {i j : Nat} (h : swapM P ms cs ops i j = true) : ∀ y, ops[j]? = some y → farFrom ops y i = true := by
  intro y hj
  unfold swapM at h
  rw [hj] at h
  cases hi : ops[i]? with
  | none => rw [hi] at h; cases h
  | some x =>
    rw [hi] at h
    simp only [Bool.and_eq_true] at h
    obtain ⟨h1, _, _⟩ := Oper.apart_spec h.1
    unfold farFrom
    rw [hi]
    simp only [Option.bind_some]
    split
    · rename_i d hd; simpa using h1 d hd
    · rfl
theorem move_frontM (hQ : Calm Q) (hs : Region.noSelect ops = true) (hcs : csOk P cs ops = true) {j : Nat} {C : List Nat}
    (hG : ∀ i k, i ≤ k → k < ops.size → ∀ x, ops[i]? = some x → (needs x = true ∨ i ∈ ms) → farFrom ops x k = true) (hjn : j < ops.size) (hB : ∀ k ∈ C, j < k ∧ k < ops.size) :
    ∀ (A : List Nat), (∀ i ∈ A, i < j ∧ swapM P ms cs ops i j = true) → A.Pairwise (· < ·) → ∀ (a : Act) (w : World), wpJ P ops (ChkM B ms ops Q) B cs (A ++ j :: C) a w → wpJ P ops (ChkM B ms ops Q) B cs (j :: (A ++ C)) a w
  | [], _, _, a, w, h => h
  | i :: A, hA, hp, a, w, h => by
    have hp' := List.pairwise_cons.1 hp
    have h1 : wpJ P ops (ChkM B ms ops Q) B cs (i :: j :: (A ++ C)) a w :=
      wpJ_mono (move_frontM hQ hs hcs hG hjn hB A (fun k hk => hA k (List.mem_cons_of_mem _ hk)) hp'.2) i a w h
    have hi := hA i (List.mem_cons_self ..)
    refine swap_twoM hQ hs hcs hi.2 (fun x hx hn => ⟨hG i i (Nat.le_refl _) (by omega) x hx hn, fun k hk => ?_⟩) (fun y hy hn => ⟨hG j j (Nat.le_refl _) hjn y hy hn, fun k hk => ?_⟩) h1
    · rcases List.mem_append.1 hk with hk | hk
      · have := hp'.1 k hk
        have := (hA k (List.mem_cons_of_mem _ hk)).1
        exact hG i k (by omega) (by omega) x hx hn
      · have := hB k hk
        exact hG i k (by omega) this.2 x hx hn
    · rcases List.mem_append.1 hk with hk | hk
      · exact far_of_swapM (hA k (List.mem_cons_of_mem _ hk)).2 y hy
      · have := hB k hk
        exact hG j k (by omega) this.2 y hy hn
theorem wpOp_unchk (hQ : Calm Q) {j : Nat} {K : Act → World → Prop} {a : Act} {w : World} (h1 : wpOp P ops (ChkM B ms ops Q) j K a w) : wpOp P ops Q j K a w := by
  unfold wpOp at h1 ⊢
  cases hoj : ops[j]? with
  | none => rw [hoj] at h1; exact h1
  | some oj =>
    rw [hoj] at h1
    simp only at h1 ⊢
    split
    · rename_i hw
      rw [if_pos hw] at h1
      rcases h1 with h1 | ⟨_, h1⟩
      · refine .inl ?_
        unfold Oper.wp at h1 ⊢
        generalize (execOp a.eval oj).run P w = r at h1 ⊢
        cases r with
        | ok n w' =>
          cases n <;> simp only [Oper.upon] at h1 ⊢ <;> first
            | exact h1
            | exact Calls.mono h1 fun e w'' he => by
                cases e with
                | returned v => exact he
                | panicked c => exact he.2
                | outgrown => obtain ⟨a0, w0, hq⟩ := he; exact ⟨a0, w0, hq.2⟩
        | halt x w' =>
          cases x <;> simp only [Oper.upon] at h1 ⊢
          exact h1.2
      · exact absurd h1 (ChkM.calm hQ).lets
    · rename_i hw
      rw [if_neg hw] at h1
      exact h1
/-- THE CHECK of a region's look: cs: the calls that loads may cross; ms: those loads. -/
def porOkM (P : Program) (ms cs : List Nat) (ops : Array Oper) : Bool :=
  Region.noSelect ops && csOk P cs ops && (List.range ops.size).all fun j => (match ops[j]? with
    | some o => o.after.all (fun e => !Region.binds .any e || decide (e.on < j)) && (!(needs o || ms.contains j) || (List.range (ops.size - j)).all fun d => farFrom ops o (j + d))
    | none => true) && (List.range j).all fun i => swapM P ms cs ops i j || depB ops 12 j i
theorem por_anyM (hQ : Calm Q) (hs : Region.noSelect ops = true) (hcs : csOk P cs ops = true)
    (hE : ∀ j o, ops[j]? = some o → ∀ e ∈ o.after, Region.binds .any e = true → e.on < j)
    (hG : ∀ i k, i ≤ k → k < ops.size → ∀ x, ops[i]? = some x → (needs x = true ∨ i ∈ ms) → farFrom ops x k = true)
    (hS : ∀ i j, i < j → j < ops.size → swapM P ms cs ops i j = true ∨ depB ops 12 j i = true) :
    ∀ (fuel : Nat) (listed : Array Bool) (a : Act) (w : World), listed.size = ops.size → Closed ops listed → (unl ops listed).length ≤ fuel → wpJ P ops (ChkM B ms ops Q) B cs (unl ops listed) a w → wpAny P .any ops Q fuel listed a w := by
  have hmin : ∀ (listed : Array Bool), listed.size = ops.size → Region.ready .any ops listed = [] → unl ops listed = [] := by
    intro listed hsz hr
    cases hu : unl ops listed with
    | nil => rfl
    | cons m l =>
      exfalso
      have hm : m ∈ unl ops listed := by rw [hu]; exact List.mem_cons_self ..
      obtain ⟨hmn, hml⟩ := mem_unl.1 hm
      have hsort := unl_sorted (ops := ops) listed
      rw [hu] at hsort
      have hall := (List.pairwise_cons.1 hsort).1
      have : m ∈ Region.ready .any ops listed := by
        rw [mem_ready]
        refine ⟨hml, ops[m], Array.getElem?_eq_getElem hmn, fun e he hb => ?_⟩
        have hlt := hE m _ (Array.getElem?_eq_getElem hmn) e he hb
        cases hx : listed.getD e.on false with
        | true => rfl
        | false =>
          exfalso
          have hin : e.on < listed.size := by omega
          have hx' : listed.getD e.on true = false := by simp [hin] at hx ⊢; exact hx
          have hmem : e.on ∈ unl ops listed := mem_unl.2 ⟨by omega, hx'⟩
          rw [hu] at hmem
          rcases List.mem_cons.1 hmem with h1 | h1
          · omega
          · have := hall _ h1
            omega
      rw [hr] at this
      cases this
  intro fuel
  induction fuel with
  | zero =>
    intro listed a w hsz hc hl h
    have hu : unl ops listed = [] := List.eq_nil_of_length_eq_zero (by omega)
    rw [hu] at h
    refine ⟨?_, h.2⟩
    cases hr : Region.ready .any ops listed with
    | nil => rfl
    | cons m l =>
      exfalso
      have hm : m ∈ Region.ready .any ops listed := by rw [hr]; exact List.mem_cons_self ..
      obtain ⟨h1, o, ho, _⟩ := mem_ready.1 hm
      have : m ∈ unl ops listed := mem_unl.2 ⟨(Array.getElem?_eq_some_iff.1 ho).1, h1⟩
      rw [hu] at this
      cases this
  | succ fuel ih =>
    intro listed a w hsz hc hl h
    refine ⟨fun hr => ?_, fun j hj => ?_⟩
    · rw [hmin listed hsz hr] at h
      exact h.2
    · obtain ⟨hju, oj, hoj, hall⟩ := mem_ready.1 hj
      have hjn : j < ops.size := (Array.getElem?_eq_some_iff.1 hoj).1
      have hjm : j ∈ unl ops listed := mem_unl.2 ⟨hjn, hju⟩
      obtain ⟨A, C, hAB⟩ := List.append_of_mem hjm
      have hsort := unl_sorted (ops := ops) listed
      rw [hAB] at hsort
      obtain ⟨hpA, hpB, hAjB⟩ := List.pairwise_append.1 hsort
      have hpB' := List.pairwise_cons.1 hpB
      have hAlt : ∀ i ∈ A, i < j := fun i hi => hAjB i hi j (List.mem_cons_self ..)
      have hmemA : ∀ i ∈ A, i ∈ unl ops listed := fun i hi => by rw [hAB]; exact List.mem_append_left _ hi
      have hmemB : ∀ k ∈ C, k ∈ unl ops listed := fun k hk => by rw [hAB]; exact List.mem_append_right _ (List.mem_cons_of_mem _ hk)
      have hset : unl ops (listed.setIfInBounds j true) = A ++ C := by
        rw [unl_set, hAB, List.filter_append, List.filter_cons]
        have e1 : A.filter (fun i => i != j) = A := List.filter_eq_self.2 fun i hi => by have := hAlt i hi; simp; omega
        have e2 : C.filter (fun i => i != j) = C := List.filter_eq_self.2 fun k hk => by have := hpB'.1 k hk; simp; omega
        rw [e1, e2]
        simp
      rw [hAB] at h
      have h1 := move_frontM hQ hs hcs hG hjn (fun k hk => ⟨hpB'.1 k hk, (mem_unl.1 (hmemB k hk)).1⟩) A (fun i hi => ⟨hAlt i hi, by
        rcases hS i j (hAlt i hi) hjn with h2 | h2
        · exact h2
        · exfalso
          have h3 := dep_listed hc 12 j (fun o ho e he hb => by
            have : o = oj := Option.some.inj (ho.symm.trans hoj)
            subst this
            exact hall e he hb) h2
          have h4 := (mem_unl.1 (hmemA i hi)).2
          have h5 := (mem_unl.1 (hmemA i hi)).1
          rw [← hsz] at h5
          simp [h5] at h3 h4
          rw [h3] at h4
          cases h4⟩) hpA a w h
      have hclosed : Closed ops (listed.setIfInBounds j true) := by
        intro k ok hk hl e he hb
        by_cases hjk : j = k
        · subst hjk
          have : ok = oj := Option.some.inj (hk.symm.trans hoj)
          subst this
          exact getD_set_true (hall e he hb)
        · rw [getD_set_ne false hjk] at hl
          exact getD_set_true (hc k ok hk hl e he hb)
      have hlen : (unl ops (listed.setIfInBounds j true)).length ≤ fuel := by
        rw [hset]
        rw [hAB] at hl
        simp only [List.length_append, List.length_cons] at hl ⊢
        omega
      exact wpOp_mono (fun a' w' h3 => ih (listed.setIfInBounds j true) a' w' (by simpa using hsz) hclosed hlen (by rw [hset]; exact h3.2)) (wpOp_unchk hQ h1)

/-! ### The walk in pieces -/
/-- Behind the piece so; else as ever. -/
def SegQ (X : Act → World → Prop) (Q : Exit → Act → World → Prop) : Exit → Act → World → Prop := fun e a w => (e = .normal → X a w) ∧ (e ≠ .normal → Q e a w)
theorem segEnd {X : Act → World → Prop} {a : Act} {w : World} (h : X a w) : SegQ X Q .normal a w := ⟨fun _ => h, fun e => absurd rfl e⟩
theorem SegQ.calm {X : Act → World → Prop} (h : Calm Q) : Calm (SegQ X Q) := ⟨fun c a w hq => h.1 c a w (hq.2 (by simp)), fun a w hq => h.2 a w (hq.2 (by simp))⟩
theorem wpOp_seg (hQ : Calm Q) {X : Act → World → Prop} {j : Nat} {K : Act → World → Prop} {a : Act} {w : World} (h1 : wpOp P ops (SegQ X Q) j K a w) : wpOp P ops Q j K a w := by
  unfold wpOp at h1 ⊢
  cases hoj : ops[j]? with
  | none => rw [hoj] at h1; exact h1
  | some oj =>
    rw [hoj] at h1
    simp only at h1 ⊢
    split
    · rename_i hw
      rw [if_pos hw] at h1
      rcases h1 with h1 | ⟨_, h1⟩
      · refine .inl ?_
        unfold Oper.wp at h1 ⊢
        generalize (execOp a.eval oj).run P w = r at h1 ⊢
        cases r with
        | ok n w' =>
          cases n <;> simp only [Oper.upon] at h1 ⊢ <;> first
            | exact h1
            | exact Calls.mono h1 fun e w'' he => by
                cases e with
                | returned v => exact he
                | panicked c => exact he.2 (by simp)
                | outgrown => obtain ⟨a0, w0, hq⟩ := he; exact ⟨a0, w0, hq.2 (by simp)⟩
        | halt x w' =>
          cases x <;> simp only [Oper.upon] at h1 ⊢
          exact h1.2 (by simp)
      · exact absurd h1 (SegQ.calm hQ).lets
    · rename_i hw
      rw [if_neg hw] at h1
      exact h1
/-- A piece without such a call. -/
theorem wpJ_seg (hQ : Calm Q) {r : List Nat} : ∀ (l : List Nat) (a : Act) (w : World), (∀ i ∈ l, i ∉ cs) → wpOps P ops (SegQ (wpJ P ops Q B cs r) Q) l a w → wpJ P ops Q B cs (l ++ r) a w
  | [], a, w, _, h => h.1 rfl
  | i :: l, a, w, hl, h => by
    rw [wpOps_cons] at h
    exact wpOp_mono (fun a' w' h' => ⟨fun e => absurd e (hl i (List.mem_cons_self ..)), wpJ_seg hQ l a' w' (fun k hk => hl k (List.mem_cons_of_mem _ hk)) h'⟩) (wpOp_seg hQ h)
/-- Such a call. -/
theorem wpJ_call (hQ : Calm Q) {r : List Nat} (i : Nat) (a : Act) (w : World) (h : wpOps P ops (SegQ (fun a' w' => Keep B w w' ∧ wpJ P ops Q B cs r a' w') Q) [i] a w) : wpJ P ops Q B cs (i :: r) a w := by
  rw [wpOps_cons] at h
  exact wpOp_mono (fun a' w' h' => by
    have h2 := h'.1 rfl
    exact ⟨fun _ => h2.1, h2.2⟩) (wpOp_seg hQ h)
theorem wpJ_last (hQ : Calm Q) : ∀ (l : List Nat) (a : Act) (w : World), (∀ i ∈ l, i ∉ cs) → wpOps P ops Q l a w → wpJ P ops Q B cs l a w
  | [], a, w, _, h => h
  | i :: l, a, w, hl, h => by
    rw [wpOps_cons] at h
    exact wpOp_mono (fun a' w' h' => ⟨fun e => absurd e (hl i (List.mem_cons_self ..)), wpJ_last hQ l a' w' (fun k hk => hl k (List.mem_cons_of_mem _ hk)) h'⟩) h
end
section
variable {P : Program} {Q : Exit → Act → World → Prop}
/-- **The region out of the walk that tells what the calls leave.** -/
theorem any_J (B : Nat → Prop) (ms cs : List Nat) {l : List Oper} {a : Act} {w : World} (hok : porOkM P ms cs l.toArray = true) (hQ : Calm Q)
    (h : wpJ P l.toArray (ChkM B ms l.toArray Q) B cs (List.range' 0 l.length) a w.drew) : wpAny P .any l.toArray Q l.toArray.size (Array.replicate l.toArray.size false) a w.drew := by
  unfold porOkM at hok
  simp only [Bool.and_eq_true, List.all_eq_true, List.mem_range] at hok
  obtain ⟨⟨hs, hcs⟩, hall⟩ := hok
  refine por_anyM (B := B) (ms := ms) hQ hs hcs (fun j o ho e he hb => ?_) (fun i k hik hk x hx hn => ?_) (fun i j hij hj => ?_) _ _ a _ (by simp) ?_ ?_ ?_
  · have hjn : j < l.toArray.size := (Array.getElem?_eq_some_iff.1 ho).1
    have h1 := (hall j hjn).1
    rw [ho] at h1
    simp only [Bool.and_eq_true] at h1
    have h2 := (Array.all_eq_true_iff_forall_mem.1 h1.1) e he
    simpa [hb] using h2
  · have hin : i < l.toArray.size := (Array.getElem?_eq_some_iff.1 hx).1
    have h1 := (hall i hin).1
    rw [hx] at h1
    have hn' : (needs x || ms.contains i) = true := by
      rcases hn with hn | hn
      · rw [hn]; rfl
      · simp [hn]
    simp only [Bool.and_eq_true, hn', Bool.not_true, Bool.false_or, List.all_eq_true, List.mem_range] at h1
    have h2 := h1.2 (k - i) (by omega)
    rwa [show i + (k - i) = k by omega] at h2
  · have h1 := (hall j hj).2 i hij
    simpa using h1
  · intro j oj hj hl
    rw [getD_replicate_false'] at hl
    cases hl
  · refine Nat.le_trans (List.length_filter_le _ _) (by simp)
  · have hu : unl l.toArray (Array.replicate l.toArray.size false) = List.range l.toArray.size := List.filter_eq_self.2 fun i hi => by
      have := List.mem_range.1 hi
      simp at this
      simp [this]
    rw [hu, List.range_eq_range', List.size_toArray]
    exact h
theorem pieces {ops : Array Oper} (l : List Oper) : ∀ k, (∀ j, j < l.length → l[j]? = ops[k + j]?) → wpOps P ops Q (List.range' k l.length) = wpList P ops Q l := by
  induction l with
  | nil => intro k _; funext a w; simp [wpOps, wpList]
  | cons o l ih =>
    intro k h
    have h0 : ops[k]? = some o := by simpa using (h 0 (by simp)).symm
    have ih' := ih (k + 1) (fun j hj => by have := h (j + 1) (by simp; omega); simpa [Nat.add_assoc, Nat.add_comm 1 j] using this)
    funext a w
    rw [List.length_cons, List.range'_succ, wpOps, wpList, h0]
    simp only [ih']
theorem range_cut (n k : Nat) (h : k ≤ n) : List.range' 0 n = List.range' 0 k ++ List.range' k (n - k) := by
  have := List.range'_append (s := 0) (m := k) (n := n - k) (step := 1)
  simp at this
  rw [this, Nat.add_sub_cancel' h]
theorem piece_take {l : List Oper} {k : Nat} (h : k ≤ l.length) : wpOps P l.toArray Q (List.range' 0 k) = wpList P l.toArray Q (l.take k) := by
  have := pieces (P := P) (Q := Q) (ops := l.toArray) (l.take k) 0 fun j hj => by
    rw [List.length_take] at hj
    rw [List.getElem?_take_of_lt (by omega)]
    simp
  rwa [List.length_take, Nat.min_eq_left h] at this
theorem piece_mid {l : List Oper} (k n : Nat) (h : k + n ≤ l.length) : wpOps P l.toArray Q (List.range' k n) = wpList P l.toArray Q ((l.drop k).take n) := by
  have := pieces (P := P) (Q := Q) (ops := l.toArray) ((l.drop k).take n) k fun j hj => by
    rw [List.length_take, List.length_drop] at hj
    rw [List.getElem?_take_of_lt (by omega), List.getElem?_drop]
    simp
  rwa [List.length_take, List.length_drop, Nat.min_eq_left (by omega)] at this
theorem piece_drop {l : List Oper} (k : Nat) : wpOps P l.toArray Q (List.range' k (l.length - k)) = wpList P l.toArray Q (l.drop k) := by
  have := pieces (P := P) (Q := Q) (ops := l.toArray) (l.drop k) k fun j hj => by
    rw [List.getElem?_drop]
    simp
  rwa [List.length_drop] at this
theorem wpOp_post {ops : Array Oper} {Q' : Exit → Act → World → Prop} (hq : ∀ e a w, Q e a w → Q' e a w) {j : Nat} {K : Act → World → Prop} {a : Act} {w : World} (h1 : wpOp P ops Q j K a w) : wpOp P ops Q' j K a w := by
  have hl : LetsOut Q → LetsOut Q' := fun ⟨a0, w0, h⟩ => ⟨a0, w0, hq _ _ _ h⟩
  unfold wpOp at h1 ⊢
  cases hoj : ops[j]? with
  | none => rw [hoj] at h1; exact h1
  | some oj =>
    rw [hoj] at h1
    simp only at h1 ⊢
    split
    · rename_i hw
      rw [if_pos hw] at h1
      rcases h1 with h1 | ⟨h0, h1⟩
      · refine .inl ?_
        unfold Oper.wp at h1 ⊢
        generalize (execOp a.eval oj).run P w = r at h1 ⊢
        cases r with
        | ok n w' =>
          cases n <;> simp only [Oper.upon] at h1 ⊢ <;> first
            | exact h1
            | exact Calls.mono h1 fun e w'' he => by
                cases e with
                | returned v => exact he
                | panicked c => exact hq _ _ _ he
                | outgrown => exact hl he
        | halt x w' =>
          cases x <;> simp only [Oper.upon] at h1 ⊢
          exact hq _ _ _ h1
      · exact .inr ⟨h0, hl h1⟩
    · rename_i hw
      rw [if_neg hw] at h1
      exact h1
theorem wpOps_post {ops : Array Oper} {Q' : Exit → Act → World → Prop} (hq : ∀ e a w, Q e a w → Q' e a w) : ∀ (l : List Nat) (a : Act) (w : World), wpOps P ops Q l a w → wpOps P ops Q' l a w
  | [], a, w, h => hq _ _ _ h
  | i :: l, a, w, h => by
    rw [wpOps_cons] at h ⊢
    exact wpOp_post hq (wpOp_mono (fun a' w' h' => wpOps_post hq l a' w' h') h)
section
variable {l : List Oper} {B : Nat → Prop} {cs : List Nat} {r : List Nat} {Y : Act → World → Prop} {a : Act} {w : World}
theorem J_call (hQ : Calm Q) (c : Nat) (hc : c < l.length) (hy : ∀ a w, Y a w → wpJ P l.toArray Q B cs r a w) (h : wpList P l.toArray (SegQ (fun a2 w2 => Keep B w w2 ∧ Y a2 w2) Q) ((l.drop c).take 1) a w) : wpJ P l.toArray Q B cs (c :: r) a w := by
  refine wpJ_call hQ c a w ?_
  rw [← piece_mid c 1 (by omega)] at h
  exact wpOps_post (fun e a2 w2 hq => ⟨fun he => ⟨(hq.1 he).1, hy _ _ (hq.1 he).2⟩, hq.2⟩) [c] a w h
theorem J_piece (hQ : Calm Q) (k n : Nat) (hc : k + n ≤ l.length) (hcs : ∀ c ∈ cs, c < k ∨ k + n ≤ c) (hy : ∀ a w, Y a w → wpJ P l.toArray Q B cs r a w) (h : wpList P l.toArray (SegQ Y Q) ((l.drop k).take n) a w) : wpJ P l.toArray Q B cs (List.range' k n ++ r) a w := by
  refine wpJ_seg hQ _ a w (fun i hi hm => by have := List.mem_range'.1 hi; have := hcs i hm; omega) ?_
  rw [← piece_mid k n hc] at h
  exact wpOps_post (fun e a2 w2 hq => ⟨fun he => hy _ _ (hq.1 he), hq.2⟩) _ a w h
theorem J_last (hQ : Calm Q) (k : Nat) (hcs : ∀ c ∈ cs, c < k) (h : wpList P l.toArray Q (l.drop k) a w) : wpJ P l.toArray Q B cs (List.range' k (l.length - k)) a w := by
  rw [← piece_drop k] at h
  exact wpJ_last hQ _ a w (fun i hi hm => by have := List.mem_range'.1 hi; have := hcs i hm; omega) h
end
/-- One such call, operation c. -/
theorem any_one (B : Nat → Prop) (ms : List Nat) (c : Nat) {l : List Oper} {a : Act} {w : World} (hok : porOkM P ms [c] l.toArray = true) (hc : decide (c < l.length) = true) (hQ : Calm Q)
    (h : wpList P l.toArray (SegQ (fun a1 w1 => wpList P l.toArray (SegQ (fun a2 w2 => Keep B w1 w2 ∧ wpList P l.toArray (ChkM B ms l.toArray Q) (l.drop (c + 1)) a2 w2) (ChkM B ms l.toArray Q)) ((l.drop c).take 1) a1 w1) (ChkM B ms l.toArray Q)) ((l.drop 0).take c) a w.drew) :
    wpAny P .any l.toArray Q l.toArray.size (Array.replicate l.toArray.size false) a w.drew := by
  have hc := of_decide_eq_true hc
  refine any_J B ms [c] hok hQ ?_
  have hC := ChkM.calm (B := B) (ms := ms) (ops := l.toArray) hQ
  have e : List.range' 0 l.length = List.range' 0 c ++ c :: List.range' (c + 1) (l.length - (c + 1)) := by
    rw [range_cut l.length c (by omega), show l.length - c = (l.length - (c + 1)) + 1 by omega, List.range'_succ]
  rw [e]
  exact J_piece hC 0 c (by omega) (fun i hi => by simp at hi; omega) (fun a1 w1 h1 => J_call hC c hc (fun a2 w2 h2 => J_last hC (c + 1) (fun i hi => by simp at hi; omega) h2) h1) h
theorem wp_region_one (id : Nat) (B : Nat → Prop) (ms : List Nat) (c : Nat) {l : List Oper} {a : Act} {w : World} (hm : P.follows .mixedOrders = true) (hok : porOkM P ms [c] l.toArray = true) (hc : decide (c < l.length) = true) (hQ : Calm Q)
    (h : wpList P l.toArray (SegQ (fun a1 w1 => wpList P l.toArray (SegQ (fun a2 w2 => Keep B w1 w2 ∧ wpList P l.toArray (ChkM B ms l.toArray Q) (l.drop (c + 1)) a2 w2) (ChkM B ms l.toArray Q)) ((l.drop c).take 1) a1 w1) (ChkM B ms l.toArray Q)) ((l.drop 0).take c) a w.drew) :
    (Code.region id l.toArray true).wp P Q a w := wp_region_any hm (any_one B ms c hok hc hQ h)
/-- Two such calls. -/
theorem any_two (B : Nat → Prop) (ms : List Nat) (c d : Nat) {l : List Oper} {a : Act} {w : World} (hok : porOkM P ms [c, d] l.toArray = true) (hc : decide (c < d ∧ d < l.length) = true) (hQ : Calm Q)
    (h : wpList P l.toArray (SegQ (fun a1 w1 => wpList P l.toArray (SegQ (fun a2 w2 => Keep B w1 w2 ∧
      wpList P l.toArray (SegQ (fun a3 w3 => wpList P l.toArray (SegQ (fun a4 w4 => Keep B w3 w4 ∧ wpList P l.toArray (ChkM B ms l.toArray Q) (l.drop (d + 1)) a4 w4) (ChkM B ms l.toArray Q)) ((l.drop d).take 1) a3 w3) (ChkM B ms l.toArray Q)) ((l.drop (c + 1)).take (d - (c + 1))) a2 w2) (ChkM B ms l.toArray Q))
      ((l.drop c).take 1) a1 w1) (ChkM B ms l.toArray Q)) ((l.drop 0).take c) a w.drew) :
    wpAny P .any l.toArray Q l.toArray.size (Array.replicate l.toArray.size false) a w.drew := by
  obtain ⟨hcd, hd⟩ := of_decide_eq_true hc
  refine any_J B ms [c, d] hok hQ ?_
  have hC := ChkM.calm (B := B) (ms := ms) (ops := l.toArray) hQ
  have e : List.range' 0 l.length = List.range' 0 c ++ c :: (List.range' (c + 1) (d - (c + 1)) ++ d :: List.range' (d + 1) (l.length - (d + 1))) := by
    have e1 : List.range' (c + 1) (d - (c + 1)) ++ List.range' d (l.length - d) = List.range' (c + 1) (l.length - (c + 1)) := by
      have := List.range'_append (s := c + 1) (m := d - (c + 1)) (n := l.length - d) (step := 1)
      rw [Nat.one_mul, show c + 1 + (d - (c + 1)) = d by omega, show d - (c + 1) + (l.length - d) = l.length - (c + 1) by omega] at this
      exact this
    rw [range_cut l.length c (by omega), show l.length - c = (l.length - (c + 1)) + 1 by omega, List.range'_succ, ← e1, show l.length - d = (l.length - (d + 1)) + 1 by omega, List.range'_succ]
  rw [e]
  exact J_piece hC 0 c (by omega) (fun i hi => by simp at hi; omega) (fun a1 w1 h1 => J_call hC c (by omega) (fun a2 w2 h2 =>
    J_piece hC (c + 1) (d - (c + 1)) (by omega) (fun i hi => by simp at hi; omega) (fun a3 w3 h3 => J_call hC d hd (fun a4 w4 h4 => J_last hC (d + 1) (fun i hi => by simp at hi; omega) h4) h3) h2) h1) h
theorem wp_region_two (id : Nat) (B : Nat → Prop) (ms : List Nat) (c d : Nat) {l : List Oper} {a : Act} {w : World} (hm : P.follows .mixedOrders = true) (hok : porOkM P ms [c, d] l.toArray = true) (hc : decide (c < d ∧ d < l.length) = true) (hQ : Calm Q)
    (h : wpList P l.toArray (SegQ (fun a1 w1 => wpList P l.toArray (SegQ (fun a2 w2 => Keep B w1 w2 ∧
      wpList P l.toArray (SegQ (fun a3 w3 => wpList P l.toArray (SegQ (fun a4 w4 => Keep B w3 w4 ∧ wpList P l.toArray (ChkM B ms l.toArray Q) (l.drop (d + 1)) a4 w4) (ChkM B ms l.toArray Q)) ((l.drop d).take 1) a3 w3) (ChkM B ms l.toArray Q)) ((l.drop (c + 1)).take (d - (c + 1))) a2 w2) (ChkM B ms l.toArray Q))
      ((l.drop c).take 1) a1 w1) (ChkM B ms l.toArray Q)) ((l.drop 0).take c) a w.drew) :
    (Code.region id l.toArray true).wp P Q a w := wp_region_any hm (any_two B ms c d hok hc hQ h)
/-- The addresses of those loads, at the end. -/
def markVals (ops : Array Oper) (a : Act) (ms : List Nat) : List Value := ms.filterMap fun m => (ops[m]?.bind loadAddr).map a.eval
theorem chkM_end (B : Nat → Prop) {ms : List Nat} {os : Array Oper} {a : Act} {w : World} (h : chk os a = true) (vs : List Value) (hv : markVals os a ms = vs) (hg : ∀ v ∈ vs, goodAddr B v) (k : Q .normal a w) : ChkM B ms os Q .normal a w :=
  ⟨fun _ => ⟨h, fun m hm o x ho hx => hg _ (by rw [← hv]; exact List.mem_filterMap.2 ⟨m, hm, by simp [ho, hx]⟩)⟩, k⟩
theorem calm_chkM {B : Nat → Prop} {ms : List Nat} {os : Array Oper} (h : Calm Q) : Calm (ChkM B ms os Q) := ChkM.calm h
theorem calm_seg {X : Act → World → Prop} (h : Calm Q) : Calm (SegQ X Q) := SegQ.calm h
theorem Keep.one {S : Nat → Prop} {w w' : World} {a : Nat} {t : TypeId} {cs : Array Value} (hm : Mods S w w') (h : Cells w a t cs) (n : ¬ S a) : Keep (fun g => g = a) w w' :=
  Keep.of hm fun b hb => by subst hb; exact ⟨n, _, _, h⟩
theorem Keep.two {S : Nat → Prop} {w w' : World} {a b : Nat} {t t' : TypeId} {cs cs' : Array Value} (hm : Mods S w w') (h : Cells w a t cs) (n : ¬ S a) (h' : Cells w b t' cs') (n' : ¬ S b) : Keep (fun g => g = a ∨ g = b) w w' :=
  Keep.of hm fun g hg => by
    rcases hg with rfl | rfl
    · exact ⟨n, _, _, h⟩
    · exact ⟨n', _, _, h'⟩
end
end Go.Tum
