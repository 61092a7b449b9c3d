/- Frames whose numbers are their places: what becomes of them; no program here. -/
import Derived.Test.YtmfpgghpnkmkpaaDoorSinkT
namespace Go.Tum
/-- frames numbered from k on -/
def idd (k : Nat) : List (List UInt8) → List (Int × List UInt8)
  | [] => []
  | b :: r => ((k : Int), b) :: idd (k + 1) r
theorem idd_length : ∀ (l : List (List UInt8)) (k : Nat), (idd k l).length = l.length
  | [], _ => rfl
  | _ :: r, k => by simp [idd, idd_length r (k + 1)]
theorem idd_at : ∀ (l : List (List UInt8)) (k i : Nat), (idd k l)[i]? = l[i]?.map fun b => (((k + i : Nat) : Int), b)
  | [], _, _ => by simp [idd]
  | b :: r, k, 0 => by simp [idd]
  | b :: r, k, i + 1 => by
    have := idd_at r (k + 1) i
    rw [show k + 1 + i = k + (i + 1) by omega] at this
    simpa [idd] using this
end Go.Tum
namespace Go.Proofs.YtmfpgghpnkmkpaaDoor
open Go.Tum
theorem wt_idd : ∀ (l : List (List UInt8)) (k : Nat), wt (idd k l) = (l.map fun b => b.length + 1).sum
  | [], _ => rfl
  | b :: r, k => by
    have := wt_idd r (k + 1)
    simp only [wt] at this
    simp [wt, idd, this]
def after (plan : Plan) (l : List (List UInt8)) (i : Nat) : SinkS := runs plan ((idd 0 l).take i)
theorem after_zero (plan : Plan) (l : List (List UInt8)) : after plan l 0 = s0 := rfl
theorem after_succ (plan : Plan) (l : List (List UInt8)) (i : Nat) (b : List UInt8) (h : l[i]? = some b) : after plan l (i + 1) = (frame plan (after plan l i) i b).1 := by
  have e : (idd 0 l)[i]? = some ((i : Int), b) := by rw [idd_at, h]; simp
  unfold after
  rw [List.take_add_one, e]
  exact runs_snoc plan _ ((i : Int), b)
theorem after_bnd (plan : Plan) (l : List (List UInt8)) (i : Nat) : Bnd (after plan l i) ((l.map fun b => b.length + 1).sum) := by
  rw [← wt_idd l 0]
  exact (runs_bnd plan _).le (wt_take _ _)
/-- What holds of the sink after i frames. -/
structure Named (l : List (List UInt8)) (i : Nat) (s : SinkS) : Prop where
  last : s.any = true → s.last < i
  count : s.whole.length + s.lost.length = i
  wlt : ∀ x ∈ s.whole, 0 ≤ x ∧ x < i
  llt : ∀ x ∈ s.lost, 0 ≤ x ∧ x < i
  wup : s.whole.Pairwise (· < ·)
  lup : s.lost.Pairwise (· < ·)
  one : ∀ j : Nat, j < i → ((j : Int) ∈ s.whole ∧ (j : Int) ∉ s.lost) ∨ ((j : Int) ∉ s.whole ∧ (j : Int) ∈ s.lost ∧ ∀ b, l[j]? = some b → b.length ≠ 0)
  conns : s.conns.length ≤ i
  failed : ∀ c ∈ s.conns.dropLast, c.failed = true
theorem send_conns (plan : Plan) (s : SinkS) (b : List UInt8) (h : ∀ c ∈ s.conns.dropLast, c.failed = true) : (send plan s b).1.conns.length ≤ s.conns.length + 1 ∧ ∀ c ∈ (send plan s b).1.conns.dropLast, c.failed = true := by
  unfold send
  split
  · exact ⟨Nat.le_succ _, h⟩
  · have hl := opened_len s.conns
    obtain ⟨base, acc, e1, e2, e3, e4⟩ := opened_snoc s.conns
    refine ⟨?_, fun c hc => ?_⟩
    · dsimp only
      rw [e3, List.length_append, List.length_singleton]
      rw [e1, List.length_append, List.length_singleton] at hl
      exact hl
    · dsimp only at hc
      rw [List.dropLast_concat] at hc
      unfold opened at hc
      split at hc
      · exact h c hc
      · rename_i ho
        rw [List.dropLast_concat] at hc
        rcases List.eq_nil_or_concat s.conns with e | ⟨r, x, e⟩
        · rw [e] at hc; cases hc
        · rw [List.concat_eq_append] at e
          rw [e] at hc ho h
          rw [List.dropLast_concat] at h
          rcases List.mem_append.1 hc with h1 | h1
          · exact h c h1
          · simp only [List.mem_singleton] at h1
            subst h1
            simpa [lastOpen] using ho
theorem frame_parts {plan : Plan} {s : SinkS} {id : Int} {b : List UInt8} (h : ¬(s.any = true ∧ id ≤ s.last)) :
    (frame plan s id b).1.conns = (send plan { s with any := true, last := id } b).1.conns ∧
    (((frame plan s id b).1.whole = s.whole ++ [id] ∧ (frame plan s id b).1.lost = s.lost) ∨ ((frame plan s id b).1.whole = s.whole ∧ (frame plan s id b).1.lost = s.lost ++ [id] ∧ b.length ≠ 0)) := by
  have hsw : ∀ s0, (send plan s0 b).1.whole = s0.whole ∧ (send plan s0 b).1.lost = s0.lost := fun s0 => by unfold send; split <;> exact ⟨rfl, rfl⟩
  have hz : b.length = 0 → (send plan { s with any := true, last := id } b).2 = true := fun e => by unfold send; rw [if_pos e]
  have h3 := hsw { s with any := true, last := id }
  unfold frame
  rw [if_neg h]
  dsimp only at h3 ⊢
  split
  · exact ⟨rfl, .inl ⟨by rw [h3.1], h3.2⟩⟩
  · rename_i hn
    exact ⟨rfl, .inr ⟨h3.1, by rw [h3.2], fun e => hn (hz e)⟩⟩
theorem up_snoc {l : List Int} {x : Int} (h : l.Pairwise (· < ·)) (hx : ∀ y ∈ l, y < x) : (l ++ [x]).Pairwise (· < ·) := by
  rw [List.pairwise_append]
  refine ⟨h, List.pairwise_singleton _ _, fun a ha b hb => ?_⟩
  simp only [List.mem_singleton] at hb
  subst hb
  exact hx a ha
theorem Named.next {plan : Plan} {l : List (List UInt8)} {i : Nat} {s : SinkS} {b : List UInt8} (h : Named l i s) (hb : l[i]? = some b) : Named l (i + 1) (frame plan s i b).1 ∧ (frame plan s i b).2 = 0 := by
  have hn : ¬(s.any = true ∧ (i : Int) ≤ s.last) := fun e => by have := h.last e.1; omega
  obtain ⟨f1, f2, f3⟩ := frame_ok (plan := plan) (b := b) hn
  obtain ⟨g1, g2⟩ := frame_parts (plan := plan) (b := b) hn
  have hc := send_conns plan { s with any := true, last := (i : Int) } b h.failed
  rw [← g1] at hc
  have hw : ∀ x ∈ s.whole, x < i := fun x hx => (h.wlt x hx).2
  have hl : ∀ x ∈ s.lost, x < i := fun x hx => (h.llt x hx).2
  have hcl : (frame plan s i b).1.conns.length ≤ i + 1 := Nat.le_trans hc.1 (Nat.succ_le_succ h.conns)
  have hla : (frame plan s i b).1.any = true → (frame plan s i b).1.last < (i + 1 : Nat) := fun _ => by rw [f3]; omega
  generalize (frame plan s i b).1 = s' at f2 f3 g1 g2 hc hcl hla
  refine ⟨?_, f1⟩
  rcases g2 with ⟨e1, e2⟩ | ⟨e1, e2, e3⟩
  · refine ⟨hla, ?_, ?_, ?_, ?_, ?_, ?_, hcl, hc.2⟩
    · rw [e1, e2, List.length_append, List.length_singleton]; have := h.count; omega
    · rw [e1]; intro x hx
      rcases List.mem_append.1 hx with h1 | h1
      · have := h.wlt x h1; omega
      · simp only [List.mem_singleton] at h1; omega
    · rw [e2]; intro x hx; have := h.llt x hx; omega
    · rw [e1]; exact up_snoc h.wup hw
    · rw [e2]; exact h.lup
    · rw [e1, e2]; intro j hj
      rcases Nat.lt_or_ge j i with h1 | h1
      · rcases h.one j h1 with ⟨a, b⟩ | ⟨a, b, c⟩
        · exact .inl ⟨List.mem_append_left _ a, b⟩
        · refine .inr ⟨fun e => ?_, b, c⟩
          rcases List.mem_append.1 e with h2 | h2
          · exact a h2
          · simp only [List.mem_singleton] at h2; omega
      · obtain rfl : j = i := by omega
        exact .inl ⟨by simp, fun e => by have := hl _ e; omega⟩
  · refine ⟨hla, ?_, ?_, ?_, ?_, ?_, ?_, hcl, hc.2⟩
    · rw [e1, e2, List.length_append, List.length_singleton]; have := h.count; omega
    · rw [e1]; intro x hx; have := h.wlt x hx; omega
    · rw [e2]; intro x hx
      rcases List.mem_append.1 hx with h1 | h1
      · have := h.llt x h1; omega
      · simp only [List.mem_singleton] at h1; omega
    · rw [e1]; exact h.wup
    · rw [e2]; exact up_snoc h.lup hl
    · rw [e1, e2]; intro j hj
      rcases Nat.lt_or_ge j i with h1 | h1
      · rcases h.one j h1 with ⟨a, b⟩ | ⟨a, b, c⟩
        · refine .inl ⟨a, fun e => ?_⟩
          rcases List.mem_append.1 e with h2 | h2
          · exact b h2
          · simp only [List.mem_singleton] at h2; omega
        · exact .inr ⟨a, List.mem_append_left _ b, c⟩
      · obtain rfl : j = i := by omega
        refine .inr ⟨fun e => by have := hw _ e; omega, by simp, fun b' hb' => ?_⟩
        rw [hb] at hb'
        injection hb' with hb'
        subst hb'
        exact e3
theorem named (plan : Plan) (l : List (List UInt8)) : ∀ i, i ≤ l.length → Named l i (after plan l i)
  | 0, _ => ⟨fun e => by simp [after_zero, s0] at e, rfl, fun x h => by simp [after_zero, s0] at h, fun x h => by simp [after_zero, s0] at h, by simp [after_zero, s0], by simp [after_zero, s0], fun j hj => by omega, Nat.zero_le _, fun c h => by simp [after_zero, s0] at h⟩
  | i + 1, hi => by
    have h := named plan l i (by omega)
    obtain ⟨b, hb⟩ : ∃ b, l[i]? = some b := ⟨_, List.getElem?_eq_getElem (by omega)⟩
    rw [after_succ plan l i b hb]
    exact (h.next hb).1
end Go.Proofs.YtmfpgghpnkmkpaaDoor
