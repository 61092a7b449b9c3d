/- A relay in plain Lean: what all stations hold, have sent and dropped. No program here. -/
import Derived.Test.YtcifajfmdpjfiaaDoorMPl
namespace Go.Tum
def sz (s : Stn) : Nat := s.L.length + s.sent + s.dropped
def tot (S : List Stn) : Nat := (S.map sz).sum
def snt (S : List Stn) : Nat := (S.map (·.sent)).sum
theorem tot_cons (s : Stn) (S : List Stn) : tot (s :: S) = sz s + tot S := by unfold tot; rw [List.map_cons, List.sum_cons]
theorem snt_cons (s : Stn) (S : List Stn) : snt (s :: S) = s.sent + snt S := by unfold snt; rw [List.map_cons, List.sum_cons]
theorem tot_modify {f : Stn → Stn} (hf : ∀ s, sz (f s) = sz s + 1) : ∀ (S : List Stn) (i : Nat), i < S.length → tot (S.modify i f) = tot S + 1
  | s :: S, 0, _ => by rw [show (s :: S).modify 0 f = f s :: S from rfl, tot_cons, tot_cons, hf]; omega
  | s :: S, i + 1, h => by
    have ih := tot_modify hf S i (by simpa using h)
    rw [show (s :: S).modify (i + 1) f = s :: S.modify i f from rfl, tot_cons, tot_cons, ih]; omega
theorem snt_modify {f : Stn → Stn} (hf : ∀ s, (f s).sent = s.sent) : ∀ (S : List Stn) (i : Nat), snt (S.modify i f) = snt S
  | [], i => by cases i <;> rfl
  | s :: S, 0 => by rw [show (s :: S).modify 0 f = f s :: S from rfl, snt_cons, snt_cons, hf]
  | s :: S, i + 1 => by rw [show (s :: S).modify (i + 1) f = s :: S.modify i f from rfl, snt_cons, snt_cons, snt_modify hf S i]
theorem sz_deal {H : Nat} (h : 1 ≤ H) (nw : Bool) (x : Rcd) (s : Stn) : sz (deal H nw x s) = sz s + 1 := by
  unfold deal sz
  split
  · simp; omega
  · split
    · dsimp only; omega
    · simp; omega
theorem sent_deal (H : Nat) (nw : Bool) (x : Rcd) (s : Stn) : (deal H nw x s).sent = s.sent := by
  unfold deal
  split
  · rfl
  · split <;> rfl
theorem tot_deal {H : Nat} (h : 1 ≤ H) (nw : Bool) {N : List Tx} (hN : Strict ltT N) (x : Rcd) : ∀ (l : List Tx) (S : List Stn), S.length = N.length → (∀ s ∈ l, s ∈ N) → tot (dealAll H nw N x l S) = tot S + l.length
  | [], S, _, _ => rfl
  | s :: l, S, hS, hl => by
    have hp : posT N s < S.length := by rw [hS]; exact (List.getElem?_eq_some_iff.1 (pos_of hN (hl s (by simp)))).1
    have ih := tot_deal h nw hN x l (S.modify (posT N s) (deal H nw x)) (by rw [List.length_modify]; exact hS) fun t ht => hl t (List.mem_cons_of_mem _ ht)
    rw [show dealAll H nw N x (s :: l) S = dealAll H nw N x l (S.modify (posT N s) (deal H nw x)) from rfl, ih, tot_modify (sz_deal h nw x) S _ hp, List.length_cons]
    omega
theorem snt_deal (H : Nat) (nw : Bool) (N : List Tx) (x : Rcd) : ∀ (l : List Tx) (S : List Stn), snt (dealAll H nw N x l S) = snt S
  | [], S => rfl
  | s :: l, S => by rw [show dealAll H nw N x (s :: l) S = dealAll H nw N x l (S.modify (posT N s) (deal H nw x)) from rfl, snt_deal H nw N x l, snt_modify (sent_deal H nw x)]
theorem tot_set {s' st : Stn} (h : sz s' = sz st) : ∀ (S : List Stn) (k : Nat), S[k]? = some st → tot (S.set k s') = tot S
  | s :: S, 0, e => by
    injection e with e
    subst e
    rw [List.set_cons_zero, tot_cons, tot_cons, h]
  | s :: S, k + 1, e => by
    rw [List.set_cons_succ, tot_cons, tot_cons, tot_set h S k (by simpa using e)]
theorem snt_set {s' st : Stn} {m : Nat} (h : s'.sent = st.sent + m) : ∀ (S : List Stn) (k : Nat), S[k]? = some st → snt (S.set k s') = snt S + m
  | s :: S, 0, e => by
    injection e with e
    subst e
    rw [List.set_cons_zero, snt_cons, snt_cons, h]; omega
  | s :: S, k + 1, e => by
    have ih := snt_set h S k (by simpa using e)
    rw [List.set_cons_succ, snt_cons, snt_cons, ih]; omega
theorem tot_snoc (S : List Stn) (s : Stn) : tot (S ++ [s]) = tot S + sz s := by unfold tot; simp
theorem snt_snoc (S : List Stn) (s : Stn) : snt (S ++ [s]) = snt S + s.sent := by unfold snt; simp
theorem tot_mem {S : List Stn} {s : Stn} (h : s ∈ S) : sz s ≤ tot S := by
  induction S with
  | nil => cases h
  | cons a S ih =>
    rw [tot_cons]
    rcases List.mem_cons.1 h with rfl | h
    · omega
    · have := ih h; omega
theorem tot_take_le (S : List Stn) (k : Nat) : tot (S.take k) ≤ tot S := by
  have h : ∀ A B : List Stn, tot (A ++ B) = tot A + tot B := fun A B => by unfold tot; rw [List.map_append, List.sum_append]
  have h2 := h (S.take k) (S.drop k)
  rw [List.take_append_drop] at h2
  omega
theorem snt_le (S : List Stn) : snt S ≤ tot S := by
  induction S with
  | nil => exact Nat.le_refl _
  | cons s S ih => rw [tot_cons, snt_cons]; unfold sz; omega
theorem tot_new (n : Nat) : tot (List.replicate n stn0) = 0 := by unfold tot; simp [sz, stn0]
theorem snt_new (n : Nat) : snt (List.replicate n stn0) = 0 := by unfold snt; simp [stn0]
end Go.Tum
