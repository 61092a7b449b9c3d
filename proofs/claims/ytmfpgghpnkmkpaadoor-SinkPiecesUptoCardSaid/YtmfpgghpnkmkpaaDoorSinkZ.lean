/- Plans whose choices take a byte at least and do not fail; no program here. -/
import Derived.Test.YtmfpgghpnkmkpaaDoorSinkX
namespace Go.Proofs.YtmfpgghpnkmkpaaDoor
open Go.Tum
def Kind (plan : Plan) : Prop := ∀ wr n, 0 < n → (pick plan wr n).2 = false ∧ 0 < (pick plan wr n).1
theorem kind_nil : Kind [] := fun wr n h => by simp [pick, h]
theorem kind_counts (cs : List Int) : Kind (cs.map fun c => (max c 1, false)) := fun wr n h => by
  unfold pick
  rw [List.getElem?_map]
  cases cs[wr]? with
  | none => exact ⟨rfl, h⟩
  | some c =>
    refine ⟨rfl, ?_⟩
    dsimp only [Option.map]
    have : 1 ≤ (max c 1).toNat := by omega
    omega
theorem sendGo_kind {plan : Plan} (hp : Kind plan) : ∀ (f : Nat) (acc : List UInt8) (wr idle : Nat) (b : List UInt8), b.length ≤ f → ∃ wr', sendGo plan f acc wr idle b = (acc ++ b, wr', [], false) ∧ wr ≤ wr' ∧ (0 < b.length → wr < wr')
  | 0, acc, wr, idle, b, h => by
    obtain rfl : b = [] := List.eq_nil_of_length_eq_zero (by omega)
    exact ⟨wr, by simp [sendGo], Nat.le_refl _, fun h => absurd h (Nat.lt_irrefl 0)⟩
  | f + 1, acc, wr, idle, b, h => by
    rcases Nat.eq_zero_or_pos b.length with hz | hz
    · obtain rfl : b = [] := List.eq_nil_of_length_eq_zero hz
      exact ⟨wr, by simp [sendGo], Nat.le_refl _, fun h => absurd h (Nat.lt_irrefl 0)⟩
    · obtain ⟨k1, k2⟩ := hp wr b.length hz
      have k3 := pick_le plan wr b.length
      obtain ⟨wr', e, h1, _⟩ := sendGo_kind hp f (acc ++ b.take (pick plan wr b.length).1) (wr + 1) 0 (b.drop (pick plan wr b.length).1) (by simp; omega)
      refine ⟨wr', ?_, by omega, fun _ => by omega⟩
      unfold sendGo
      rw [if_neg (by omega), if_neg (by rw [k1]; simp), if_pos k2, e, List.append_assoc, List.take_append_drop]
theorem sendGo_nil (acc : List UInt8) (wr idle f : Nat) (b : List UInt8) (hb : 0 < b.length) (hf : 2 ≤ f) : sendGo [] f acc wr idle b = (acc ++ b, wr + 1, [], false) := by
  match f, hf with
  | f + 2, _ =>
    have k : pick [] wr b.length = (b.length, false) := by simp [pick]
    unfold sendGo
    rw [if_neg (by omega), k, if_neg (by simp), if_pos hb]
    simp [sendGo]
/-- all bytes of the frames -/
def allb (l : List (List UInt8)) : List UInt8 := l.flatten
/-- how many frames have bytes -/
def full (l : List (List UInt8)) : Nat := l.foldl (fun n b => if 0 < b.length then n + 1 else n) 0
theorem full_snoc (l : List (List UInt8)) (b : List UInt8) : full (l ++ [b]) = if 0 < b.length then full l + 1 else full l := by simp [full]
/-- What holds of a sink after i frames under such a plan. -/
structure Pieces (l : List (List UInt8)) (i : Nat) (s : SinkS) : Prop where
  conns : s.conns = if full (l.take i) = 0 then [] else [⟨allb (l.take i), false⟩]
  whole : s.whole = (List.range i).map fun (j : Nat) => (j : Int)
  lost : s.lost = []
  writes : full (l.take i) ≤ s.writes
theorem full_zero : ∀ {l : List (List UInt8)}, full l = 0 → allb l = [] := by
  intro l
  suffices h : ∀ (r : List (List UInt8)) n, r.foldl (fun n b => if 0 < b.length then n + 1 else n) n = 0 → n = 0 ∧ r.flatten = [] from fun e => (h l 0 e).2
  intro r
  induction r with
  | nil => intro n h; exact ⟨h, rfl⟩
  | cons b r ih =>
    intro n h
    have := ih _ h
    dsimp only at this
    split at this
    · omega
    · refine ⟨this.1, ?_⟩
      rw [List.flatten_cons, this.2, List.append_nil]
      exact List.eq_nil_of_length_eq_zero (by omega)
theorem send_kind {plan : Plan} (hp : Kind plan) {s : SinkS} {l : List (List UInt8)} {b : List UInt8} (hc : s.conns = if full l = 0 then [] else [⟨allb l, false⟩]) (hw : full l ≤ s.writes) :
    (send plan s b).2 = true ∧ (send plan s b).1.conns = (if full (l ++ [b]) = 0 then [] else [⟨allb (l ++ [b]), false⟩]) ∧ full (l ++ [b]) ≤ (send plan s b).1.writes ∧
    (plan = [] → s.writes = full l → (send plan s b).1.writes = full (l ++ [b])) := by
  rcases Nat.eq_zero_or_pos b.length with hz | hz
  · have e9 : full (l ++ [b]) = full l := by rw [full_snoc, if_neg (by omega)]
    have e : send plan s b = (s, true) := by unfold send; rw [if_pos hz]
    have hb : b = [] := List.eq_nil_of_length_eq_zero hz
    rw [e, e9]
    refine ⟨rfl, ?_, hw, fun _ h => h⟩
    rw [hc, hb]
    simp [allb]
  · have ho : opened s.conns = [⟨allb l, false⟩] := by
      rw [hc]
      by_cases h : full l = 0
      · rw [if_pos h, full_zero h]; rfl
      · rw [if_neg h]; rfl
    obtain ⟨wr', e, h1, h2⟩ := sendGo_kind hp (fuel b) (allb l) s.writes 0 b (by unfold fuel; omega)
    have hl : lastBytes [(⟨allb l, false⟩ : ConnS)] = allb l := rfl
    have e9 : full (l ++ [b]) = full l + 1 := by rw [full_snoc, if_pos hz]
    rw [e9]
    unfold send
    rw [if_neg (by omega), ho, hl]
    dsimp only
    rw [e]
    refine ⟨rfl, ?_, ?_, fun hpl hwr => ?_⟩
    · rw [if_neg (by omega)]
      simp [allb]
    · have := h2 hz
      dsimp only
      omega
    · subst hpl
      rw [sendGo_nil _ _ _ _ _ hz (by unfold fuel; omega)] at e
      injection e with _ e
      injection e with e _
      dsimp only
      omega
theorem pieces {plan : Plan} (hp : Kind plan) (l : List (List UInt8)) : ∀ i, i ≤ l.length → Pieces l i (after plan l i) ∧ (plan = [] → (after plan l i).writes = full (l.take i))
  | 0, _ => ⟨⟨by simp [after_zero, s0, full], rfl, rfl, by simp [full]⟩, fun _ => by simp [after_zero, s0, full]⟩
  | i + 1, hi => by
    obtain ⟨h, hx⟩ := pieces hp l i (by omega)
    obtain ⟨b, hb⟩ : ∃ b, l[i]? = some b := ⟨_, List.getElem?_eq_getElem (by omega)⟩
    have hn := named plan l i (by omega)
    rw [after_succ plan l i b hb]
    have e : l.take (i + 1) = l.take i ++ [b] := by rw [List.take_add_one, hb]; rfl
    have hno : ¬((after plan l i).any = true ∧ (i : Int) ≤ (after plan l i).last) := fun e => by have := hn.last e.1; omega
    generalize after plan l i = s at h hx hno
    obtain ⟨k1, k2, k3, k4⟩ := send_kind hp (s := { s with any := true, last := (i : Int) }) (b := b) h.conns h.writes
    have hsw : ∀ s0, (send plan s0 b).1.whole = s0.whole ∧ (send plan s0 b).1.lost = s0.lost := fun s0 => by unfold send; split <;> exact ⟨rfl, rfl⟩
    have k5 := hsw { s with any := true, last := (i : Int) }
    unfold frame
    rw [if_neg hno, e]
    dsimp only at k5 ⊢
    rw [if_pos k1]
    refine ⟨⟨by rw [e]; exact k2, ?_, ?_, by rw [e]; exact k3⟩, fun hpl => k4 hpl (hx hpl)⟩
    · dsimp only
      rw [k5.1, h.whole, List.range_succ]
      simp
    · dsimp only
      rw [k5.2, h.lost]
end Go.Proofs.YtmfpgghpnkmkpaaDoor
