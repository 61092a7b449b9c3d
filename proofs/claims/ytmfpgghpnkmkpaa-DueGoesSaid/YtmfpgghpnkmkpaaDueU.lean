/- What the queue does and what the reference's list does, in plain Lean. -/
import Derived.Test.YtmfpgghpnkmkpaaDueT
namespace Go.Proofs.Ytmfpgghpnkmkpaa
open Go.RowKit Go.Tum Go.Shelf
set_option maxRecDepth 100000
theorem sorted_eq : ∀ {l m : List Ent}, l.Pairwise (before · · = true) → m.Pairwise (before · · = true) → (∀ x, x ∈ l ↔ x ∈ m) → l = m
  | [], [], _, _, _ => rfl
  | [], y :: m, _, _, h => absurd ((h y).2 (by simp)) (by simp)
  | x :: l, [], _, _, h => absurd ((h x).1 (by simp)) (by simp)
  | x :: l, y :: m, h1, h2, h => by
    rw [List.pairwise_cons] at h1 h2
    have e : x = y := by
      by_cases e : x = y
      · exact e
      · exfalso
        have k1 : x ∈ m := by
          rcases List.mem_cons.1 ((h x).1 (by simp)) with k | k
          · exact absurd k e
          · exact k
        have k2 : y ∈ l := by
          rcases List.mem_cons.1 ((h y).2 (by simp)) with k | k
          · exact absurd k.symm e
          · exact k
        have := before_ord.asym _ _ (h1.1 y k2)
        rw [h2.1 x k1] at this
        cases this
    subst e
    rw [sorted_eq h1.2 h2.2 fun z => ⟨fun hz => ?_, fun hz => ?_⟩]
    · rcases List.mem_cons.1 ((h z).1 (by simp [hz])) with k | k
      · subst k; have := h1.1 z hz; rw [before_irrefl] at this; cases this
      · exact k
    · rcases List.mem_cons.1 ((h z).2 (by simp [hz])) with k | k
      · subst k; have := h2.1 z hz; rw [before_irrefl] at this; cases this
      · exact k
theorem srt_sorted {s : QS} (h : QI s.1 s.2) : (srt s).Pairwise (before · · = true) := by
  have h1 : (srt s).Pairwise fun x y => (!before y x) = true := by
    unfold srt
    refine List.pairwise_mergeSort (fun a b c ha hb => ?_) (fun a b => ?_) _
    · simp only [Bool.not_eq_true'] at ha hb ⊢
      exact before_ord.not a b c ha hb
    · cases hab : before b a with
      | false => simp
      | true => simp [before_ord.asym _ _ hab]
  have h2 : (srt s).Nodup := by
    rw [(srt_perm s).nodup_iff]
    unfold List.Nodup
    rw [List.pairwise_map]
    refine (List.nodup_range (n := s.2)).imp_of_mem fun {a b} ha hb hne e => hne (h.keys a b (List.mem_range.1 ha) (List.mem_range.1 hb) (by rw [e]))
  refine (h1.and h2).imp fun {a b} ⟨k1, k2⟩ => ?_
  simp only [Bool.not_eq_true'] at k1
  rcases before_total k2 with k | k
  · exact k
  · rw [k] at k1; cases k1
theorem srt_keys {s : QS} (h : QI s.1 s.2) {x y : Ent} (hx : x ∈ srt s) (hy : y ∈ srt s) (e : x.1 = y.1) : x = y := h.one ((srt_mem s x).1 hx) ((srt_mem s y).1 hy) e
theorem ins_mem (L : List Ent) (x y : Ent) : y ∈ ins L x ↔ y = x ∨ y ∈ L := by
  have : L = L.takeWhile (before · x) ++ L.dropWhile (before · x) := (List.takeWhile_append_dropWhile).symm
  unfold ins
  constructor
  · intro h
    rw [this]
    simp only [List.mem_append, List.mem_cons] at h ⊢
    rcases h with h | h | h
    · exact .inr (.inl h)
    · exact .inl h
    · exact .inr (.inr h)
  · intro h
    rw [this] at h
    simp only [List.mem_append, List.mem_cons] at h ⊢
    rcases h with h | h | h
    · exact .inr (.inl h)
    · exact .inl h
    · exact .inr (.inr h)
theorem ins_sorted {L : List Ent} {x : Ent} (h : L.Pairwise (before · · = true)) (hx : x ∉ L) : (ins L x).Pairwise (before · · = true) := by
  induction L with
  | nil => simp [ins]
  | cons y L ih =>
    rw [List.pairwise_cons] at h
    by_cases hy : before y x = true
    · have : ins (y :: L) x = y :: ins L x := by simp [ins, hy]
      rw [this, List.pairwise_cons]
      refine ⟨fun z hz => ?_, ih h.2 fun e => hx (by simp [e])⟩
      rcases (ins_mem L x z).1 hz with rfl | hz
      · exact hy
      · exact h.1 z hz
    · have : ins (y :: L) x = x :: y :: L := by simp [ins, hy]
      have hxy : before x y = true := by
        rcases before_total (a := x) (b := y) fun e => hx (by simp [e]) with k | k
        · exact k
        · exact absurd k hy
      rw [this, List.pairwise_cons]
      refine ⟨fun z hz => ?_, List.pairwise_cons.2 h⟩
      rcases List.mem_cons.1 hz with rfl | hz
      · exact hxy
      · exact before_ord.trans _ _ _ hxy (h.1 z hz)
theorem cut_sorted {L : List Ent} (i : Nat) (h : L.Pairwise (before · · = true)) : (L.take i ++ L.drop (i + 1)).Pairwise (before · · = true) := by
  refine h.sublist ?_
  conv => rhs; rw [← List.take_append_drop i L]
  refine List.Sublist.append (List.Sublist.refl _) ?_
  rw [← List.drop_drop]
  exact List.drop_sublist _ _
theorem cut_mem {L : List Ent} {i : Nat} {x : Ent} (hi : L[i]? = some x) (hk : ∀ a ∈ L, ∀ b ∈ L, a.1 = b.1 → a = b) (hn : L.Nodup) (y : Ent) : y ∈ L.take i ++ L.drop (i + 1) ↔ y ∈ L ∧ y.1 ≠ x.1 := by
  obtain ⟨A, B, hA, hB, rfl⟩ : ∃ A B, L.take i = A ∧ L.drop (i + 1) = B ∧ L = A ++ x :: B := by
    obtain ⟨hlt, rfl⟩ := List.getElem?_eq_some_iff.1 hi
    exact ⟨_, _, rfl, rfl, by rw [List.getElem_cons_drop, List.take_append_drop]⟩
  rw [hA, hB]
  clear hA hB hi
  rw [List.nodup_append] at hn
  obtain ⟨n1, n2, n3⟩ := hn
  rw [List.nodup_cons] at n2
  rw [List.mem_append, List.mem_append, List.mem_cons]
  constructor
  · intro h
    have hy : y ∈ A ++ x :: B := by rw [List.mem_append, List.mem_cons]; exact h.imp id .inr
    refine ⟨h.imp id .inr, fun e => ?_⟩
    have : y = x := hk y hy x (by simp) e
    subst this
    rcases h with h | h
    · exact n3 _ h _ (by simp) rfl
    · exact n2.1 h
  · rintro ⟨h, hne⟩
    rcases h with k | k | k
    · exact .inl k
    · exact absurd (by rw [k]) hne
    · exact .inr k
theorem sorted_nodup {L : List Ent} (h : L.Pairwise (before · · = true)) : L.Nodup := h.imp fun {a b} k e => by subst e; rw [before_irrefl] at k; cases k
/-- Set and the reference's Set. -/
theorem set_ref {s : QS} (h : QI s.1 s.2) (lim : Int) (key : List UInt8) (t : Int) :
    QI (setQ lim s key t).1.1 (setQ lim s key t).1.2 ∧ srt (setQ lim s key t).1 = (refSet lim (srt s) key t).1 ∧ (setQ lim s key t).2 = (refSet lim (srt s) key t).2 := by
  have hso := srt_sorted h
  rcases fi_cases (srt s) key with ⟨e1, e2⟩ | ⟨i, x, e1, e2, e3, e4, e5⟩
  · have hno : ∀ x, Has s.1 s.2 x → x.1 ≠ key := fun x hx => e2 x ((srt_mem s x).2 hx)
    unfold refSet
    rw [e1]
    dsimp only
    rw [srt_len]
    by_cases hf : lim ≤ (s.2 : Int)
    · rw [set_full hno hf, if_pos hf]
      exact ⟨h, rfl, rfl⟩
    · rw [if_neg hf]
      obtain ⟨k1, k2, k3, _⟩ := set_has h lim key t (.inr (by omega))
      refine ⟨k2, sorted_eq (srt_sorted k2) (ins_sorted hso fun hm => e2 _ hm rfl) fun y => ?_, k1⟩
      rw [srt_mem, k3, ins_mem, srt_mem]
      exact ⟨fun e => e.imp id fun e => e.2, fun e => e.imp id fun e => ⟨hno _ e, e⟩⟩
  · have hx : Has s.1 s.2 x := (srt_mem s x).1 (List.mem_of_getElem? e3)
    unfold refSet
    rw [e1]
    dsimp only
    obtain ⟨k1, k2, k3, _⟩ := set_has h lim key t (.inl ⟨x, hx, e4⟩)
    have hm := cut_mem e3 (fun a ha b hb => srt_keys h ha hb) (sorted_nodup hso)
    refine ⟨k2, sorted_eq (srt_sorted k2) (ins_sorted (cut_sorted i hso) fun hc => ((hm _).1 hc).2 e4.symm) fun y => ?_, k1⟩
    rw [srt_mem, k3, ins_mem, hm, srt_mem, e4]
    exact ⟨fun e => e.imp id fun e => ⟨e.2, e.1⟩, fun e => e.imp id fun e => ⟨e.2, e.1⟩⟩
theorem QI.remove {d : Nat → Ent} {n i : Nat} (h : QI d (n + 1)) (hi : i ≤ n) : QI (removed before d n i) n ∧ ∀ y, Has (removed before d n i) n y ↔ Has d (n + 1) y ∧ y.1 ≠ (d i).1 := by
  obtain ⟨h1, h2⟩ := removed_heap before_ord hi h.heap
  have hs : ∀ k, k < n → sw d i n k = if k = i then d n else d k := fun k hk => by
    unfold sw
    split
    · rfl
    · rw [if_neg (by omega)]
  refine ⟨⟨h1, h2.inj Prod.fst fun a b ha hb e => ?_⟩, fun y => ?_⟩
  · rw [hs a ha, hs b hb] at e
    by_cases ea : a = i
    · by_cases eb : b = i
      · omega
      · rw [if_pos ea, if_neg eb] at e
        have := h.keys n b (by omega) (by omega) e
        omega
    · by_cases eb : b = i
      · rw [if_neg ea, if_pos eb] at e
        have := h.keys a n (by omega) (by omega) e
        omega
      · rw [if_neg ea, if_neg eb] at e
        exact h.keys a b (by omega) (by omega) e
  · refine (h2.mem y).trans ⟨?_, ?_⟩
    · rintro ⟨k, hkn, rfl⟩
      rw [hs k hkn]
      by_cases e : k = i
      · rw [if_pos e]
        refine ⟨⟨n, by omega, rfl⟩, fun e2 => ?_⟩
        have := h.keys n i (by omega) (by omega) e2
        omega
      · rw [if_neg e]
        refine ⟨⟨k, by omega, rfl⟩, fun e2 => ?_⟩
        have := h.keys k i (by omega) (by omega) e2
        omega
    · rintro ⟨⟨k, hk, rfl⟩, hne⟩
      by_cases e : k = n
      · subst e
        by_cases ei : i = k
        · exact absurd (by rw [ei]) hne
        · exact ⟨i, by omega, by rw [hs i (by omega), if_pos rfl]⟩
      · exact ⟨k, by omega, by rw [hs k (by omega), if_neg fun e2 => hne (by rw [e2])]⟩
theorem drop_ref {s : QS} (h : QI s.1 s.2) (key : List UInt8) :
    QI (dropQ s key).1.1 (dropQ s key).1.2 ∧ srt (dropQ s key).1 = (refDrop (srt s) key).1 ∧ (dropQ s key).2 = (refDrop (srt s) key).2 := by
  have hso := srt_sorted h
  rcases fi_cases (srt s) key with ⟨e1, e2⟩ | ⟨i, x, e1, e2, e3, e4, e5⟩
  · have hno : ∀ x, Has s.1 s.2 x → x.1 ≠ key := fun x hx => e2 x ((srt_mem s x).2 hx)
    unfold refDrop dropQ
    rw [e1, spot_no fun i hi => hno _ ⟨i, hi, rfl⟩]
    exact ⟨h, rfl, rfl⟩
  · obtain ⟨j, hj, hx⟩ : Has s.1 s.2 x := (srt_mem s x).1 (List.mem_of_getElem? e3)
    have hsp : spot s.1 s.2 key = some j := spot_of h.keys hj (by rw [hx, e4])
    unfold refDrop dropQ
    rw [e1, hsp]
    dsimp only
    obtain ⟨d, n⟩ := s
    dsimp only at *
    obtain ⟨m, rfl⟩ : ∃ m, n = m + 1 := ⟨n - 1, by omega⟩
    obtain ⟨k1, k2⟩ := QI.remove h (i := j) (by omega)
    have hm := cut_mem e3 (fun a ha b hb => srt_keys h ha hb) (sorted_nodup hso)
    refine ⟨k1, sorted_eq (srt_sorted k1) (cut_sorted i hso) fun y => ?_, rfl⟩
    rw [srt_mem, hm, srt_mem]
    dsimp only
    rw [show m + 1 - 1 = m from rfl, k2, hx]
theorem at_ref {s : QS} (h : QI s.1 s.2) (key : List UInt8) : atQ s key = refAt (srt s) key := by
  rcases fi_cases (srt s) key with ⟨e1, e2⟩ | ⟨i, x, e1, e2, e3, e4, e5⟩
  · unfold refAt
    rw [e1, no_at fun x hx => e2 x ((srt_mem s x).2 hx)]
  · have hx : Has s.1 s.2 x := (srt_mem s x).1 (List.mem_of_getElem? e3)
    unfold refAt
    rw [e1, ← e4, has_at h hx]
    dsimp only
    rw [e3]; rfl
theorem next_ref {s : QS} (h : QI s.1 s.2) : nextQ s = refNext (srt s) := by
  have hl := srt_len s
  unfold nextQ refNext
  cases hs : srt s with
  | nil => rw [hs] at hl; rw [if_pos (by simpa using hl.symm)]
  | cons x L =>
    rw [hs] at hl
    simp only [List.length_cons] at hl
    rw [if_neg (by omega)]
    have h0 : Has s.1 s.2 (s.1 0) := ⟨0, by omega, rfl⟩
    have hm := (srt_mem s (s.1 0)).2 h0
    have hx : Has s.1 s.2 x := (srt_mem s x).1 (by rw [hs]; simp)
    have hso := srt_sorted h
    rw [hs] at hm hso
    rw [List.pairwise_cons] at hso
    rcases List.mem_cons.1 hm with e | e
    · rw [e]
    · have := h.first hx
      rw [hso.1 _ e] at this
      cases this
theorem take_ref (now : Int) {s : QS} (h : QI s.1 s.2) :
    QI (takeQ now s.2 s).2.1 (takeQ now s.2 s).2.2 ∧ (takeQ now s.2 s).1 = (srt s).takeWhile (due now) ∧ srt (takeQ now s.2 s).2 = (srt s).dropWhile (due now) := by
  have ht := take_all now s.2 s rfl h
  obtain ⟨T, hT⟩ : ∃ T, T = (takeQ now s.2 s).1 := ⟨_, rfl⟩
  obtain ⟨r, hr⟩ : ∃ r, r = (takeQ now s.2 s).2 := ⟨_, rfl⟩
  rw [← hT, ← hr] at ht ⊢
  have hso : (T ++ srt r).Pairwise (before · · = true) := by
    rw [List.pairwise_append]
    refine ⟨ht.order, srt_sorted ht.qi, fun a ha b hb => ?_⟩
    have h1 := ht.late a ha
    have h2 := ht.left b ((srt_mem r b).1 hb)
    simp only [before, decide_eq_true_eq]
    exact .inl (by omega)
  have he : srt s = T ++ srt r := sorted_eq (srt_sorted h) hso fun y => by rw [srt_mem, ht.all, List.mem_append, srt_mem]
  have h1 : ∀ a ∈ T, due now a = true := fun a ha => decide_eq_true (ht.late a ha)
  have h2 : (srt r).takeWhile (due now) = [] ∧ (srt r).dropWhile (due now) = srt r := by
    cases hs : srt r with
    | nil => simp
    | cons x L =>
      have : due now x = false := decide_eq_false (by have := ht.left x ((srt_mem r x).1 (by rw [hs]; simp)); omega)
      simp [this]
  rw [he, List.takeWhile_append_of_pos h1, List.dropWhile_append_of_pos h1, h2.1, h2.2, List.append_nil]
  exact ⟨ht.qi, rfl, rfl⟩
end Go.Proofs.Ytmfpgghpnkmkpaa
