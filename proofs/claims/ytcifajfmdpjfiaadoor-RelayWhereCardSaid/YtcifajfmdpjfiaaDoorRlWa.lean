/- The law RelayWhere: plain facts; two relays and the reference's in memory. -/
import Derived.Test.YtcifajfmdpjfiaaDoorRlKq
import Derived.Test.YtcifajfmdpjfiaaDoorRrI
import Derived.Test.YtcifajfmdpjfiaaDoorRrJ
import Derived.Test.YtcifajfmdpjfiaaDoorRing9
namespace Go.Proofs.YtcifajfmdpjfiaaDoor
open Go.RowKit Go.Tum Go.Lib Go.Sort
set_option maxRecDepth 100000
theorem _root_.Go.Tum.Rd.tx_at3 {w : World} {F : Nat → Prop} {b off c n : Nat} {l : List Tx} (h : Rd w F 1 (.slice (some ⟨b, off, none⟩) n c) n (l.map ks)) (hn : l.length = n) {i : Nat} {x : Tx} (hx : l[i]? = some x) : w.cell? ⟨b, off + i, none⟩ = some (.string ⟨x.toArray⟩) := by
  obtain ⟨_, _, e, _, h1⟩ := h.tx hn hx
  injection e with e
  injection e with e1 e2
  subst e1 e2
  exact h1
theorem downL_mem {N dn : List Tx} {s t : Tx} : t ∈ downL N dn s ↔ t ∈ dn ∨ t = s ∧ s ∈ N := by
  unfold downL downE
  by_cases h : s ∈ N
  · by_cases h2 : s ∈ dn
    · simp only [h, h2, not_true_eq_false, if_false, if_true]
      rw [if_neg (by decide)]
      constructor
      · exact .inl
      · rintro (h3 | ⟨rfl, _⟩)
        · exact h3
        · exact h2
    · simp only [h, h2, not_true_eq_false, if_false, if_true, List.mem_cons, and_true]
      exact Or.comm
  · simp only [h, not_false_eq_true, if_true, and_false, or_false]
    rw [if_neg (by decide)]
def downF (N l : List Tx) : List Tx := l.foldl (downL N) []
theorem downs_mem (N : List Tx) : ∀ (l dn : List Tx) (t : Tx), t ∈ l.foldl (downL N) dn ↔ t ∈ dn ∨ t ∈ l ∧ t ∈ N
  | [], dn, t => by simp
  | s :: l, dn, t => by
    rw [List.foldl_cons, downs_mem N l, downL_mem, List.mem_cons]
    constructor
    · rintro ((h | ⟨rfl, h⟩) | ⟨h1, h2⟩)
      · exact .inl h
      · exact .inr ⟨.inl rfl, h⟩
      · exact .inr ⟨.inr h1, h2⟩
    · rintro (h | ⟨rfl | h, h2⟩)
      · exact .inl (.inl h)
      · exact .inl (.inr ⟨rfl, h2⟩)
      · exact .inr ⟨h, h2⟩
theorem downF_mem (N l : List Tx) (t : Tx) : t ∈ downF N l ↔ t ∈ l ∧ t ∈ N := by unfold downF; rw [downs_mem]; simp
theorem downF_next {N l : List Tx} {i : Nat} {x : Tx} (h : l[i]? = some x) : downF N (l.take (i + 1)) = downL N (downF N (l.take i)) x := by
  unfold downF; rw [take_nx h, List.foldl_append]; rfl
theorem put_at {H : Nat} {nw : Bool} {N : List Tx} (hN : Strict ltT N) (x : Rcd) {l : List Tx} (hl : l.Nodup) (hs : ∀ t ∈ l, t ∈ N) {S : List Stn} {i : Nat} {s : Tx} {st : Stn} (h1 : N[i]? = some s) (h2 : S[i]? = some st) :
    (dealAll H nw N x l S)[i]? = some (if s ∈ l then deal H nw x st else st) := by
  rw [dealAll_get H nw x l S hl (fun a ha b hb => pos_inj hN (hs a ha) (hs b hb)) i, h2]
  have h3 : (∃ t ∈ l, posT N t = i) ↔ s ∈ l := by
    constructor
    · rintro ⟨t, ht, e⟩
      have h4 := pos_of hN (hs t ht)
      rw [e, h1] at h4
      injection h4 with h4
      exact h4 ▸ ht
    · exact fun h => ⟨s, h, pos_at hN h1⟩
  by_cases h : s ∈ l
  · rw [if_pos (h3.2 h), if_pos h]; rfl
  · rw [if_neg (fun e => h (h3.1 e)), if_neg h]
theorem hd_deal {H : Nat} (h : 1 ≤ H) (nw : Bool) (x : Rcd) (s : Stn) : (deal H nw x s).L.length + (deal H nw x s).dropped = s.L.length + s.dropped + 1 := by
  have h1 := sz_deal h nw x s
  have h2 := sent_deal H nw x s
  unfold sz at h1
  omega
theorem idxV_iff (l : List Tx) (s : Tx) : decide (0 ≤ idxV l s) = decide (s ∈ l) := by
  by_cases h : s ∈ l
  · rw [decide_eq_true h]; exact decide_eq_true (idxV_in h)
  · rw [decide_eq_false h, idxV_out h]; rfl
theorem idxV_iff' (l : List Tx) (s : Tx) : decide (idxV l s < 0) = !decide (s ∈ l) := by
  by_cases h : s ∈ l
  · have := idxV_in h
    rw [decide_eq_true h]; exact decide_eq_false (by omega)
  · rw [decide_eq_false h, idxV_out h]; rfl
/-- Two relays and the reference's, no block of two of them. -/
structure Tri (W w : World) (rb sb x C R H : Nat) (nw : Bool) (N : List Tx) (S : List Stn) (dn : List Tx) (T : List Stn) (dt : List Tx) (U : List Stn) (du : List Tx) (F E G : Nat → Prop) : Prop where
  rel : RelK w rb C R H nw N S dn F
  oth : RelK w sb C R H nw N T dt E
  ref : RrK w x C R H nw N U du G
  fe : ∀ b, F b → ¬ E b
  fg : ∀ b, F b → ¬ G b
  eg : ∀ b, E b → ¬ G b
  fu : ∀ b, F b → b < w.heap.size
  eu : ∀ b, E b → b < w.heap.size
  gu : ∀ b, G b → b < w.heap.size
  fl : ∀ b, F b → W.heap.size ≤ b
  el : ∀ b, E b → W.heap.size ≤ b
  gl : ∀ b, G b → W.heap.size ≤ b
  hm : Mods No W w
section
variable {W w w' : World} {rb sb x C R H : Nat} {nw : Bool} {N : List Tx} {S S' T T' U U' : List Stn} {dn dn' dt dt' du du' : List Tx} {F E G : Nat → Prop}
theorem Tri.no (h : Tri W w rb sb x C R H nw N S dn T dt U du F E G) (hm : Mods No w w') : Tri W w' rb sb x C R H nw N S dn T dt U du F E G :=
  ⟨h.rel.no hm, h.oth.no hm, h.ref.no hm, h.fe, h.fg, h.eg, fun b e => Nat.lt_of_lt_of_le (h.fu b e) hm.size, fun b e => Nat.lt_of_lt_of_le (h.eu b e) hm.size, fun b e => Nat.lt_of_lt_of_le (h.gu b e) hm.size, h.fl, h.el, h.gl, h.hm.trans hm fun _ _ e => e⟩
theorem Tri.first (h : Tri W w rb sb x C R H nw N S dn T dt U du F E G) (hr : RelK w' rb C R H nw N S' dn' (fun b => F b ∨ w.heap.size ≤ b)) (hm : Mods F w w') : Tri W w' rb sb x C R H nw N S' dn' T dt U du (fun b => (F b ∨ w.heap.size ≤ b) ∧ b < w'.heap.size) E G := by
  have hs := h.hm.size
  refine ⟨hr.more fun b hb e => ⟨e, hb⟩, h.oth.mods hm fun b _ he hf => h.fe b hf he, h.ref.mods hm fun b _ hg hf => h.fg b hf hg, fun b e hg => ?_, fun b e hg => ?_, h.eg, fun b e => e.2, fun b e => Nat.lt_of_lt_of_le (h.eu b e) hm.size, fun b e => Nat.lt_of_lt_of_le (h.gu b e) hm.size, fun b e => ?_, h.el, h.gl, h.hm.trans hm fun b hb e => absurd hb (Nat.not_lt.2 (h.fl b e))⟩
  · rcases e.1 with e1 | e1
    · exact h.fe b e1 hg
    · have := h.eu b hg; omega
  · rcases e.1 with e1 | e1
    · exact h.fg b e1 hg
    · have := h.gu b hg; omega
  · rcases e.1 with e1 | e1
    · exact h.fl b e1
    · omega
theorem Tri.second (h : Tri W w rb sb x C R H nw N S dn T dt U du F E G) (hr : RelK w' sb C R H nw N T' dt' (fun b => E b ∨ w.heap.size ≤ b)) (hm : Mods E w w') : Tri W w' rb sb x C R H nw N S dn T' dt' U du F (fun b => (E b ∨ w.heap.size ≤ b) ∧ b < w'.heap.size) G := by
  have hs := h.hm.size
  refine ⟨h.rel.mods hm fun b _ hf he => h.fe b hf he, hr.more fun b hb e => ⟨e, hb⟩, h.ref.mods hm fun b _ hg he => h.eg b he hg, fun b hf e => ?_, h.fg, fun b e hg => ?_, fun b e => Nat.lt_of_lt_of_le (h.fu b e) hm.size, fun b e => e.2, fun b e => Nat.lt_of_lt_of_le (h.gu b e) hm.size, h.fl, fun b e => ?_, h.gl, h.hm.trans hm fun b hb e => absurd hb (Nat.not_lt.2 (h.el b e))⟩
  · rcases e.1 with e1 | e1
    · exact h.fe b hf e1
    · have := h.fu b hf; omega
  · rcases e.1 with e1 | e1
    · exact h.eg b e1 hg
    · have := h.gu b hg; omega
  · rcases e.1 with e1 | e1
    · exact h.el b e1
    · omega
theorem Tri.third (h : Tri W w rb sb x C R H nw N S dn T dt U du F E G) (hr : RrK w' x C R H nw N U' du' G) (hm : Mods G w w') : Tri W w' rb sb x C R H nw N S dn T dt U' du' F E G :=
  ⟨h.rel.mods hm fun b _ hf hg => h.fg b hf hg, h.oth.mods hm fun b _ he hg => h.eg b he hg, hr, h.fe, h.fg, h.eg, fun b e => Nat.lt_of_lt_of_le (h.fu b e) hm.size, fun b e => Nat.lt_of_lt_of_le (h.eu b e) hm.size, fun b e => Nat.lt_of_lt_of_le (h.gu b e) hm.size, h.fl, h.el, h.gl, h.hm.trans hm fun b hb e => absurd hb (Nat.not_lt.2 (h.gl b e))⟩
theorem stb_of (hI : RlI N S dn R H) (hB : tot S ≤ 2305843009213693952) : StB 2305843009213693952 H S := fun t ht => by
  have h2 := tot_mem ht
  unfold sz at h2
  exact ⟨by omega, hI.held t ht⟩
theorem sent_of (hB : tot S ≤ 2305843009213693952) : ∀ t ∈ S, t.sent ≤ 2305843009213693952 := fun t ht => by
  have h2 := tot_mem ht
  unfold sz at h2
  omega
theorem RelK.c1 (h : RelK w rb C R H nw N S dn F) : 1 ≤ C := by obtain ⟨_, _, _, _, _, _, _, _, hp, _⟩ := h; exact hp.ring.1.c1
theorem RelK.perm (h : RelK w rb C R H nw N S dn F) (k : Nat) : (allV (placesOf C N) k).Perm N := allV_perm h.c1 (h.strict.nodup sto_T) _
theorem RelK.wsub (h : RelK w rb C R H nw N S dn F) (k : Nat) : ∀ t ∈ wants dn' R (allV (placesOf C N) k), t ∈ N := fun _ ht => (h.perm k).mem_iff.1 (wants_mem ht).1
theorem RelK.wnd (h : RelK w rb C R H nw N S dn F) (k : Nat) : (wants dn' R (allV (placesOf C N) k)).Nodup :=
  (((h.perm k).nodup_iff.2 (h.strict.nodup sto_T)).filter _).sublist (List.take_sublist _ _)
theorem tri_tot (h : RelK w rb C R H nw N S dn F) (r : Rcd) : tot (dealAll H nw N r (wants dn R (allV (placesOf C N) (fnv64 r.1))) S) ≤ tot S + 8 := by
  have hI := h.1
  have hw := wants_le dn R (allV (placesOf C N) (fnv64 r.1))
  rw [tot_deal hI.h1 nw h.strict _ _ S hI.len fun t ht => h.wsub _ t ht]
  have := hI.r2
  omega
theorem tri_put (h : Tri W w rb sb x C R H nw N S dn T dt U du F E G) (r : Rcd) (hx : r.1.length ≤ maxLen) (hB : tot S ≤ 2305843009213693952) :
    Calls Tryd.prog 13 #[(.pointer (some ⟨rb, 0, none⟩)), rv r] w (Ret fun v w' => (∃ q : Int, v = .int .i64 q) ∧ ∃ S' F', tot S' ≤ tot S + 8 ∧ Tri W w' rb sb x C R H nw N S' dn T dt U du F' E G) :=
  ret_use (relput_K w rb C R H nw N S dn F r h.rel hx (stb_of h.rel.1 hB)) fun _ _ ⟨e1, e2, e3⟩ => ⟨⟨_, e1⟩, _, _, tri_tot h.rel r, h.first e2 e3⟩
theorem tri_take {s : Tx} {n : Int} (h : Tri W w rb sb x C R H nw N S dn T dt U du F E G) (hB : tot S ≤ 2305843009213693952) :
    Calls Tryd.prog 14 #[(.pointer (some ⟨rb, 0, none⟩)), ks s, .int .i64 n] w (Ret fun v w' => (∃ A m c e, v = .tuple #[.slice A m c, .int .i64 e]) ∧ ∃ S' F', tot S' ≤ tot S ∧ Tri W w' rb sb x C R H nw N S' dn T dt U du F' E G) :=
  ret_use (take_K w rb C R H nw N S dn F s n h.rel (sent_of hB)) fun v w' ht => by
    rcases ht with ⟨h0, rfl, hr, hm⟩ | ⟨h0, k, m, mid, st, A, c, hk, hst, hm, rfl, hmid, ho, hr, hmm⟩
    · exact ⟨⟨_, _, _, _, rfl⟩, _, _, Nat.le_refl _, h.first (hr.more fun b _ e => .inl e) (hm.mono fun _ _ e => e.elim)⟩
    · refine ⟨⟨_, _, _, _, rfl⟩, _, _, ?_, h.first (hr.more fun b _ e => ?_) hmm⟩
      · refine Nat.le_of_eq (tot_set ?_ S _ hst)
        have hml : m ≤ st.L.length := by omega
        rw [takeS_ok hml]; unfold sz; dsimp only; rw [List.length_drop]; omega
      · rcases e with e | e
        · exact .inl e
        · exact .inr (Nat.le_trans hmid e)
theorem rwhere_ref (h : RrK w x C R H nw N U du G) (p : Tx) (hp : p.length ≤ maxLen) :
    Calls Tryd.prog 23 #[(.pointer (some ⟨x, 0, none⟩)), ks p] w (Ret fun v w' => Own w' (fun g => w.heap.size ≤ g) 9 1 v (wants du R (allV (placesOf C N) (fnv64 p))).length ((wants du R (allV (placesOf C N) (fnv64 p))).map ks) ∧ Mods No w w') := by
  obtain ⟨hI, h0, col, gd, cd, v0, sn, sp, xs, lv, hr, hF⟩ := h
  exact rwhere_K hr hI h0 p hp
end
/-- The reference's relay as New makes it. -/
theorem ref_made {W w3 : World} {C R H : Nat} {nw : Bool} {l : List Tx} {A A1 A2 A3 : Option Addr} {n c n1 c1 n2 c2 n3 c3 : Nat} (hz : relE l (C : Int) (R : Int) (H : Int) = 0) (hst : Strict ltT (nodesOf l)) (hI : RlI (nodesOf l) (List.replicate l.length stn0) [] R H) (hm3 : Mods No W w3)
    (h2 : Own w3 (fun g => W.heap.size ≤ g) 103 2 (.slice A2 n2 c2) (placesOf (C : Int).toNat (nodesOf l)).length (plcs (placesOf (C : Int).toNat (nodesOf l))))
    (h3 : Own w3 (fun g => W.heap.size ≤ g) 87 6 (.slice A3 n3 c3) (nodesOf l).length (dests0 (nodesOf l))) :
    RrK (w3.alloc (.cells #[.slice A n c, .int .i64 (C : Int), .int .i64 (R : Int), .int .i64 (H : Int), .bool nw, .int .i64 (C : Int), .slice A1 n1 c1, .slice A2 n2 c2, .slice A3 n3 c3] 36)) w3.heap.size C R H nw (nodesOf l) (List.replicate l.length stn0) [] (fun b => W.heap.size ≤ b ∧ b < w3.heap.size + 1) := by
  rw [Int.toNat_natCast] at h2
  have hE := relE_zero hz
  have hN := newE_zero hE.1
  have hs3 := hm3.size
  obtain ⟨N, hNN⟩ : ∃ N, N = nodesOf l := ⟨_, rfl⟩
  have hNl : N.length = l.length := by rw [hNN, nodesOf_len]
  rw [← hNN] at h2 h3 hst hI ⊢
  have hpos : 0 < N.length := by rw [hNl]; have := hE.2.1; omega
  obtain ⟨gd, cd, e3, hgd, _, _⟩ := h3.cells hpos
  injection e3 with e3 e4 e5
  subst e3 e4 e5
  obtain ⟨cur, hcur⟩ := h3.typed gd rfl
  have hgl : gd < w3.heap.size := hcur.lt
  have hne : (Value.slice A2 n2 c2).ownBlock ≠ some gd := h2.ne_cells hcur (by decide)
  obtain ⟨col, hcol⟩ : ∃ col : Nat → Nat, col = fun b => if b < W.heap.size then 0 else if b = w3.heap.size then 1 else if (Value.slice A2 n2 c2).ownBlock = some b then 2 else if b = gd then 3 else 0 := ⟨_, rfl⟩
  have k0 : ∀ b, b < W.heap.size → col b = 0 := fun b e => by rw [hcol]; exact if_pos e
  have k1 : col w3.heap.size = 1 := by rw [hcol]; dsimp only; rw [if_neg (by omega), if_pos rfl]
  have k2 : ∀ b, (Value.slice A2 n2 c2).ownBlock = some b → col b = 2 := fun b e => by
    have := h2.2 b e
    have := h2.lt b e
    rw [hcol]; dsimp only
    rw [if_neg (by omega), if_neg (by omega), if_pos e]
  have k3 : col gd = 3 := by
    rw [hcol]; dsimp only
    rw [if_neg (by omega), if_neg (by omega), if_neg hne, if_pos rfl]
  have kb : ∀ b, col b ≠ 0 → W.heap.size ≤ b := fun b e => by
    rcases Nat.lt_or_ge b W.heap.size with h | h
    · exact absurd (k0 b h) e
    · exact h
  have hma := (Mods.refl No w3).alloc (.cells #[.slice A n c, .int .i64 (C : Int), .int .i64 (R : Int), .int .i64 (H : Int), .bool nw, .int .i64 (C : Int), .slice A1 n1 c1, .slice A2 n2 c2, .slice (some ⟨gd, 0, none⟩) N.length c3] 36)
  have hp : RrP (w3.alloc (.cells #[.slice A n c, .int .i64 (C : Int), .int .i64 (R : Int), .int .i64 (H : Int), .bool nw, .int .i64 (C : Int), .slice A1 n1 c1, .slice A2 n2 c2, .slice (some ⟨gd, 0, none⟩) N.length c3] 36)) w3.heap.size C R H nw N (List.replicate l.length stn0) [] col gd c3 (.slice A n c) (.slice A1 n1 c1) (.slice A2 n2 c2) (dests0 N) (List.replicate N.length (.slice none 0 0)) := by
    refine ⟨Cells.new w3 _ _, k1, ⟨(Tum.Own.mods h2 hma fun _ _ e => e).1, fun b hb => k2 b hb⟩, ⟨(Tum.Own.mods h3 hma fun _ _ e => e).1, fun b hb => by injection hb with hb; rw [← hb]; exact k3⟩, fun i s st v e1 e2 e3 => ?_, fun i st v e2 e3 => ?_, List.length_replicate ..⟩
    · rw [List.getElem?_replicate] at e2 e3
      split at e2
      · split at e3
        · injection e2 with e2
          injection e3 with e3
          subst e2 e3
          have hg : ∀ r, r < 6 → (dests0 N)[i * 6 + r]? = (dest0 s)[r]? := fun r hr => by rw [dests0_get N i r hr, e1]; rfl
          exact ⟨hg 0 (by decide), by rw [hg 1 (by decide)]; simp [dest0, destC], hg 2 (by decide), hg 3 (by decide), hg 4 (by decide), hg 5 (by decide)⟩
        · cases e3
      · cases e2
    · rw [List.getElem?_replicate] at e2 e3
      split at e2
      · split at e3
        · injection e2 with e2
          injection e3 with e3
          subst e2 e3
          exact OwnAt.nil _ _ _ _
        · cases e3
      · cases e2
  have h0 : RrI0 C N := ⟨hst, hpos, by rw [hNl]; exact hN.2.2.1, by
    rw [placesOf_len]
    have h1 : N.length ≤ 64 := by rw [hNl]; exact hN.2.2.1
    have h2 : C ≤ 128 := by have := hN.2.1; omega
    have := Nat.mul_le_mul h1 h2
    omega, by have := hN.1; omega, fun s hs => (hN.2.2.2.1 s ((nodesOf_mem l s).1 (hNN ▸ hs))).2⟩
  refine ⟨hI, h0, col, gd, c3, _, _, _, _, _, hp, fun b hb e => ⟨kb b e, ?_⟩⟩
  rw [World.size_alloc] at hb; exact hb
theorem tri_made {W w4 w5 W2 w8 : World} {rb sb x C R H : Nat} {nw : Bool} {N : List Tx} {S T U : List Stn} {dn dt du : List Tx} {G : Nat → Prop} (h4 : Mods No W w4) (h5 : Mods No w4 w5) (h2 : Mods No w5 W2) (h8 : Mods No W2 w8)
    (hq : RrK w4 x C R H nw N U du G) (hG : ∀ b, G b → W.heap.size ≤ b ∧ b < w4.heap.size) (hr : RelK w5 rb C R H nw N S dn (fun b => w4.heap.size ≤ b)) (hs : RelK w8 sb C R H nw N T dt (fun b => W2.heap.size ≤ b)) :
    Tri W w8 rb sb x C R H nw N S dn T dt U du (fun b => w4.heap.size ≤ b ∧ b < w5.heap.size) (fun b => W2.heap.size ≤ b ∧ b < w8.heap.size) G := by
  have s4 := h4.size
  have s5 := h5.size
  have s2 := h2.size
  have s8 := h8.size
  have h58 : Mods No w5 w8 := h2.trans h8 fun _ _ e => e
  refine ⟨(hr.more fun b hb e => ⟨e, hb⟩).no h58, hs.more fun b hb e => ⟨e, hb⟩, (hq.no h5).no h58, fun b e1 e2 => ?_, fun b e1 e2 => ?_, fun b e1 e2 => ?_, fun b e => ?_, fun b e => e.2, fun b e => ?_, fun b e => ?_, fun b e => ?_, fun b e => (hG b e).1, (h4.trans h5 fun _ _ e => e).trans h58 fun _ _ e => e⟩
  · have := e1.2; have := e2.1; omega
  · have := e1.1; have := (hG b e2).2; omega
  · have := e1.1; have := (hG b e2).2; omega
  · have := e.2; omega
  · have := (hG b e).2; omega
  · have := e.1; omega
  · have := e.1; omega
/-- The settings that the law lays, the nodes turned round from place i on. -/
structure WdI (W wr : World) (db : Nat) (l : List Tx) (C R H : Int) (nw : Bool) (i : Nat) (v : Value) : Prop where
  box : Cells wr db 26 #[v, .int .i64 C, .int .i64 R, .int .i64 H, .bool nw]
  own : Own wr (fun g => W.heap.size ≤ g) 9 1 v ((l.drop i).reverse).length (((l.drop i).reverse).map ks)
  db : W.heap.size ≤ db
  hm : Mods No W wr
theorem WdI.more {W wr w3 : World} {db : Nat} {l : List Tx} {C R H : Int} {nw : Bool} {j : Nat} {v u : Value} (h : WdI W wr db l C R H nw (j + 1) v) {x : Tx} (hx : l[j]? = some x) {acc : List Tx} (hacc : acc = (l.drop (j + 1)).reverse) {wx : World} (hm : Mods No wr wx)
    (h3 : Own w3 (fun k => v.ownBlock = some k ∨ k = wx.heap.size) 9 1 u (acc.length + 1) (acc.map ks ++ [ks x])) (hm3 : Mods (fun k => v.ownBlock = some k) wx w3) : WdI W (w3.setCell ⟨db, 0, none⟩ u) db l C R H nw j u := by
  subst hacc
  have hsz := Nat.le_trans h.hm.size hm.size
  have hlt := h.box.lt
  have hs1 := hm.size
  have hne : v.ownBlock ≠ some db := h.own.ne_cells h.box (by decide)
  have hu : u.ownBlock ≠ some db := fun e => by
    rcases h3.2 db e with e1 | e1
    · exact hne e1
    · omega
  refine ⟨((h.box.mods hm fun e => e).mods hm3 hne).set_ 0 u, ?_, h.db, ((h.hm.trans hm fun _ _ e => e).trans hm3 fun k hk e => absurd hk (Nat.not_lt.2 (h.own.2 k e))).setCell _ _ fun hb => absurd hb (Nat.not_lt.2 h.db)⟩
  have h4 : Own w3 (fun g => W.heap.size ≤ g) 9 1 u ((l.drop j).reverse).length (((l.drop j).reverse).map ks) := by
    rw [rev_next hx, List.map_append, List.length_append]
    refine h3.more fun g hg => ?_
    rcases hg with e | e
    · exact h.own.2 g e
    · exact e ▸ hsz
  exact h4.far (p := ⟨db, 0, none⟩) hu u
theorem relE_rev (l : List Tx) (C R H : Int) : relE l.reverse C R H = relE l C R H := by
  unfold relE
  rw [newE_rev, List.length_reverse]
end Go.Proofs.YtcifajfmdpjfiaaDoor
