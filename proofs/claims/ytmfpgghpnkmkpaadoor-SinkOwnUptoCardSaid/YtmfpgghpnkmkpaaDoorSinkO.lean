/- A sink and the frames so far; the example's data. -/
import Derived.Test.YtmfpgghpnkmkpaaDoorSinkN
import Derived.Lib.SlBytesConst
namespace Go.Proofs.YtmfpgghpnkmkpaaDoor
open Go.RowKit Go.Tum
theorem _root_.Go.Tum.Rd.lit (w : World) (cs : Array Value) (e : TypeId) (fr : Nat × Nat) {s n size : Nat} (hs : s = w.heap.size) (hl : cs.size = n * size) (hm : n ≤ maxLen) : Rd (w.alloc (.cells cs e fr)) (fun g => g = s) size (.slice (some ⟨s, 0, none⟩) n n) n cs.toList := by
  subst hs
  refine ⟨by simpa using hl, _, n, rfl, Nat.le_refl _, hm, fun _ => ⟨w.heap.size, 0, rfl, rfl, fun j u hu => ?_⟩⟩
  rw [Nat.zero_add, World.cell?_alloc_mark]
  simpa using hu
theorem sink_shrink {w : World} {p : Nat} {plan : Plan} {s : SinkS} {ks : List Nat} {F : Nat → Prop} (h : SinkK w p plan s ks F) : SinkK w p plan s ks (fun g => F g ∧ g < w.heap.size) := h.more fun _ hg e => ⟨e, hg⟩
theorem sink_alloc {w : World} {p : Nat} {plan : Plan} {s : SinkS} {ks : List Nat} {F : Nat → Prop} (h : SinkK w p plan s ks F) (o : Obj) : SinkK (w.alloc o) p plan s ks (fun g => F g ∧ g < w.heap.size) :=
  (sink_shrink h).same ((Mods.refl No w).alloc o) fun _ _ e => e.elim
def sA : SinkS := { conns := [⟨[97, 98], true⟩], any := true, last := 1, whole := [], lost := [1], writes := 1 }
def sB : SinkS := { conns := [⟨[97, 98], true⟩, ⟨[100, 101], false⟩], any := true, last := 2, whole := [2], lost := [1], writes := 2 }
theorem frame_A : frame [(2, true)] s0 1 [97, 98, 99] = (sA, 0) := by rfl
theorem frame_B : frame [(2, true)] sA 2 [100, 101] = (sB, 0) := by rfl
theorem sameRep_self (s : SinkS) : sameRep s s = true := by simp [sameRep]
theorem mods_new {F : Nat → Prop} {a b c : World} (h : Mods No a b) (k : Mods F b c) (hF : ∀ g, g < a.heap.size → ¬ F g) : Mods No a c := h.trans k fun g hg e => absurd e (hF g hg)
/-- The literal that the example is held against. -/
theorem lit_rep (w : World) : RepRd (((((w.alloc (.cells #[.int .u8 97, .int .u8 98] 5 (2, 3))).alloc (.cells #[.int .u8 100, .int .u8 101] 5 (2, 3))).alloc (.cells #[.slice (some ⟨w.heap.size, 0, none⟩) 2 2, .bool true, .slice (some ⟨w.heap.size + 1, 0, none⟩) 2 2, .bool false] 54)).alloc (.cells #[.int .i64 2] 2)).alloc (.cells #[.int .i64 1] 2))
    (fun g => w.heap.size ≤ g ∧ g < w.heap.size + 5) sB (.slice (some ⟨w.heap.size + 2, 0, none⟩) 2 2) (.slice (some ⟨w.heap.size + 3, 0, none⟩) 1 1) (.slice (some ⟨w.heap.size + 4, 0, none⟩) 1 1) [.slice (some ⟨w.heap.size, 0, none⟩) 2 2, .slice (some ⟨w.heap.size + 1, 0, none⟩) 2 2] := by
  have b0 := Rd.lit w #[.int .u8 97, .int .u8 98] 5 (2, 3) (n := 2) (size := 1) rfl rfl (by decide)
  obtain ⟨w1, hw1⟩ : ∃ w1, w1 = w.alloc (.cells #[.int .u8 97, .int .u8 98] 5 (2, 3)) := ⟨_, rfl⟩
  have z1 : w1.heap.size = w.heap.size + 1 := by rw [hw1]; simp
  have b1 := Rd.lit w1 #[.int .u8 100, .int .u8 101] 5 (2, 3) (s := w.heap.size + 1) (n := 2) (size := 1) z1.symm rfl (by decide)
  obtain ⟨w2, hw2⟩ : ∃ w2, w2 = w1.alloc (.cells #[.int .u8 100, .int .u8 101] 5 (2, 3)) := ⟨_, rfl⟩
  have z2 : w2.heap.size = w.heap.size + 2 := by rw [hw2]; simp [z1]
  have b2 := Rd.box w2 #[.slice (some ⟨w.heap.size, 0, none⟩) 2 2, .bool true, .slice (some ⟨w.heap.size + 1, 0, none⟩) 2 2, .bool false] 54 (s := w.heap.size + 2) (n := 2) (size := 2) z2.symm rfl (by decide)
  obtain ⟨w3, hw3⟩ : ∃ w3, w3 = w2.alloc (.cells #[.slice (some ⟨w.heap.size, 0, none⟩) 2 2, .bool true, .slice (some ⟨w.heap.size + 1, 0, none⟩) 2 2, .bool false] 54) := ⟨_, rfl⟩
  have z3 : w3.heap.size = w.heap.size + 3 := by rw [hw3]; simp [z2]
  have b3 := Rd.box w3 #[.int .i64 2] 2 (s := w.heap.size + 3) (n := 1) (size := 1) z3.symm rfl (by decide)
  obtain ⟨w4, hw4⟩ : ∃ w4, w4 = w3.alloc (.cells #[.int .i64 2] 2) := ⟨_, rfl⟩
  have z4 : w4.heap.size = w.heap.size + 4 := by rw [hw4]; simp [z3]
  have b4 := Rd.box w4 #[.int .i64 1] 2 (s := w.heap.size + 4) (n := 1) (size := 1) z4.symm rfl (by decide)
  rw [← hw1] at b0 ⊢
  rw [← hw2] at b1 ⊢
  rw [← hw3] at b2 ⊢
  rw [← hw4] at b3 ⊢
  obtain ⟨w5, hw5⟩ : ∃ w5, w5 = w4.alloc (.cells #[.int .i64 1] 2) := ⟨_, rfl⟩
  rw [← hw5] at b4 ⊢
  have s12 : ∀ g, g < w.heap.size + 1 → w2.heap[g]? = w1.heap[g]? := fun g hg => by rw [hw2]; exact Below.heap_alloc w1 _ g (by omega)
  have s23 : ∀ g, g < w.heap.size + 2 → w3.heap[g]? = w2.heap[g]? := fun g hg => by rw [hw3]; exact Below.heap_alloc w2 _ g (by omega)
  have s34 : ∀ g, g < w.heap.size + 3 → w4.heap[g]? = w3.heap[g]? := fun g hg => by rw [hw4]; exact Below.heap_alloc w3 _ g (by omega)
  have s45 : ∀ g, g < w.heap.size + 4 → w5.heap[g]? = w4.heap[g]? := fun g hg => by rw [hw5]; exact Below.heap_alloc w4 _ g (by omega)
  refine ⟨rfl, ?_, fun i bv c h1 h2 => ?_, ?_, ?_⟩
  · exact ((b2.same fun g hg => s34 g (by omega)).same fun g hg => s45 g (by omega)).more fun g hg => ⟨by omega, by omega⟩
  · match i, h1, h2 with
    | 0, h1, h2 =>
      simp [sB] at h1 h2
      subst h1 h2
      exact ((((b0.same fun g hg => s12 g (by omega)).same fun g hg => s23 g (by omega)).same fun g hg => s34 g (by omega)).same fun g hg => s45 g (by omega)).more fun g hg => ⟨by omega, by omega⟩
    | 1, h1, h2 =>
      simp [sB] at h1 h2
      subst h1 h2
      exact (((b1.same fun g hg => s23 g (by omega)).same fun g hg => s34 g (by omega)).same fun g hg => s45 g (by omega)).more fun g hg => ⟨by omega, by omega⟩
    | i + 2, h1, h2 => simp at h1
  · exact (b3.same fun g hg => s45 g (by omega)).more fun g hg => ⟨by omega, by omega⟩
  · exact b4.more fun g hg => ⟨by omega, by omega⟩
/-! ### A sink and the frames so far -/
structure Bnd (s : SinkS) (N : Nat) : Prop where
  conns : s.conns.length ≤ N
  whole : s.whole.length ≤ N
  lost : s.lost.length ≤ N
  each : ∀ c ∈ s.conns, c.bytes.length ≤ N
  writes : s.writes ≤ 65 * N
theorem Bnd.le {s : SinkS} {N M : Nat} (h : Bnd s N) (hn : N ≤ M) : Bnd s M := ⟨Nat.le_trans h.conns hn, Nat.le_trans h.whole hn, Nat.le_trans h.lost hn, fun c hc => Nat.le_trans (h.each c hc) hn, Nat.le_trans h.writes (Nat.mul_le_mul_left _ hn)⟩
theorem bnd_s0 (N : Nat) : Bnd s0 N := ⟨Nat.zero_le _, Nat.zero_le _, Nat.zero_le _, fun c h => (by cases h), Nat.zero_le _⟩
theorem sendGo_len (plan : Plan) : ∀ (f : Nat) (acc : List UInt8) (wr idle : Nat) (b : List UInt8), (sendGo plan f acc wr idle b).1.length ≤ acc.length + b.length ∧ (sendGo plan f acc wr idle b).2.1 ≤ wr + f
  | 0, acc, wr, idle, b => by simp [sendGo]
  | f + 1, acc, wr, idle, b => by
    have hk := pick_le plan wr b.length
    have hl : ∀ k, (acc ++ b.take k).length + (b.drop k).length = acc.length + b.length := fun k => by simp; omega
    have h1 := fun i => sendGo_len plan f (acc ++ b.take (pick plan wr b.length).1) (wr + 1) i (b.drop (pick plan wr b.length).1)
    rw [hl] at h1
    unfold sendGo
    have h2 := hl (pick plan wr b.length).1
    split
    · exact ⟨by simp, by simp⟩
    · split
      · exact ⟨by dsimp only; omega, by dsimp only; omega⟩
      · split
        · exact ⟨(h1 0).1, by have := (h1 0).2; omega⟩
        · split
          · exact ⟨by dsimp only; omega, by dsimp only; omega⟩
          · exact ⟨(h1 (idle + 1)).1, by have := (h1 (idle + 1)).2; omega⟩
theorem opened_len (cs : List ConnS) : (opened cs).length ≤ cs.length + 1 := by
  unfold opened; split <;> simp
theorem send_bnd {plan : Plan} {s : SinkS} {N : Nat} (h : Bnd s N) (b : List UInt8) : Bnd (send plan s b).1 (N + b.length + 1) := by
  unfold send
  split
  · exact h.le (by omega)
  · obtain ⟨base, acc, e1, e2, e3, e4⟩ := opened_snoc s.conns
    have hl := opened_len s.conns
    have hg := sendGo_len plan (fuel b) (lastBytes (opened s.conns)) s.writes 0 b
    have hacc : acc.length ≤ N := by
      rcases e4 with rfl | ⟨c, hc, rfl⟩
      · simp
      · exact h.each c hc
    have hbase : ∀ c ∈ base, c.bytes.length ≤ N := fun c hc => by
      have : c ∈ opened s.conns := by rw [e1]; simp [hc]
      unfold opened at this
      split at this
      · exact h.each c this
      · rcases List.mem_append.1 this with h1 | h1
        · exact h.each c h1
        · simp at h1; subst h1; simp
    rw [e2] at hg
    have hc := h.conns
    rw [e1] at hl
    simp only [List.length_append, List.length_singleton] at hl
    refine ⟨?_, ?_, ?_, fun c hc => ?_, ?_⟩
    · dsimp only; rw [e3]; simp only [List.length_append, List.length_singleton]; omega
    · have := h.whole; dsimp only; omega
    · have := h.lost; dsimp only; omega
    · dsimp only at hc
      rw [e3] at hc
      rcases List.mem_append.1 hc with h1 | h1
      · have := hbase c h1; omega
      · simp at h1; subst h1; dsimp only; rw [e2]; omega
    · have := h.writes
      dsimp only
      rw [e2]
      have h2 := hg.2
      simp only [fuel] at h2 ⊢
      omega
theorem frame_bnd {plan : Plan} {s : SinkS} {N : Nat} (h : Bnd s N) (id : Int) (b : List UInt8) : Bnd (frame plan s id b).1 (N + b.length + 1) := by
  have hsw : ∀ s0, (send plan s0 b).1.whole = s0.whole ∧ (send plan s0 b).1.lost = s0.lost := fun s0 => by unfold send; split <;> exact ⟨rfl, rfl⟩
  unfold frame
  split
  · exact h.le (by omega)
  · have h1 : Bnd { s with any := true, last := id } N := ⟨h.conns, h.whole, h.lost, h.each, h.writes⟩
    have h2 := send_bnd (plan := plan) h1 b
    have h3 := hsw { s with any := true, last := id }
    have hw := h.whole
    have hl := h.lost
    dsimp only at h3 ⊢
    split
    · exact ⟨h2.conns, by simp only [List.length_append, List.length_singleton, h3.1]; omega, h2.lost, h2.each, h2.writes⟩
    · exact ⟨h2.conns, h2.whole, by simp only [List.length_append, List.length_singleton, h3.2]; omega, h2.each, h2.writes⟩
/-- A sink of blocks F, all behind n0. -/
structure Snk (w : World) (p : Nat) (plan : Plan) (s : SinkS) (F : Nat → Prop) (n0 : Nat) : Prop where
  sink : ∃ ks, SinkK w p plan s ks F
  lt : ∀ g, F g → n0 ≤ g ∧ g < w.heap.size
  room : n0 ≤ w.heap.size
theorem Snk.same {w w' : World} {p n0 : Nat} {plan : Plan} {s : SinkS} {F S : Nat → Prop} (h : Snk w p plan s F n0) (hm : Mods S w w') (hS : ∀ g, F g → ¬ S g) : Snk w' p plan s F n0 := by
  obtain ⟨ks, hk⟩ := h.sink
  exact ⟨⟨ks, hk.same hm fun g _ hs hf => hS g hf hs⟩, fun g hg => ⟨(h.lt g hg).1, Nat.lt_of_lt_of_le (h.lt g hg).2 hm.size⟩, Nat.le_trans h.room hm.size⟩
theorem Snk.keep {w w' : World} {p n0 : Nat} {plan : Plan} {s : SinkS} {F : Nat → Prop} (h : Snk w p plan s F n0) (hm : Mods No w w') : Snk w' p plan s F n0 := h.same hm fun _ _ e => e
theorem new_S (w : World) (G : Nat → Prop) (pv : Value) (plan : Plan) (h : Rd w G 2 pv plan.length (planCells plan)) (hG : ∀ g, G g → g < w.heap.size) (hn : plan.length ≤ 1000000000) :
    Calls Tryd.prog 10 #[pv] w (Ret fun v w' => ∃ p F, v = (.pointer (some ⟨p, 0, none⟩)) ∧ Snk w' p plan s0 F w.heap.size ∧ Mods No w w') :=
  (new_K w G pv plan h hG hn).mono fun e w' he => by
    cases e with
    | returned v =>
      obtain ⟨p, rfl, hk, hm⟩ := he
      exact ⟨p, fun g => w.heap.size ≤ g ∧ g < w'.heap.size, rfl, ⟨⟨_, hk.more fun g hg e => ⟨e, hg⟩⟩, fun g hg => hg, hm.size⟩, hm⟩
    | panicked c => exact he
    | outgrown => exact he
theorem frame_S (w : World) (p n0 : Nat) (plan : Plan) (s : SinkS) (F H : Nat → Prop) (id : Int) (bs : Value) (ea : Addr) (b : List UInt8) (N : Nat) (h : Snk w p plan s F n0)
    (hg : w.cell? ⟨0, 0, none⟩ = some (.iface 94 (.pointer (some ea)))) (h0 : 0 < n0) (hb : Rd w H 1 bs b.length (vbs b)) (hH : ∀ g, H g → g < w.heap.size ∧ ¬ F g)
    (hplan : plan.length ≤ 1000000000) (b2 : b.length ≤ 2000000) (hB : Bnd s N) (hN : N ≤ 100000000) :
    Calls Tryd.prog 12 #[(.pointer (some ⟨p, 0, none⟩)), .int .i64 id, bs] w (Ret fun v w' => v = .int .i64 (frame plan s id b).2 ∧ ∃ F', Snk w' p plan (frame plan s id b).1 F' n0 ∧ (∀ g, F' g → F g ∨ w.heap.size ≤ g) ∧ Mods F w w' ∧ w'.cell? ⟨0, 0, none⟩ = some (.iface 94 (.pointer (some ea)))) := by
  obtain ⟨ks, hk⟩ := h.sink
  have hF0 : ¬ F 0 := fun e => by have := (h.lt _ e).1; omega
  refine (frame_K w p plan s ks F H id bs ea b hk hg hF0 hb hH hplan b2 (fun c hc => by have := hB.each c hc; omega) (by have := hB.writes; omega) (by have := hB.conns; omega) (by have := hB.whole; omega) (by have := hB.lost; omega)).mono fun e w' he => ?_
  cases e with
  | returned v =>
    obtain ⟨rfl, ks', hk', hm⟩ := he
    refine ⟨rfl, fun g => (F g ∨ w.heap.size ≤ g) ∧ g < w'.heap.size, ⟨⟨ks', hk'.more fun g hg e => ⟨e, hg⟩⟩, fun g hg => ⟨?_, hg.2⟩, Nat.le_trans h.room hm.size⟩, fun g hg => hg.1, hm, ?_⟩
    · rcases hg.1 with e | e
      · exact (h.lt g e).1
      · exact Nat.le_trans h.room e
    · exact (World.cell?_of_block (a := ⟨0, 0, none⟩) (hm.block _ (Nat.lt_of_lt_of_le h0 h.room) hF0)).trans hg
  | panicked c => exact he
  | outgrown => exact he
theorem report_S (w : World) (p n0 : Nat) (plan : Plan) (s : SinkS) (F : Nat → Prop) (N : Nat) (h : Snk w p plan s F n0) (hB : Bnd s N) (hN : N ≤ 100000000) :
    Calls Tryd.prog 15 #[(.pointer (some ⟨p, 0, none⟩))] w (Ret fun v w' => RepNew w w' s v) := by
  obtain ⟨ks, hk⟩ := h.sink
  exact report_K w p plan s ks F hk (by have := hB.conns; omega) (by have := hB.whole; omega) (by have := hB.lost; omega) fun c hc => by have := hB.each c hc; omega
theorem Snk.low {w : World} {p n0 n1 : Nat} {plan : Plan} {s : SinkS} {F : Nat → Prop} (h : Snk w p plan s F n0) (hn : n1 ≤ n0) : Snk w p plan s F n1 := ⟨h.sink, fun g hg => ⟨Nat.le_trans hn (h.lt g hg).1, (h.lt g hg).2⟩, Nat.le_trans hn h.room⟩
theorem RepNew.got {w w' : World} {s : SinkS} {v : Value} (h : RepNew w w' s v) : ∃ cv wv lv bvs, v = .agg #[cv, wv, lv, .int .i64 s.writes] ∧ RepRd w' (fun g => w.heap.size ≤ g ∧ g < w'.heap.size) s cv wv lv bvs ∧ Mods No w w' := by
  obtain ⟨col, cv, wv, lv, bvs, rfl, hr, hc, hm⟩ := h
  exact ⟨cv, wv, lv, bvs, rfl, hr.rd.more fun g hg => ⟨hc g hg.2, hg.1⟩, hm⟩
theorem RepRd.keep {w w' : World} {F : Nat → Prop} {s : SinkS} {cv wv lv : Value} {bvs : List Value} (h : RepRd w F s cv wv lv bvs) (hF : ∀ g, F g → g < w.heap.size) (hm : Mods No w w') : RepRd w' F s cv wv lv bvs :=
  h.same (hm.same fun g hg => ⟨hF g hg, fun e => e⟩)
end Go.Proofs.YtmfpgghpnkmkpaaDoor
