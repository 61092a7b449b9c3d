/- The reference's sink beside the other; the law SinkPlays, walked. -/
import Derived.Test.YtmfpgghpnkmkpaaDoorSinkS
namespace Go.Proofs.YtmfpgghpnkmkpaaDoor
open Go.RowKit Go.Tum
structure Rfs (w : World) (q : Nat) (pv : Value) (s : SinkS) (G : Nat → Prop) (n0 : Nat) : Prop where
  ref : RefS w q pv s G
  lt : ∀ g, G g → n0 ≤ g ∧ g < w.heap.size
  room : n0 ≤ w.heap.size
theorem Rfs.same {w w' : World} {q n0 : Nat} {pv : Value} {s : SinkS} {G S : Nat → Prop} (h : Rfs w q pv s G n0) (hm : Mods S w w') (hS : ∀ g, G g → ¬ S g) : Rfs w' q pv s G n0 :=
  ⟨h.ref.same hm fun g _ hs hf => hS g hf hs, fun g hg => ⟨(h.lt g hg).1, Nat.lt_of_lt_of_le (h.lt g hg).2 hm.size⟩, Nat.le_trans h.room hm.size⟩
theorem Rfs.keep {w w' : World} {q n0 : Nat} {pv : Value} {s : SinkS} {G : Nat → Prop} (h : Rfs w q pv s G n0) (hm : Mods No w w') : Rfs w' q pv s G n0 := h.same hm fun _ _ e => e
theorem Rfs.low {w : World} {q n0 n1 : Nat} {pv : Value} {s : SinkS} {G : Nat → Prop} (h : Rfs w q pv s G n0) (hn : n1 ≤ n0) : Rfs w q pv s G n1 := ⟨h.ref, fun g hg => ⟨Nat.le_trans hn (h.lt g hg).1, (h.lt g hg).2⟩, Nat.le_trans hn h.room⟩
theorem refNew_S (w : World) (A : Option Addr) (n c : Nat) : Calls Tryd.prog 11 #[.slice A n c] w (Ret fun v w' => ∃ q G, v = (.pointer (some ⟨q, 0, none⟩)) ∧ Rfs w' q (.slice A n c) s0 G w.heap.size ∧ Mods No w w') :=
  (refNew_K w _ A n c rfl).mono fun e w' he => by
    cases e with
    | returned v =>
      obtain ⟨rfl, hk, hm⟩ := he
      exact ⟨_, fun g => w.heap.size ≤ g ∧ g < w'.heap.size, rfl, ⟨hk.more fun g hg e => ⟨e, hg⟩, fun g hg => hg, hm.size⟩, hm⟩
    | panicked c => exact he
    | outgrown => exact he
theorem refFrame_S (w : World) (q n0 : Nat) (pv : Value) (plan : Plan) (s : SinkS) (G H : Nat → Prop) (id : Int) (bs : Value) (b : List UInt8) (N : Nat) (h : Rfs w q pv s G n0)
    (hpv : Rd w H 2 pv plan.length (planCells plan)) (hb : Rd w H 1 bs b.length (vbs b)) (hH : ∀ g, H g → g < n0) (hplan : plan.length ≤ 1000000000) (b2 : b.length ≤ 2000000) (hB : Bnd s N) (hN : N ≤ 100000000) :
    Calls Tryd.prog 13 #[(.pointer (some ⟨q, 0, none⟩)), .int .i64 id, bs] w (Ret fun v w' => v = .int .i64 (frame plan s id b).2 ∧ ∃ G', Rfs w' q pv (frame plan s id b).1 G' n0 ∧ (∀ g, G' g → G g ∨ w.heap.size ≤ g) ∧ Mods G w w') := by
  refine (refFrame_K w q pv plan s G H id bs b h.ref hpv hb (fun g hg => ⟨Nat.lt_of_lt_of_le (hH g hg) h.room, fun e => by have := hH g hg; have := (h.lt g e).1; omega⟩) hplan b2 (fun c hc => by have := hB.each c hc; omega) (by have := hB.writes; omega) (by have := hB.conns; omega) (by have := hB.whole; omega) (by have := hB.lost; omega)).mono fun e w' he => ?_
  cases e with
  | returned v =>
    obtain ⟨rfl, hk', hm⟩ := he
    refine ⟨rfl, fun g => (G g ∨ w.heap.size ≤ g) ∧ g < w'.heap.size, ⟨hk'.more fun g hg e => ⟨e, hg⟩, fun g hg => ⟨?_, hg.2⟩, Nat.le_trans h.room hm.size⟩, fun g hg => hg.1, hm⟩
    rcases hg.1 with e | e
    · exact (h.lt g e).1
    · exact Nat.le_trans h.room e
  | panicked c => exact he
  | outgrown => exact he
/-- What the reference's report reads as, in its block. -/
theorem Rfs.rep {w : World} {q n0 : Nat} {pv : Value} {s : SinkS} {G : Nat → Prop} (h : Rfs w q pv s G n0) :
    ∃ cv wv lv bvs, Cells w q 41 #[pv, cv, wv, lv, .int .i64 s.writes, .int .i64 s.last, .bool s.any] ∧ RepRd w G s cv wv lv bvs ∧ G q := by
  obtain ⟨col, cv, wv, lv, bvs, hr, hG⟩ := h.ref
  exact ⟨cv, wv, lv, bvs, hr.hdr, hr.rep.rd.more fun g hg => hG g hg.1 hg.2, hG q hr.hdr.lt (by rw [hr.colq]; decide)⟩
/-- What frames make of a sink. -/
def runs (plan : Plan) (l : List (Int × List UInt8)) : SinkS := l.foldl (fun s x => (frame plan s x.1 x.2).1) s0
def wt (l : List (Int × List UInt8)) : Nat := (l.map fun x => x.2.length + 1).sum
theorem runs_snoc (plan : Plan) (l : List (Int × List UInt8)) (x : Int × List UInt8) : runs plan (l ++ [x]) = (frame plan (runs plan l) x.1 x.2).1 := by simp [runs]
theorem wt_snoc (l : List (Int × List UInt8)) (x : Int × List UInt8) : wt (l ++ [x]) = wt l + x.2.length + 1 := by simp [wt]; omega
theorem wt_take (l : List (Int × List UInt8)) (i : Nat) : wt (l.take i) ≤ wt l := by
  have h : l.map (fun x => x.2.length + 1) = (l.take i).map (fun x => x.2.length + 1) ++ (l.drop i).map (fun x => x.2.length + 1) := by rw [← List.map_append, List.take_append_drop]
  unfold wt
  rw [h, List.sum_append]
  exact Nat.le_add_right _ _
theorem wt_mem {l : List (Int × List UInt8)} {i : Nat} {x : Int × List UInt8} (h : l[i]? = some x) : wt (l.take i) + x.2.length + 1 ≤ wt l := by
  have e : l.take (i + 1) = l.take i ++ [x] := by rw [List.take_add_one, h]; rfl
  have := wt_take l (i + 1)
  rw [e, wt_snoc] at this
  exact this
theorem runs_bnd (plan : Plan) (l : List (Int × List UInt8)) : Bnd (runs plan l) (wt l) := by
  suffices h : ∀ (l : List (Int × List UInt8)) s N, Bnd s N → Bnd (l.foldl (fun s x => (frame plan s x.1 x.2).1) s) (N + wt l) by
    have := h l s0 0 (bnd_s0 0)
    rwa [Nat.zero_add] at this
  intro l
  induction l with
  | nil => intro s N h; simpa [wt] using h
  | cons x l ih =>
    intro s N h
    have := ih _ _ (frame_bnd (plan := plan) h x.1 x.2)
    simp only [List.foldl_cons]
    refine this.le ?_
    simp only [wt, List.map_cons, List.sum_cons]
    omega
end Go.Proofs.YtmfpgghpnkmkpaaDoor
