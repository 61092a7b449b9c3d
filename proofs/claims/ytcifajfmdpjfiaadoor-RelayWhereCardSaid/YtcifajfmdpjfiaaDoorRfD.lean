/- The reference's ring: put. -/
import Derived.Test.YtcifajfmdpjfiaaDoorRfC
import Derived.Test.YtcifajfmdpjfiaaDoorMPl
import Derived.Deep.CutBlock
import Derived.Deep.CutRange
import Derived.BigQuiet
namespace Go.Proofs.YtcifajfmdpjfiaaDoor
open Go.RowKit Go.Tum Go.Lib Go.Sort
set_option maxRecDepth 100000
/-- A node's places, each put in its order. -/
def ownL (c : Nat) (s : Tx) : List Plc := (news c s).foldl (insR ltP) []
theorem app_ge {n1 n m size : Nat} {e : TypeId} {w3 w4 : World} {v u : Value} {xs ys : List Value} (hO : Own w3 (fun g => n1 ≤ g) e size v n xs) (hn : n1 ≤ w3.heap.size)
    (O : Own w4 (fun k => v.ownBlock = some k ∨ k = w3.heap.size) e size u m ys) (hM : Mods (fun k => v.ownBlock = some k) w3 w4) : Own w4 (fun g => n1 ≤ g) e size u m ys ∧ Mods (fun g => n1 ≤ g) w3 w4 ∧ n1 ≤ w4.heap.size :=
  ⟨O.more fun k hk => by rcases hk with hk | hk; exact hO.2 k hk; exact hk ▸ hn, hM.mono fun k _ hk => hO.2 k hk, Nat.le_trans hn hM.size⟩
theorem put_nodes {w w6 : World} {r c : Nat} {nv pv u : Value} {N : List Tx} {L : List Plc} {s : Tx} {xs : List Value} {n : Nat} (h : RfK w r c nv pv N L) (hO : Own w6 (fun g => w.heap.size ≤ g) 9 1 u n xs) (hm : Mods (fun g => w.heap.size ≤ g) w w6)
    (hn : n = (insT N s).length) (hx : xs = (insT N s).map ks) : RfK (w6.setCell ⟨r, 1, none⟩ u) r c u pv (insT N s) L ∧ Mods (fun k => k = r) w (w6.setCell ⟨r, 1, none⟩ u) := by
  subst hn hx
  have rl := h.cells.lt
  have h1 : Mods No w w6 := hm.mono fun k hk e => absurd hk (Nat.not_lt.2 e)
  have hc := h.cells.mods h1 fun e => e
  have hu : u.ownBlock ≠ some r := fun e => by have := hO.2 r e; omega
  have hM : Mods (fun k => k = r) w (w6.setCell ⟨r, 1, none⟩ u) := (h1.mono fun _ _ e => e.elim).setCell _ _ fun _ => rfl
  have ho := hO.far (p := ⟨r, 1, none⟩) hu u
  exact ⟨⟨hc.set_ 1 u, ⟨ho.1, fun g hg => ⟨ho.lt g hg, fun e => hu (e ▸ hg)⟩⟩, h.pown.but hM⟩, hM⟩
theorem put_list {N : List Tx} {s : Tx} {ps : Nat} (h : ps = posT N s) : ((N.map ks).take (ps * 1) ++ [ks s]) ++ ((N.map ks).take (N.length * 1)).drop (ps * 1) = (insT N s).map ks := by
  rw [insT_at, ← h, Nat.mul_one, Nat.mul_one, List.take_of_length_le (l := N.map ks) (i := N.length) (by simp)]
  simp [List.map_take, List.map_drop]
theorem ks_ones' (L : List Tx) (k : Nat) : ∀ u ∈ (L.map ks).take k, u.oneCell' = true := fun u hu => ks_ones L u (List.mem_of_mem_take hu)
theorem rhash_cat (w : World) (s : Tx) (i : Nat) (t : Tx) (ht : t = Lib.itoa (i : Int)) (hs : s.length ≤ 200) (hi : i ≤ 65536) (y : Int) (hy : y = (fnv64 (s ++ [58] ++ t) : Int)) : Calls Tryd.prog 51 #[.string (⟨s.toArray⟩ ++ ⟨#[58]⟩ ++ ⟨t.toArray⟩)] w (Ret fun v w' => v = .int .u64 y ∧ w = w') := by
  rw [show (⟨#[58]⟩ : ByteArray) = ⟨([58] : Tx).toArray⟩ from rfl, ba_cat s [58], ba_cat (s ++ [58]) t, hy]
  exact rhash64_K w (s ++ [58] ++ t) (by
    have := Lib.itoa_length_le (i : Int) (by omega) (by omega)
    subst ht
    unfold maxLen
    simp only [List.length_append, List.length_cons, List.length_nil]
    omega)
theorem insR_len {l : List Plc} {p : Plc} : (insR ltP l p).length = l.length + 1 := by rw [(insR_perm ltP l p).length_eq, List.length_append, List.length_singleton]
theorem ownL_len (c : Nat) (s : Tx) : (ownL c s).length = c := by
  have : ∀ (l acc : List Plc), (l.foldl (insR ltP) acc).length = acc.length + l.length := fun l => by
    induction l with
    | nil => intro acc; rfl
    | cons x l ih => intro acc; rw [List.foldl_cons, ih, insR_len, List.length_cons]; omega
  unfold ownL
  rw [this, news_len]; simp
theorem ownL_next (c : Nat) (s : Tx) : ownL (c + 1) s = insR ltP (ownL c s) (newP s c) := by
  unfold ownL
  rw [news_next, List.foldl_append]; rfl
/-- Between two rounds of put's second loop. -/
structure OwI (W wr : World) (i : Nat) (s : Tx) (v : Value) : Prop where
  own : Own wr (fun g => W.heap.size ≤ g) 103 2 v i (plcs (ownL i s))
  hm : Mods No W wr
/-- Between two rounds of put's inner loop. -/
structure InI (W wb wx : World) (pb i j g c : Nat) (ow : List Plc) (p hole : Plc) : Prop where
  own : Own wx (fun g => W.heap.size ≤ g) 103 2 (.slice (some ⟨g, 0, none⟩) (i + 1) c) (i + 1) (plcs (ow.take j ++ hole :: ow.drop j))
  box : Cells wx pb 103 #[.int .u64 (p.1 : Int), ks p.2]
  gt : ∀ y ∈ ow.drop j, ltP p y = true
  hm : Mods (fun g => W.heap.size ≤ g) wb wx
theorem InI.put {W wb wx : World} {pb i j g c : Nat} {ow : List Plc} {p hole : Plc} (h : InI W wb wx pb i j g c ow p hole) (hg : W.heap.size ≤ g) (hne : g ≠ pb) (hj : j ≤ ow.length) (x : Plc) :
    Own ((wx.setCell ⟨g, j * 2, none⟩ (.int .u64 (x.1 : Int))).setCell ⟨g, j * 2 + 1, none⟩ (ks x.2)) (fun g => W.heap.size ≤ g) 103 2 (.slice (some ⟨g, 0, none⟩) (i + 1) c) (i + 1) (plcs (ow.take j ++ x :: ow.drop j)) ∧
    Cells ((wx.setCell ⟨g, j * 2, none⟩ (.int .u64 (x.1 : Int))).setCell ⟨g, j * 2 + 1, none⟩ (ks x.2)) pb 103 #[.int .u64 (p.1 : Int), ks p.2] ∧
    Mods (fun g => W.heap.size ≤ g) wb ((wx.setCell ⟨g, j * 2, none⟩ (.int .u64 (x.1 : Int))).setCell ⟨g, j * 2 + 1, none⟩ (ks x.2)) := by
  have h1 := (h.own.set (g := g) rfl (j * 2) (.int .u64 (x.1 : Int))).set (g := g) rfl (j * 2 + 1) (ks x.2)
  rw [plcs_set] at h1
  have e : (ow.take j ++ hole :: ow.drop j).set j x = ow.take j ++ x :: ow.drop j := by
    rw [List.set_append_right _ _ (by rw [List.length_take]; omega), List.length_take, Nat.min_eq_left hj, Nat.sub_self, List.set_cons_zero]
  rw [e] at h1
  exact ⟨h1, (h.box.far (fun e => hne e.symm) _).far (fun e => hne e.symm) _, (h.hm.setCell _ _ fun _ => hg).setCell _ _ fun _ => hg⟩
theorem InI.hole_ {W wb wx : World} {pb i j g c : Nat} {ow : List Plc} {p hole : Plc} (h : InI W wb wx pb i j g c ow p hole) (hj : j ≤ i) (hl : ow.length = i) :
    wx.cell? ⟨g, j * 2, none⟩ = some (.int .u64 (hole.1 : Int)) ∧ wx.cell? ⟨g, j * 2 + 1, none⟩ = some (ks hole.2) ∧ wx.frozen? ⟨g, j * 2, none⟩ = false ∧ wx.frozen? ⟨g, j * 2 + 1, none⟩ = false := by
  obtain ⟨g', c', e, _, _, hx⟩ := h.own.cells (Nat.succ_pos _)
  injection e with e _ _
  injection e with e
  injection e with e _
  subst e
  have hat : (ow.take j ++ hole :: ow.drop j)[j]? = some hole := by
    rw [List.getElem?_append_right (by rw [List.length_take]; omega), List.length_take, Nat.min_eq_left (by omega), Nat.sub_self, List.getElem?_cons_zero]
  have h0 := hx (j * 2) (by omega)
  have h1 := hx (j * 2 + 1) (by omega)
  have q0 := plcs_get (ow.take j ++ hole :: ow.drop j) j 0 (by decide)
  have q1 := plcs_get (ow.take j ++ hole :: ow.drop j) j 1 (by decide)
  rw [hat] at q0 q1
  exact ⟨h0.1.trans q0, h1.1.trans q1, h0.2, h1.2⟩
theorem InI.at_ {W wb wx : World} {pb i j g c : Nat} {ow : List Plc} {p hole : Plc} (h : InI W wb wx pb i j g c ow p hole) (hj : j ≤ i) (hl : ow.length = i) {k : Nat} (hk : k < j) {x : Plc} (hx : ow[k]? = some x) :
    wx.cell? ⟨g, k * 2, none⟩ = some (.int .u64 (x.1 : Int)) ∧ wx.cell? ⟨g, k * 2 + 1, none⟩ = some (ks x.2) := by
  obtain ⟨g', c', e, _, _, hc⟩ := h.own.cells (Nat.succ_pos _)
  injection e with e _ _
  injection e with e
  injection e with e _
  subst e
  have hat : (ow.take j ++ hole :: ow.drop j)[k]? = some x := by
    rw [List.getElem?_append_left (by rw [List.length_take]; omega), List.getElem?_take_of_lt hk, hx]
  have q0 := plcs_get (ow.take j ++ hole :: ow.drop j) k 0 (by decide)
  have q1 := plcs_get (ow.take j ++ hole :: ow.drop j) k 1 (by decide)
  rw [hat] at q0 q1
  exact ⟨(hc (k * 2) (by omega)).1.trans q0, (hc (k * 2 + 1) (by omega)).1.trans q1⟩
theorem InI.drewN {W wb wx : World} {pb i j g c : Nat} {ow : List Plc} {p hole : Plc} (h : InI W wb wx pb i j g c ow p hole) (n : Nat) : InI W wb (wx.drewN n) pb i j g c ow p hole := ⟨h.own.mods ((Mods.refl No wx).drewN n) fun _ _ e => e, h.box.drewN n, h.gt, h.hm.drewN n⟩
theorem InI.no {W wb wx w' : World} {pb i j g c : Nat} {ow : List Plc} {p hole : Plc} (h : InI W wb wx pb i j g c ow p hole) (hm : Mods No wx w') : InI W wb w' pb i j g c ow p hole := ⟨h.own.mods hm fun _ _ e => e, h.box.mods hm fun e => e, h.gt, h.hm.trans hm fun _ _ e => e.elim⟩
theorem in_step {ow : List Plc} {j : Nat} {x : Plc} (hx : ow[j]? = some x) : ow.take (j + 1) ++ x :: ow.drop (j + 1) = ow.take j ++ x :: ow.drop j := by
  obtain ⟨hl, e⟩ := List.getElem?_eq_some_iff.1 hx
  rw [take_nx hx, List.append_assoc, List.singleton_append, ← e, List.getElem_cons_drop]
theorem OwI.next {W wr wb w7 wx : World} {i j g c : Nat} {s : Tx} {v : Value} {ow : List Plc} {yn : Nat} (h : OwI W wr i s v) (hb : Mods No wr wb) (h7 : Mods (fun g => W.heap.size ≤ g) wb w7) (how : ow = ownL i s) (hyn : yn = fnv64 (s ++ [58] ++ Lib.itoa (i : Int)))
    (hj : j ≤ ow.length) (h1 : ∀ y ∈ ow.drop j, ltP (yn, s) y = true) (h2 : ∀ x, j ≠ 0 → ow[j - 1]? = some x → ltP (yn, s) x = false)
    (ho : Own wx (fun g => W.heap.size ≤ g) 103 2 (.slice (some ⟨g, 0, none⟩) (i + 1) c) (i + 1) (plcs (ow.take j ++ (yn, s) :: ow.drop j))) (hm : Mods (fun g => W.heap.size ≤ g) w7 wx) : OwI W wx (i + 1) s (.slice (some ⟨g, 0, none⟩) (i + 1) c) := by
  subst how hyn
  refine ⟨?_, ((h.hm.trans hb fun _ _ e => e).trans h7 fun k hk e => absurd hk (Nat.not_lt.2 e)).trans hm fun k hk e => absurd hk (Nat.not_lt.2 e)⟩
  rw [ownL_next, show newP s i = (fnv64 (s ++ [58] ++ Lib.itoa (i : Int)), s) from rfl, insR_at hj h1 h2]
  exact ho
/-- Between two rounds of put's third loop. -/
structure MgI (W wb wx : World) (L ow D : List Plc) (i j : Nat) (v : Value) : Prop where
  own : Own wx (fun g => W.heap.size ≤ g) 103 2 v (i + j) (plcs D)
  eq : mergeL ltP L ow = D ++ mergeL ltP (L.drop i) (ow.drop j)
  hm : Mods No wb wx
theorem MgI.add {W wb wx wy w3 : World} {L ow D : List Plc} {i j i' j' : Nat} {v u : Value} {x : Plc} (h : MgI W wb wx L ow D i j v) (hW : W.heap.size ≤ wb.heap.size) (hm : Mods No wx wy)
    (h3 : Own w3 (fun k => v.ownBlock = some k ∨ k = wy.heap.size) 103 2 u (i + j + 1) (plcs D ++ [.int .u64 (x.1 : Int), ks x.2])) (hm3 : Mods (fun k => v.ownBlock = some k) wy w3) (hn : ∀ g, v.ownBlock = some g → wb.heap.size ≤ g)
    (hij : i' + j' = i + j + 1) (he : mergeL ltP (L.drop i) (ow.drop j) = x :: mergeL ltP (L.drop i') (ow.drop j')) : MgI W wb w3 L ow (D ++ [x]) i' j' u ∧ ∀ g, u.ownBlock = some g → wb.heap.size ≤ g := by
  have hs := Nat.le_trans h.hm.size hm.size
  refine ⟨⟨?_, by rw [h.eq, he, List.append_assoc]; rfl, (h.hm.trans hm fun _ _ e => e).trans hm3 fun k hk e => absurd hk (Nat.not_lt.2 (hn k e))⟩, fun g hg => ?_⟩
  · rw [hij, plcs_snoc]
    refine h3.more fun g hg => ?_
    rcases hg with e | e
    · exact h.own.2 g e
    · omega
  · rcases h3.2 g hg with e | e
    · exact hn g e
    · omega
theorem mg_left {L ow : List Plc} {i j : Nat} {x : Plc} (hx : L[i]? = some x) (h : ∀ y, ow[j]? = some y → ltP x y = true) : mergeL ltP (L.drop i) (ow.drop j) = x :: mergeL ltP (L.drop (i + 1)) (ow.drop j) := by
  obtain ⟨hl, e⟩ := List.getElem?_eq_some_iff.1 hx
  rw [← List.getElem_cons_drop hl, e]
  rcases Nat.lt_or_ge j ow.length with h1 | h1
  · have hy : ow[j]? = some ow[j] := List.getElem?_eq_getElem h1
    rw [← List.getElem_cons_drop h1]
    conv => lhs; unfold mergeL
    rw [h _ hy, if_pos rfl]
  · rw [List.drop_of_length_le h1, mergeL_nil, mergeL_nil]
theorem mg_right {L ow : List Plc} {i j : Nat} {y : Plc} (hy : ow[j]? = some y) (h : ∀ x, L[i]? = some x → ltP x y = false) : mergeL ltP (L.drop i) (ow.drop j) = y :: mergeL ltP (L.drop i) (ow.drop (j + 1)) := by
  obtain ⟨hl, e⟩ := List.getElem?_eq_some_iff.1 hy
  rw [← List.getElem_cons_drop hl, e]
  rcases Nat.lt_or_ge i L.length with h1 | h1
  · have hx : L[i]? = some L[i] := List.getElem?_eq_getElem h1
    rw [← List.getElem_cons_drop h1]
    conv => lhs; unfold mergeL
    rw [h _ hx, if_neg (by decide)]
  · rw [List.drop_of_length_le h1]
    unfold mergeL
    rfl
theorem MgI.done {W wb wx : World} {L ow D : List Plc} {j : Nat} {v : Value} (h : MgI W wb wx L ow D L.length j v) (hj : ow.length = j) : mergeL ltP L ow = D := by
  subst hj
  rw [h.eq, List.drop_length, List.drop_length, mergeL_nil, List.append_nil]
theorem put_places {w w6 : World} {r c n : Nat} {nv pv u : Value} {N : List Tx} {L D : List Plc} (h : RfK w r c nv pv N L) (hO : Own w6 (fun g => w.heap.size ≤ g) 103 2 u n (plcs D)) (hm : Mods No w w6) : RfK (w6.setCell ⟨r, 2, none⟩ u) r c nv u N D ∧ Mods (fun k => k = r) w (w6.setCell ⟨r, 2, none⟩ u) := by
  have rl := h.cells.lt
  have hc := h.cells.mods hm fun e => e
  have hu : u.ownBlock ≠ some r := fun e => by have := hO.2 r e; omega
  have hM : Mods (fun k => k = r) w (w6.setCell ⟨r, 2, none⟩ u) := (hm.mono fun _ _ e => e.elim).setCell _ _ fun _ => rfl
  have ho := hO.far (p := ⟨r, 2, none⟩) hu u
  have hn : n = D.length := by have := hO.1.1; rw [plcs_length] at this; omega
  subst hn
  exact ⟨⟨hc.set_ 2 u, h.nown.but hM, ⟨ho.1, fun g hg => ⟨ho.lt g hg, fun e => hu (e ▸ hg)⟩⟩⟩, hM⟩
set_option maxHeartbeats 6400000 in
theorem put_K (w : World) (r c : Nat) (nv pv : Value) (N : List Tx) (L : List Plc) (s : Tx) (h : RfK w r c nv pv N L) (hN : N.length ≤ 64) (hc : c ≤ 128) (hL : L.length ≤ 8192) (hs : s.length ≤ 200) :
    Calls Tryd.prog 44 #[(.pointer (some ⟨r, 0, none⟩)), ks s] w (Ret fun _ w' => (∃ nv' pv', RfK w' r c nv' pv' (insT N s) (mergeL ltP L (ownL c s)) ∧ (∀ g, nv'.ownBlock = some g → w.heap.size ≤ g) ∧ ∀ g, pv'.ownBlock = some g → w.heap.size ≤ g) ∧ Mods (fun k => k = r) w w') := by
  obtain ⟨A, cn, rfl, hnc, hnm⟩ := h.nrd.form
  obtain ⟨Ap, cp, rfl, hpc, hpm⟩ := h.prd.form
  have k0 := h.cells.at_ 0 rfl
  have k1 := h.cells.at_ 1 rfl
  have k2 := h.cells.at_ 2 rfl
  have rl := h.cells.lt
  unfold maxLen at hnm hpm
  obtain ⟨ps, hps⟩ : ∃ ps, ps = posT N s := ⟨_, rfl⟩
  have HPS := Lib.hid hps
  have hpl : ps ≤ N.length := hps ▸ posT_le N s
  clear hps
  have Hh := Lib.hid h
  clear h
  unfold ks
  go_enter Tryd.func44, Tryd.ntmps44
  go_upto_block 0 with fail
  go_cut [4] from 13 to 32 (fun v4 wx => v4 = .int .i64 ((ps : Nat) : Int) ∧ wx = w)
  case first =>
    go_wp2_with (first | ((with_reducible refine wp_region_por ?_ ?_ ?_ ?_); kernel_rfl; kernel_rfl; (with_reducible repeat (first | exact calm_ret | refine calm_then ?_ | refine calm_in ?_ | refine calm_chk ?_ | refine calm_noGoto ?_))) | ((with_reducible refine chk_end ?_ ?_); kernel_rfl))
    go_loopg [4] N.length (fun k v4 wr => ∃ i : Nat, v4 = .int .i64 i ∧ i ≤ N.length ∧ k + i = N.length ∧ (∀ y ∈ N.take i, ltT y s = true) ∧ wr = w)
    case atStart => exact ⟨0, rfl, Nat.zero_le _, rfl, fun y hy => (by simp at hy), rfl⟩
    case round =>
      obtain ⟨i, rfl, hi, hki, hno, rfl⟩ := hrel
      have Hki := Lib.hid hki
      have Hno := Lib.hid hno
      clear hki hno
      rcases Nat.lt_or_ge i N.length with h1 | h1
      · obtain ⟨x, hx⟩ := lt_get h1
        obtain ⟨b, o, rfl, _, x0⟩ := Hh.out.nrd.tx rfl hx
        unfold ks at x0
        have hbl := bytesLess_lt x s
        cases hlt : ltT x s with
        | true =>
          rw [hlt] at hbl
          have Hx := Lib.hid (And.intro hx hlt)
          clear hx hlt
          go_wp2_with (first | ((with_reducible refine wp_region_por ?_ ?_ ?_ ?_); kernel_rfl; kernel_rfl; (with_reducible repeat (first | exact calm_ret | refine calm_then ?_ | refine calm_in ?_ | refine calm_chk ?_ | refine calm_noGoto ?_))) | ((with_reducible refine chk_end ?_ ?_); kernel_rfl))
          go_roundg (gk - 1)
          case rel => exact ⟨i + 1, by go_num, h1, by have := Hki.out; omega, fun y hy => by
            rw [take_nx Hx.out.1] at hy
            rcases List.mem_append.1 hy with hy | hy
            · exact Hno.out y hy
            · rw [List.mem_singleton.1 hy]; exact Hx.out.2, rfl⟩
          case measure => have := Hki.out; omega
        | false =>
          rw [hlt] at hbl
          have He := Lib.hid (show ps = i by rw [HPS.out]; exact tw_len (by omega) Hno.out (.inr ⟨x, hx, hlt⟩))
          clear hx hlt
          go_wp2_with (first | ((with_reducible refine wp_region_por ?_ ?_ ?_ ?_); kernel_rfl; kernel_rfl; (with_reducible repeat (first | exact calm_ret | refine calm_then ?_ | refine calm_in ?_ | refine calm_chk ?_ | refine calm_noGoto ?_))) | ((with_reducible refine chk_end ?_ ?_); kernel_rfl))
          go_meet
          case rel => exact ⟨by rw [He.out], rfl⟩
      · obtain rfl : i = N.length := by omega
        have He := Lib.hid (show ps = N.length by rw [HPS.out]; exact tw_len (by omega) Hno.out (.inl (Nat.le_refl _)))
        go_wp2_with (first | ((with_reducible refine wp_region_por ?_ ?_ ?_ ?_); kernel_rfl; kernel_rfl; (with_reducible repeat (first | exact calm_ret | refine calm_then ?_ | refine calm_in ?_ | refine calm_chk ?_ | refine calm_noGoto ?_))) | ((with_reducible refine chk_end ?_ ?_); kernel_rfl))
        go_meet
        case rel => exact ⟨by rw [He.out], rfl⟩
  case rest =>
    obtain ⟨rfl, rfl⟩ := hcut
    have hR1 := Hh.out.nrd.cut (k := ps) (l := N.length) hpl (Nat.le_refl _)
    go_upto_region 6 with (first | (at_builtin; (fail_if_success have := O1); ((refine wpList_append _ rfl (.tmp 33) (.tmp 39) 22 rfl 9 (.string ⟨#[]⟩) 1 16 Tryd.underlying22 infoTx rfl (by decide) (F := fun g => wc.heap.size ≤ g) (n := 0) (xs := []) (by rfl) (Own.nil wc _ 9 1) (G := But wc r) (y := .slice A ps cn) (m := ps) (news := (N.map ks).take (ps * 1)) (by rfl) (Hh.out.nrd.take hpl) (ks_ones' N _) (by omega) (by decide) ?_); intro v4 w4 hown4 hm4 _; obtain ⟨hown4, hm4, hn4⟩ := app_ge (Own.nil wc (fun g => wc.heap.size ≤ g) 9 1) (Nat.le_refl _) hown4 hm4; (simp only [Nat.zero_add, List.nil_append] at hown4); have O1 := Lib.hid (fun o => hown4.mods ((Mods.refl No w4).alloc o) fun _ _ e => e); have HM4 := Lib.hid hm4; have HN4 := Lib.hid hn4; obtain ⟨A4, c4, rfl, _, _⟩ := hown4.form; have k1 := (Hh.out.cells.mods hm4 (Nat.not_le_of_lt rl)).at_ 1 rfl; clear hown4 hm4 hn4)) | (at_builtin; (fail_if_success have := O2); ((refine wpList_append _ rfl (.tmp 41) (.tmp 43) 22 rfl 9 (.string ⟨#[]⟩) 1 16 Tryd.underlying22 infoTx rfl (by decide) (F := fun g => wc.heap.size ≤ g) (n := ps) (xs := (N.map ks).take (ps * 1)) (by rfl) (O1.out _) (G := fun g => g = w4.heap.size) (y := .slice (some ⟨w4.heap.size, 0, none⟩) 1 1) (m := 1) (news := [ks s]) (by rfl) (Rd.box _ #[ks s] _ rfl rfl (by decide)) (fun u hu => by rw [List.mem_singleton.1 hu]; rfl) (by omega) (by decide) ?_); intro v5 w5 hown5 hm5 _; obtain ⟨hown5, hm5, hn5⟩ := app_ge (O1.out _) (Nat.le_trans HN4.out (by rw [World.size_alloc]; omega)) hown5 hm5; have O2 := Lib.hid hown5; have HM5 := Lib.hid ((HM4.out.alloc _).trans hm5 fun _ _ e => e); have HN5 := Lib.hid hn5; obtain ⟨A5, c5, rfl, _, _⟩ := hown5.form; clear hown5 hm5 hn5; have k1 := (Hh.out.cells.mods HM5.out (Nat.not_le_of_lt rl)).at_ 1 rfl)) | ((with_reducible refine wp_region_por ?_ ?_ ?_ ?_); kernel_rfl; kernel_rfl; (with_reducible repeat (first | exact calm_ret | refine calm_then ?_ | refine calm_in ?_ | refine calm_chk ?_ | refine calm_noGoto ?_))) | ((with_reducible refine chk_end ?_ ?_); kernel_rfl))
    go_cut [] from 45 to 55 (fun wx => ∃ nv2, RfK wx r c nv2 (.slice Ap L.length cp) (insT N s) L ∧ Mods (fun k => k = r) wc wx ∧ ∀ g, nv2.ownBlock = some g → wc.heap.size ≤ g)
    case first =>
      by_cases hcn : cn = ps
      · rw [if_pos hcn] at hR1
        have hcn' := hcn.symm
        clear hcn
        subst hcn'
        have hz : N.length - ps = 0 := by omega
        rw [hz, Nat.sub_self] at hR1
        have HR1 := Lib.hid hR1
        clear hR1
        go_wp2_with (first | (at_builtin; ((refine wpList_append _ rfl (.tmp 46) (.tmp 52) 22 rfl 9 (.string ⟨#[]⟩) 1 16 Tryd.underlying22 infoTx rfl (by decide) (F := fun g => wc.heap.size ≤ g) (n := ps + 1) (xs := (N.map ks).take (ps * 1) ++ [ks s]) (by rfl) O2.out (G := But wc r) (y := .slice A 0 0) (m := 0) (news := ((N.map ks).take (N.length * 1)).drop (ps * 1)) (by rfl) (HR1.out.same (HM5.out.same fun k hk => ⟨hk.1, Nat.not_le_of_lt hk.1⟩)) (fun u hu => ks_ones N u (List.mem_of_mem_take (List.mem_of_mem_drop hu))) (by omega) (by decide) ?_); intro v6 w6 hown6 hm6 _; obtain ⟨hown6, hm6, hn6⟩ := app_ge O2.out HN5.out hown6 hm6; have O3 := Lib.hid hown6; have HM6 := Lib.hid (HM5.out.trans hm6 fun _ _ e => e); obtain ⟨A6, c6, rfl, _, _⟩ := hown6.form; clear hown6 hm6 hn6; have HC6 := Lib.hid (Hh.out.cells.mods HM6.out (Nat.not_le_of_lt rl)); have q1 := HC6.out.at_ 1 rfl; have q2 := HC6.out.frozen 1; have q3 := HC6.out.lt)) | ((with_reducible refine wp_region_por ?_ ?_ ?_ ?_); kernel_rfl; kernel_rfl; (with_reducible repeat (first | exact calm_ret | refine calm_then ?_ | refine calm_in ?_ | refine calm_chk ?_ | refine calm_noGoto ?_))) | ((with_reducible refine chk_end ?_ ?_); kernel_rfl))
        go_meet
        case rel =>
          have hpn := put_nodes Hh.out O3.out HM6.out (by rw [insT_len]; omega) (put_list HPS.out)
          exact ⟨_, hpn.1, hpn.2, O3.out.2⟩
      · rw [if_neg hcn] at hR1
        obtain ⟨b, rfl⟩ : ∃ b, A = some ⟨b, 0, none⟩ := by
          rcases Hh.out.nown.whole with ⟨e, hz, _⟩ | ⟨g, cap, cur, e, _⟩
          · injection e with e1 _ e2
            exact absurd (by omega) hcn
          · injection e with e1
            exact ⟨g, e1⟩
        simp only [Option.map_some, Addr.add_lit, Nat.mul_one, Nat.zero_add] at hR1
        have HR1 := Lib.hid (show Rd wc (But wc r) 1 (.slice (some ⟨b, ps, none⟩) (N.length - ps) (cn - ps)) (N.length - ps) (((N.map ks).take (N.length * 1)).drop (ps * 1)) by rw [Nat.mul_one, Nat.mul_one]; exact hR1)
        clear hR1
        go_wp2_with (first | (at_builtin; ((refine wpList_append _ rfl (.tmp 46) (.tmp 52) 22 rfl 9 (.string ⟨#[]⟩) 1 16 Tryd.underlying22 infoTx rfl (by decide) (F := fun g => wc.heap.size ≤ g) (n := ps + 1) (xs := (N.map ks).take (ps * 1) ++ [ks s]) (by rfl) O2.out (G := But wc r) (y := .slice (some ⟨b, ps, none⟩) (N.length - ps) (cn - ps)) (m := N.length - ps) (news := ((N.map ks).take (N.length * 1)).drop (ps * 1)) (by rfl) (HR1.out.same (HM5.out.same fun k hk => ⟨hk.1, Nat.not_le_of_lt hk.1⟩)) (fun u hu => ks_ones N u (List.mem_of_mem_take (List.mem_of_mem_drop hu))) (by omega) (by decide) ?_); intro v6 w6 hown6 hm6 _; obtain ⟨hown6, hm6, hn6⟩ := app_ge O2.out HN5.out hown6 hm6; have O3 := Lib.hid hown6; have HM6 := Lib.hid (HM5.out.trans hm6 fun _ _ e => e); obtain ⟨A6, c6, rfl, _, _⟩ := hown6.form; clear hown6 hm6 hn6; have HC6 := Lib.hid (Hh.out.cells.mods HM6.out (Nat.not_le_of_lt rl)); have q1 := HC6.out.at_ 1 rfl; have q2 := HC6.out.frozen 1; have q3 := HC6.out.lt)) | ((with_reducible refine wp_region_por ?_ ?_ ?_ ?_); kernel_rfl; kernel_rfl; (with_reducible repeat (first | exact calm_ret | refine calm_then ?_ | refine calm_in ?_ | refine calm_chk ?_ | refine calm_noGoto ?_))) | ((with_reducible refine chk_end ?_ ?_); kernel_rfl))
        go_meet
        case rel =>
          have hpn := put_nodes Hh.out O3.out HM6.out (by rw [insT_len]; omega) (put_list HPS.out)
          exact ⟨_, hpn.1, hpn.2, O3.out.2⟩
    case rest =>
      clear k0 k1 k2 rl hR1
      clear Hh
      rename_i wm
      obtain ⟨nv2, h2, hm2, hn2⟩ := hcut
      have HM2 := Lib.hid hm2
      have HN2 := Lib.hid hn2
      have Hh := Lib.hid h2
      have k0 := h2.cells.at_ 0 rfl
      have rl := h2.cells.lt
      clear h2 hm2 hn2
      go_wp2_with (first | ((with_reducible refine wp_region_por ?_ ?_ ?_ ?_); kernel_rfl; kernel_rfl; (with_reducible repeat (first | exact calm_ret | refine calm_then ?_ | refine calm_in ?_ | refine calm_chk ?_ | refine calm_noGoto ?_))) | ((with_reducible refine chk_end ?_ ?_); kernel_rfl))
      go_loopg [6, 7] c (fun k v6 v7 wr => ∃ i : Nat, v7 = .int .i64 i ∧ i ≤ c ∧ k + i = c ∧ OwI wc wr i s v6)
      case atStart => exact ⟨0, rfl, Nat.zero_le _, rfl, Own.nil _ _ _ _, Mods.refl _ _⟩
      case round =>
        obtain ⟨i, rfl, hi, hki, hin⟩ := hrel
        have Hin := Lib.hid hin
        have Hki := Lib.hid hki
        have j0 := (Hh.out.cells.mods hin.hm fun e => e).at_ 0 rfl
        have jl := (Hh.out.cells.mods hin.hm fun e => e).lt
        obtain ⟨A6, c6, rfl, _, _⟩ := hin.own.form
        clear hin hki
        rcases Nat.lt_or_ge i c with h1 | h1
        · obtain ⟨yn, hyn⟩ : ∃ yn : Nat, yn = fnv64 (s ++ [58] ++ Lib.itoa (i : Int)) := ⟨_, rfl⟩
          have Hyn := Lib.hid hyn
          have Hy := Lib.hid (show ((yn : Nat) : Int) = (fnv64 (s ++ [58] ++ Lib.itoa (i : Int)) : Int) by rw [hyn])
          have hit := Lib.itoa_length_le (i : Int) (by omega) (by omega)
          clear hyn
          have hint := fun w' => int_K w' i (by omega)
          have hprn := fun w' l h => printN_K w' i (by omega) l h
          unfold ks at hprn
          have Hhint := Lib.hid hint
          clear hint
          have Hhprn := Lib.hid hprn
          clear hprn
          go_wp2_with (first | (go_at_call 59; (refine ret_use (Hhint.out wr) ?_; rintro v w4 ⟨⟨l4, rfl, hr4⟩, hm4⟩; have HR4 := Lib.hid hr4; have HM4 := Lib.hid hm4; clear hr4 hm4)) | (go_at_call 58; (refine ret_use (Hhprn.out w4 _ HR4.out) ?_; rintro v w5 ⟨rfl, hm5⟩; have HM5 := Lib.hid (HM4.out.trans hm5 fun _ _ e => e); clear hm5)) | (go_at_call 51; (refine ret_use (rhash_cat w5 s i (Lib.itoa i) rfl hs (by omega) ((yn : Nat) : Int) Hy.out) ?_; rintro v w6 ⟨rfl, rfl⟩)) | (at_builtin; ((refine wpList_append _ rfl (.tmp 75) (.tmp 77) 31 rfl 103 (.agg #[.int .u64 0, .string ⟨#[]⟩]) 2 24 Tryd.underlying31 infoPl rfl (by decide) (F := fun g => wc.heap.size ≤ g) (n := i) (xs := plcs (ownL i s)) (by rfl) (Hin.out.own.mods ((HM5.out.alloc (.cells #[.int .u64 ((yn : Nat) : Int), ks s] 103)).alloc (.cells #[.int .u64 ((yn : Nat) : Int), ks s] 103)) fun _ _ e => e) (G := fun g => g = w5.heap.size + 1) (y := .slice (some ⟨w5.heap.size + 1, 0, none⟩) 1 1) (m := 1) (news := [.int .u64 ((yn : Nat) : Int), ks s]) (by rfl) (Rd.box (w5.alloc (.cells #[.int .u64 ((yn : Nat) : Int), ks s] 103)) #[.int .u64 ((yn : Nat) : Int), ks s] _ (by rw [World.size_alloc]) rfl (by decide)) (plc_one _ s) (by omega) (by decide) ?_); intro v7 w7 hown7 hm7 _; have hne7 : v7.ownBlock ≠ some w5.heap.size := (fun e => by rcases hown7.2 _ e with e1 | e1; (have := Hin.out.own.lt _ e1; have := HM5.out.size; omega); (rw [World.size_alloc, World.size_alloc] at e1; omega)); have HB7 := Lib.hid (((Cells.new w5 103 #[.int .u64 ((yn : Nat) : Int), ks s]).alloc (.cells #[.int .u64 ((yn : Nat) : Int), ks s] 103)).mods hm7 (fun e => by have := Hin.out.own.lt _ e; have := HM5.out.size; omega)); obtain ⟨hown7, hm7, hn7⟩ := app_ge (Hin.out.own.mods ((HM5.out.alloc (.cells #[.int .u64 ((yn : Nat) : Int), ks s] 103)).alloc (.cells #[.int .u64 ((yn : Nat) : Int), ks s] 103)) fun _ _ e => e) (Nat.le_trans Hin.out.hm.size ((HM5.out.alloc (.cells #[.int .u64 ((yn : Nat) : Int), ks s] 103)).alloc (.cells #[.int .u64 ((yn : Nat) : Int), ks s] 103)).size) hown7 hm7; have HO7 := Lib.hid hown7; have Hne7 := Lib.hid hne7; have HM7 := Lib.hid hm7; obtain ⟨A7, c7, rfl, _, _⟩ := hown7.form; clear hown7 hm7 hn7 hne7)) | ((with_reducible refine wp_region_por ?_ ?_ ?_ ?_); kernel_rfl; kernel_rfl; (with_reducible repeat (first | exact calm_ret | refine calm_then ?_ | refine calm_in ?_ | refine calm_chk ?_ | refine calm_noGoto ?_))) | ((with_reducible refine chk_end ?_ ?_); kernel_rfl))
          obtain ⟨g7, c7', e7, hg7, _⟩ := HO7.out.cells (Nat.succ_pos _)
          injection e7 with e7 _ e8
          subst e7 e8
          have hg7n : g7 ≠ w5.heap.size := fun e => Hne7.out (by rw [← e]; rfl)
          obtain ⟨ow, how⟩ : ∃ ow, ow = ownL i s := ⟨_, rfl⟩
          have hol : ow.length = i := by rw [how]; exact ownL_len i s
          have HI0 := Lib.hid (show InI wc w7 w7 w5.heap.size i i g7 c7 ow (yn, s) (yn, s) from ⟨(by have h9 := HO7.out; rw [← how] at h9; rw [List.take_of_length_le (by omega), List.drop_of_length_le (by omega), plcs_snoc]; exact h9), HB7.out, (fun y hy => by rw [List.drop_of_length_le (by omega)] at hy; exact (List.not_mem_nil hy).elim), Mods.refl _ _⟩)
          have HOW := Lib.hid how
          have HOL := Lib.hid hol
          clear how hol
          go_loopg [9] i (fun k v9 wx => ∃ (j : Nat) (hole : Plc), v9 = .int .i64 j ∧ k = j ∧ j ≤ i ∧ InI wc w7 wx w5.heap.size i j g7 c7 ow (yn, s) hole)
          case atStart => exact ⟨i, _, rfl, rfl, Nat.le_refl _, HI0.out⟩
          case round =>
            obtain ⟨j, hole, rfl, hk, hji, hii⟩ := hrel
            have HI := Lib.hid hii
            have Hk := Lib.hid hk
            have b0 := hii.box.at_ 0 rfl
            have b1 := hii.box.at_ 1 rfl
            have bl := hii.box.lt
            unfold ks at b1
            dsimp only at b0 b1
            clear hk hii
            rcases j with _ | j
            · obtain ⟨c0, c1, f0, f1⟩ := HI.out.hole_ (Nat.zero_le _) HOL.out
              have HE := Lib.hid (fun n => (HI.out.drewN n).put hg7 hg7n (Nat.zero_le _) (yn, s))
              simp only [Nat.zero_mul, Nat.zero_add] at c0 c1 f0 f1
              unfold ks at c1
              go_wp2
              go_quiet (fail)
              go_wp2
              go_roundg (c - (i + 1))
              case rel => exact ⟨i + 1, by go_num, h1, by omega, Hin.out.next ((HM5.out.alloc (.cells #[.int .u64 ((yn : Nat) : Int), ks s] 103)).alloc (.cells #[.int .u64 ((yn : Nat) : Int), ks s] 103)) HM7.out HOW.out Hyn.out (Nat.zero_le _) HI.out.gt (fun x h => absurd rfl h) (HE.out _).1 (HE.out _).2.2⟩
              case measure => have := Hki.out; omega
            · obtain ⟨x, hx⟩ := lt_get (show j < ow.length by rw [HOL.out]; omega)
              obtain ⟨x0, x1⟩ := HI.out.at_ hji HOL.out (Nat.lt_succ_self j) hx
              unfold ks at x1
              have hjp : decide (0 < ((j : Int) + 1)) = true := decide_eq_true (by omega)
              cases hlt : ltP (yn, s) x with
              | true =>
                have Hx := Lib.hid (And.intro hx hlt)
                clear hx hlt
                go_wp2_with (first | (go_at_call 60; (refine ret_use (before_K _ (yn, s) x true Hx.out.2) ?_; rintro v w8 ⟨rfl, hm8⟩; have HI8 := Lib.hid (HI.out.no ((Mods.refl No _).drew.trans hm8 fun _ _ e => e)); obtain ⟨c0, c1, f0, f1⟩ := HI8.out.hole_ hji HOL.out; obtain ⟨x0, x1⟩ := HI8.out.at_ hji HOL.out (Nat.lt_succ_self j) Hx.out.1; (unfold ks at c1 x1); clear hm8)) | ((with_reducible refine wp_region_por ?_ ?_ ?_ ?_); kernel_rfl; kernel_rfl; (with_reducible repeat (first | exact calm_ret | refine calm_then ?_ | refine calm_in ?_ | refine calm_chk ?_ | refine calm_noGoto ?_))) | ((with_reducible refine chk_end ?_ ?_); kernel_rfl))
                go_roundg (gk - 1)
                case rel =>
                  have hp := HI8.out.put hg7 hg7n (by rw [HOL.out]; exact hji) x
                  rw [in_step Hx.out.1] at hp
                  refine ⟨j, x, rfl, by have := Hk.out; omega, by omega, hp.1, hp.2.1, fun y hy => ?_, hp.2.2⟩
                  obtain ⟨hl, e⟩ := List.getElem?_eq_some_iff.1 Hx.out.1
                  rw [← List.getElem_cons_drop hl, e] at hy
                  rcases List.mem_cons.1 hy with rfl | hy
                  · exact Hx.out.2
                  · exact HI8.out.gt y hy
                case measure => have := Hk.out; omega
              | false =>
                have Hx := Lib.hid (And.intro hx hlt)
                clear hx hlt
                go_wp2_with (first | (go_at_call 60; (refine ret_use (before_K _ (yn, s) x false Hx.out.2) ?_; rintro v w8 ⟨rfl, hm8⟩; have HI8 := Lib.hid (HI.out.no ((Mods.refl No _).drew.trans hm8 fun _ _ e => e)); obtain ⟨c0, c1, f0, f1⟩ := HI8.out.hole_ hji HOL.out; have b0 := HI8.out.box.at_ 0 rfl; have b1 := HI8.out.box.at_ 1 rfl; (unfold ks at c1 b1); dsimp only at b0 b1; clear hm8)) | ((with_reducible refine wp_region_por ?_ ?_ ?_ ?_); kernel_rfl; kernel_rfl; (with_reducible repeat (first | exact calm_ret | refine calm_then ?_ | refine calm_in ?_ | refine calm_chk ?_ | refine calm_noGoto ?_))) | ((with_reducible refine chk_end ?_ ?_); kernel_rfl))
                go_roundg (c - (i + 1))
                case rel =>
                  have hp := HI8.out.put hg7 hg7n (by rw [HOL.out]; exact hji) (yn, s)
                  exact ⟨i + 1, by go_num, h1, by omega, Hin.out.next ((HM5.out.alloc (.cells #[.int .u64 ((yn : Nat) : Int), ks s] 103)).alloc (.cells #[.int .u64 ((yn : Nat) : Int), ks s] 103)) HM7.out HOW.out Hyn.out (by rw [HOL.out]; exact hji) HI8.out.gt (fun y _ hy => by
                    rw [Nat.add_sub_cancel, Hx.out.1] at hy
                    injection hy with hy
                    rw [← hy]; exact Hx.out.2) hp.1 hp.2.2⟩
                case measure => have := Hki.out; omega
        · obtain rfl : i = c := by omega
          obtain ⟨W3, rfl⟩ : ∃ W3, W3 = wr := ⟨_, rfl⟩
          obtain ⟨ow, how⟩ : ∃ ow, ow = ownL i s := ⟨_, rfl⟩
          have hol : ow.length = i := by rw [how]; exact ownL_len i s
          have HO6 := Lib.hid (show Rd W3 (fun g => g < W3.heap.size) 2 (.slice A6 i c6) i (plcs ow) by rw [how]; exact Hin.out.own.rdlt)
          have HP3 := Lib.hid (show Rd W3 (fun g => g < W3.heap.size) 2 (.slice Ap L.length cp) L.length (plcs L) from (Hh.out.no Hin.out.hm).pown.rdlt)
          have HR3 := Lib.hid (Hh.out.no Hin.out.hm)
          have HOW := Lib.hid how
          have HOL := Lib.hid hol
          have j2 := HR3.out.cells.at_ 2 rfl
          clear how hol
          go_wp2_with (first | ((with_reducible refine wp_region_por ?_ ?_ ?_ ?_); kernel_rfl; kernel_rfl; (with_reducible repeat (first | exact calm_ret | refine calm_then ?_ | refine calm_in ?_ | refine calm_chk ?_ | refine calm_noGoto ?_))) | ((with_reducible refine chk_end ?_ ?_); kernel_rfl))
          go_loopg [10, 11, 12] (L.length + i) (fun k v10 v11 v12 wx => ∃ (a b : Nat) (D : List Plc), v11 = .int .i64 a ∧ v12 = .int .i64 b ∧ a ≤ L.length ∧ b ≤ i ∧ k + (a + b) = L.length + i ∧ MgI wc W3 wx L ow D a b v10 ∧ ∀ g, v10.ownBlock = some g → W3.heap.size ≤ g)
          case atStart => exact ⟨0, 0, [], rfl, rfl, Nat.zero_le _, Nat.zero_le _, by omega, ⟨Own.nil _ _ _ _, by simp, Mods.refl _ _⟩, fun g hg => by cases hg⟩
          case round =>
            obtain ⟨a, b, D, rfl, rfl, ha, hb, hk, hmg, hvn⟩ := hrel
            have HG := Lib.hid hmg
            have HVN := Lib.hid hvn
            have Hk := Lib.hid hk
            have j2 := (HR3.out.cells.mods hmg.hm fun e => e).at_ 2 rfl
            have jl := (HR3.out.cells.mods hmg.hm fun e => e).lt
            obtain ⟨Ad, cd, rfl, _, _⟩ := hmg.own.form
            clear hmg hvn hk
            rcases Nat.lt_or_ge a L.length with h2 | h2
            · obtain ⟨x, hx⟩ := lt_get h2
              obtain ⟨bp, op, rfl, hbp, x0, x1⟩ := (HP3.out.keep HG.out.hm).plc rfl hx
              have hxc : ∀ w', Mods No wr w' → w'.cell? ⟨bp, op + a * 2, none⟩ = some (.int .u64 (x.1 : Int)) ∧ w'.cell? ⟨bp, op + a * 2 + 1, none⟩ = some (ks x.2) := fun w' hm => by
                obtain ⟨b9, o9, e9, _, p0, p1⟩ := (HP3.out.keep (HG.out.hm.trans hm fun _ _ e => e)).plc rfl hx
                injection e9 with e9
                injection e9 with e9 e8
                subst e9 e8
                exact ⟨p0, p1⟩
              have HXC := Lib.hid hxc
              clear hxc
              unfold ks at x1
              rcases Nat.lt_or_ge b i with h3 | h3
              · obtain ⟨y, hy⟩ := lt_get (show b < ow.length by rw [HOL.out]; exact h3)
                obtain ⟨bo, oo, rfl, hbo, y0, y1⟩ := (HO6.out.keep HG.out.hm).plc HOL.out hy
                have hyc : ∀ w', Mods No wr w' → w'.cell? ⟨bo, oo + b * 2, none⟩ = some (.int .u64 (y.1 : Int)) ∧ w'.cell? ⟨bo, oo + b * 2 + 1, none⟩ = some (ks y.2) := fun w' hm => by
                  obtain ⟨b9, o9, e9, _, p0, p1⟩ := (HO6.out.keep (HG.out.hm.trans hm fun _ _ e => e)).plc HOL.out hy
                  injection e9 with e9
                  injection e9 with e9 e8
                  subst e9 e8
                  exact ⟨p0, p1⟩
                have HYC := Lib.hid hyc
                clear hyc
                unfold ks at y1
                cases hlt : ltP x y with
                | true =>
                  have HX := Lib.hid (And.intro hx (And.intro hy hlt))
                  clear hx hy hlt
                  go_wp2_with (first | (go_at_call 60; (refine ret_use (before_K _ x y true HX.out.2.2) ?_; rintro v w8 ⟨rfl, hm8⟩; have HM8 := Lib.hid ((Mods.refl No wr).drew.trans hm8 fun _ _ e => e); have j2 := (HR3.out.cells.mods (HG.out.hm.trans HM8.out fun _ _ e => e) fun e => e).at_ 2 rfl; obtain ⟨x0, x1⟩ := HXC.out w8 HM8.out; (unfold ks at x1); clear hm8)) | (at_builtin; ((refine wpList_append _ rfl (.tmp 144) (.tmp 152) 31 rfl 103 (.agg #[.int .u64 0, .string ⟨#[]⟩]) 2 24 Tryd.underlying31 infoPl rfl (by decide) (F := fun g => wc.heap.size ≤ g) (n := a + b) (xs := plcs D) (by rfl) (HG.out.own.mods (HM8.out.alloc (.cells #[.int .u64 (x.1 : Int), ks x.2] 103)) fun _ _ e => e) (G := fun g => g = w8.heap.size) (y := .slice (some ⟨w8.heap.size, 0, none⟩) 1 1) (m := 1) (news := [.int .u64 (x.1 : Int), ks x.2]) (by rfl) (Rd.box _ #[.int .u64 (x.1 : Int), ks x.2] _ rfl rfl (by decide)) (plc_one _ _) (by omega) (by decide) ?_); intro v9 w9 hown9 hm9 _; have HE9 := Lib.hid (HG.out.add Hin.out.hm.size (HM8.out.alloc (.cells #[.int .u64 (x.1 : Int), ks x.2] 103)) hown9 hm9 HVN.out (i' := a + 1) (j' := b) (by omega) (mg_left HX.out.1 fun y9 hy9 => by rw [HX.out.2.1] at hy9; injection hy9 with hy9; rw [← hy9]; exact HX.out.2.2)); obtain ⟨A9, c9, rfl, _, _⟩ := hown9.form; clear hown9 hm9)) | ((with_reducible refine wp_region_por ?_ ?_ ?_ ?_); kernel_rfl; kernel_rfl; (with_reducible repeat (first | exact calm_ret | refine calm_then ?_ | refine calm_in ?_ | refine calm_chk ?_ | refine calm_noGoto ?_))) | ((with_reducible refine chk_end ?_ ?_); kernel_rfl))
                  go_roundg (gk - 1)
                  case rel => exact ⟨a + 1, b, D ++ [x], by go_num, rfl, h2, hb, by have := Hk.out; omega, HE9.out.1, HE9.out.2⟩
                  case measure => have := Hk.out; omega
                | false =>
                  have HX := Lib.hid (And.intro hx (And.intro hy hlt))
                  clear hx hy hlt
                  go_wp2_with (first | (go_at_call 60; (refine ret_use (before_K _ x y false HX.out.2.2) ?_; rintro v w8 ⟨rfl, hm8⟩; have HM8 := Lib.hid ((Mods.refl No wr).drew.trans hm8 fun _ _ e => e); obtain ⟨y0, y1⟩ := HYC.out w8 HM8.out; (unfold ks at y1); clear hm8)) | (at_builtin; ((refine wpList_append _ rfl (.tmp 156) (.tmp 161) 31 rfl 103 (.agg #[.int .u64 0, .string ⟨#[]⟩]) 2 24 Tryd.underlying31 infoPl rfl (by decide) (F := fun g => wc.heap.size ≤ g) (n := a + b) (xs := plcs D) (by rfl) (HG.out.own.mods (HM8.out.alloc (.cells #[.int .u64 (y.1 : Int), ks y.2] 103)) fun _ _ e => e) (G := fun g => g = w8.heap.size) (y := .slice (some ⟨w8.heap.size, 0, none⟩) 1 1) (m := 1) (news := [.int .u64 (y.1 : Int), ks y.2]) (by rfl) (Rd.box _ #[.int .u64 (y.1 : Int), ks y.2] _ rfl rfl (by decide)) (plc_one _ _) (by omega) (by decide) ?_); intro v9 w9 hown9 hm9 _; have HE9 := Lib.hid (HG.out.add Hin.out.hm.size (HM8.out.alloc (.cells #[.int .u64 (y.1 : Int), ks y.2] 103)) hown9 hm9 HVN.out (i' := a) (j' := b + 1) (by omega) (mg_right HX.out.2.1 fun x9 hx9 => by rw [HX.out.1] at hx9; injection hx9 with hx9; rw [← hx9]; exact HX.out.2.2)); obtain ⟨A9, c9, rfl, _, _⟩ := hown9.form; clear hown9 hm9)) | ((with_reducible refine wp_region_por ?_ ?_ ?_ ?_); kernel_rfl; kernel_rfl; (with_reducible repeat (first | exact calm_ret | refine calm_then ?_ | refine calm_in ?_ | refine calm_chk ?_ | refine calm_noGoto ?_))) | ((with_reducible refine chk_end ?_ ?_); kernel_rfl))
                  go_roundg (gk - 1)
                  case rel => exact ⟨a, b + 1, D ++ [y], rfl, by go_num, ha, h3, by have := Hk.out; omega, HE9.out.1, HE9.out.2⟩
                  case measure => have := Hk.out; omega
              · obtain rfl : i = b := by omega
                have HX := Lib.hid (And.intro hx (show ∀ y, ow[i]? = some y → ltP x y = true from fun y hy => by rw [List.getElem?_eq_none (by rw [HOL.out]; exact Nat.le_refl _)] at hy; cases hy))
                clear hx
                go_wp2
                go_quiet (fail)
                go_wp2_with (first | (at_builtin; ((refine wpList_append _ rfl (.tmp 144) (.tmp 152) 31 rfl 103 (.agg #[.int .u64 0, .string ⟨#[]⟩]) 2 24 Tryd.underlying31 infoPl rfl (by decide) (F := fun g => wc.heap.size ≤ g) (n := a + i) (xs := plcs D) (by rfl) (HG.out.own.mods (((Mods.refl No wr).drewN _).alloc (.cells #[.int .u64 (x.1 : Int), ks x.2] 103)) fun _ _ e => e) (G := fun g => g = wr.heap.size) (y := .slice (some ⟨wr.heap.size, 0, none⟩) 1 1) (m := 1) (news := [.int .u64 (x.1 : Int), ks x.2]) (by rfl) (Rd.box _ #[.int .u64 (x.1 : Int), ks x.2] _ rfl rfl (by decide)) (plc_one _ _) (by omega) (by decide) ?_); intro v9 w9 hown9 hm9 _; have HE9 := Lib.hid (HG.out.add Hin.out.hm.size (((Mods.refl No wr).drewN _).alloc (.cells #[.int .u64 (x.1 : Int), ks x.2] 103)) hown9 hm9 HVN.out (i' := a + 1) (j' := i) (by omega) (mg_left HX.out.1 HX.out.2)); obtain ⟨A9, c9, rfl, _, _⟩ := hown9.form; clear hown9 hm9)) | ((with_reducible refine wp_region_por ?_ ?_ ?_ ?_); kernel_rfl; kernel_rfl; (with_reducible repeat (first | exact calm_ret | refine calm_then ?_ | refine calm_in ?_ | refine calm_chk ?_ | refine calm_noGoto ?_))) | ((with_reducible refine chk_end ?_ ?_); kernel_rfl))
                go_roundg (gk - 1)
                case rel => exact ⟨a + 1, i, D ++ [x], by go_num, rfl, h2, hb, by have := Hk.out; omega, HE9.out.1, HE9.out.2⟩
                case measure => have := Hk.out; omega
            · obtain rfl : a = L.length := by omega
              rcases Nat.lt_or_ge b i with h3 | h3
              · obtain ⟨y, hy⟩ := lt_get (show b < ow.length by rw [HOL.out]; exact h3)
                obtain ⟨bo, oo, rfl, hbo, y0, y1⟩ := (HO6.out.keep HG.out.hm).plc HOL.out hy
                unfold ks at y1
                have hd1 : decide (i ≤ b) = false := decide_eq_false (by omega)
                have HX := Lib.hid (And.intro hy (show ∀ x, L[L.length]? = some x → ltP x y = false from fun x hx => by rw [List.getElem?_eq_none (Nat.le_refl _)] at hx; cases hx))
                clear hy
                go_wp2
                go_quiet (fail)
                go_wp2_with (first | (at_builtin; ((refine wpList_append _ rfl (.tmp 156) (.tmp 161) 31 rfl 103 (.agg #[.int .u64 0, .string ⟨#[]⟩]) 2 24 Tryd.underlying31 infoPl rfl (by decide) (F := fun g => wc.heap.size ≤ g) (n := L.length + b) (xs := plcs D) (by rfl) (HG.out.own.mods (((Mods.refl No wr).drewN _).alloc (.cells #[.int .u64 (y.1 : Int), ks y.2] 103)) fun _ _ e => e) (G := fun g => g = wr.heap.size) (y := .slice (some ⟨wr.heap.size, 0, none⟩) 1 1) (m := 1) (news := [.int .u64 (y.1 : Int), ks y.2]) (by rfl) (Rd.box _ #[.int .u64 (y.1 : Int), ks y.2] _ rfl rfl (by decide)) (plc_one _ _) (by omega) (by decide) ?_); intro v9 w9 hown9 hm9 _; have HE9 := Lib.hid (HG.out.add Hin.out.hm.size (((Mods.refl No wr).drewN _).alloc (.cells #[.int .u64 (y.1 : Int), ks y.2] 103)) hown9 hm9 HVN.out (i' := L.length) (j' := b + 1) (by omega) (mg_right HX.out.1 HX.out.2)); obtain ⟨A9, c9, rfl, _, _⟩ := hown9.form; clear hown9 hm9)) | ((with_reducible refine wp_region_por ?_ ?_ ?_ ?_); kernel_rfl; kernel_rfl; (with_reducible repeat (first | exact calm_ret | refine calm_then ?_ | refine calm_in ?_ | refine calm_chk ?_ | refine calm_noGoto ?_))) | ((with_reducible refine chk_end ?_ ?_); kernel_rfl))
                go_roundg (gk - 1)
                case rel => exact ⟨L.length, b + 1, D ++ [y], rfl, by go_num, Nat.le_refl _, h3, by have := Hk.out; omega, HE9.out.1, HE9.out.2⟩
                case measure => have := Hk.out; omega
              · obtain rfl : i = b := by omega
                have HCz := Lib.hid (HR3.out.cells.mods HG.out.hm fun e => e)
                have z2 := HCz.out.frozen 2
                have zl := HCz.out.lt
                go_wp2_with (first | ((with_reducible refine wp_region_por ?_ ?_ ?_ ?_); kernel_rfl; kernel_rfl; (with_reducible repeat (first | exact calm_ret | refine calm_then ?_ | refine calm_in ?_ | refine calm_chk ?_ | refine calm_noGoto ?_))) | ((with_reducible refine chk_end ?_ ?_); kernel_rfl))
                go_end0
                have hpp := put_places HR3.out ⟨HG.out.own.1, HVN.out⟩ HG.out.hm
                have hdn := HG.out.done HOL.out
                rw [HOW.out] at hdn
                refine ⟨⟨_, _, by rw [hdn]; exact hpp.1, HN2.out, fun g hg => ?_⟩, (HM2.out.trans (Hin.out.hm) fun _ _ e => e.elim).trans hpp.2 fun _ _ e => e⟩
                exact Nat.le_trans HM2.out.size (Nat.le_trans Hin.out.hm.size (HVN.out g hg))
end Go.Proofs.YtcifajfmdpjfiaaDoor
