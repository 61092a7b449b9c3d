/- Package ring: Insert and Delete at texts, off the shelf. -/
import Derived.Test.YtilkepmmkhmghaaDoorRgD
import Derived.Test.YtilkepmmkhmghaaDoorOwn2
import Derived.Sort.OwnSorted
namespace Go.Proofs.YtilkepmmkhmghaaDoor
open Go.RowKit Go.Tum Go.Lib Go.Sort
set_option maxRecDepth 100000
def insL_ren : Go.Shelf.Ren := ⟨fun | 22 => 47 | 29 => 59 | 30 => 60 | 36 => 69 | 17 => 83 | n => n, fun | 24 => 22 | 9 => 9 | 3 => 3 | 4 => 4 | 0 => 0 | n => n, fun | n => n⟩
set_option maxRecDepth 100000 in
theorem insL : Go.Proofs.Lays2.n22 Tryd.prog insL_ren := {
  mixed := by kernel_rfl,
  f17 := Tryd.func83.trans (congrArg some (by kernel_rfl)),
  f22 := Tryd.func47.trans (congrArg some (by kernel_rfl)),
  f29 := Tryd.func59.trans (congrArg some (by kernel_rfl)),
  f30 := Tryd.func60.trans (congrArg some (by kernel_rfl)),
  f36 := Tryd.func69.trans (congrArg some (by kernel_rfl)),
  t0 := Tryd.underlying0,
  a0 := Tryd.isAgg0,
  z0 := Tryd.sizeOf0,
  v0 := Tryd.zeroValue0,
  t3 := Tryd.underlying3,
  a3 := Tryd.isAgg3,
  z3 := Tryd.sizeOf3,
  v3 := Tryd.zeroValue3,
  t4 := Tryd.underlying4,
  a4 := Tryd.isAgg4,
  z4 := Tryd.sizeOf4,
  v4 := Tryd.zeroValue4,
  t9 := Tryd.underlying9,
  a9 := Tryd.isAgg9,
  z9 := Tryd.sizeOf9,
  v9 := Tryd.zeroValue9,
  t24 := Tryd.underlying22,
  a24 := Tryd.isAgg22,
  z24 := Tryd.sizeOf22,
  v24 := Tryd.zeroValue22,
  i9 := by kernel_rfl }
def delL_ren : Go.Shelf.Ren := ⟨fun | 24 => 43 | n => n, fun | 24 => 22 | 9 => 9 | 3 => 3 | 4 => 4 | 0 => 0 | n => n, fun | n => n⟩
set_option maxRecDepth 100000 in
theorem delL : Go.Proofs.Lays2.n24 Tryd.prog delL_ren := {
  mixed := by kernel_rfl,
  f24 := Tryd.func43.trans (congrArg some (by kernel_rfl)),
  t0 := Tryd.underlying0,
  a0 := Tryd.isAgg0,
  z0 := Tryd.sizeOf0,
  v0 := Tryd.zeroValue0,
  t3 := Tryd.underlying3,
  a3 := Tryd.isAgg3,
  z3 := Tryd.sizeOf3,
  v3 := Tryd.zeroValue3,
  t4 := Tryd.underlying4,
  a4 := Tryd.isAgg4,
  z4 := Tryd.sizeOf4,
  v4 := Tryd.zeroValue4,
  t9 := Tryd.underlying9,
  a9 := Tryd.isAgg9,
  z9 := Tryd.sizeOf9,
  v9 := Tryd.zeroValue9,
  t24 := Tryd.underlying22,
  a24 := Tryd.isAgg22,
  z24 := Tryd.sizeOf22,
  v24 := Tryd.zeroValue22,
  i9 := by kernel_rfl }
theorem infoTx : (Tryd.prog.info? 9).map (fun i => (i.zero, i.size, i.bytes)) = some (some (.string ⟨#[]⟩), 1, 16) := by kernel_rfl
theorem map_ks_get (l : List Tx) (j : Nat) : (l.map ks)[j]? = (l[j]?).map ks := List.getElem?_map ..
theorem ins_get (N : List Tx) (t : Tx) {i : Nat} (hi : i ≤ N.length) (j : Nat) : (N.take i ++ t :: N.drop i)[j]? = if j < i then N[j]? else if j = i then some t else N[j - 1]? := by
  have hl : (N.take i).length = i := by simp; omega
  by_cases h1 : j < i
  · rw [if_pos h1, List.getElem?_append_left (by omega), List.getElem?_take_of_lt h1]
  · rw [if_neg h1, List.getElem?_append_right (by omega), hl]
    by_cases h2 : j = i
    · subst h2; rw [if_pos rfl, Nat.sub_self]; rfl
    · rw [if_neg h2, show j - i = (j - i - 1) + 1 by omega, List.getElem?_cons_succ, List.getElem?_drop, show i + (j - i - 1) = j - 1 by omega]
theorem ins_len (N : List Tx) (t : Tx) {i : Nat} (hi : i ≤ N.length) : (N.take i ++ t :: N.drop i).length = N.length + 1 := by
  simp only [List.length_append, List.length_cons, List.length_take, List.length_drop]; omega
set_option maxHeartbeats 1600000 in
theorem insert_K (w : World) (F : Nat → Prop) (v : Value) (N : List Tx) (t : Tx) (i bx : Nat) (h : Own w F 9 1 v N.length (N.map ks)) (hi : i ≤ N.length) (hN : N.length ≤ 65536) (hb : Cells w bx 9 #[ks t]) (hn : v.ownBlock ≠ some bx) :
    Calls Tryd.prog 47 #[v, .int .i64 i, .slice (some ⟨bx, 0, none⟩) 1 1] w (Ret fun u w' => Own w' (fun k => v.ownBlock = some k ∨ w.heap.size ≤ k) 9 1 u (N.length + 1) ((N.take i ++ t :: N.drop i).map ks) ∧ Mods (fun k => v.ownBlock = some k) w w') := by
  have hil := ins_len N t hi
  have hvs : ∀ (j : Nat) u, [ks t][j]? = some u → w.cell? ⟨bx, 0 + j, none⟩ = some u := fun j u hu => by
    match j with
    | 0 => rw [Nat.zero_add]; rw [hb.cell 0]; exact hu
    | j + 1 => simp at hu
  have h1v : ∀ u ∈ [ks t], u.oneCell' = true := fun u hu => by rw [List.mem_singleton.1 hu]; rfl
  have hmx : N.length + 1 ≤ maxLen := by unfold maxLen; omega
  rcases h.whole with ⟨rfl, hn0, _⟩ | ⟨g, cap, cur, rfl, hg, hc, h1, h2, h3, h4⟩
  · obtain rfl : N = [] := List.eq_nil_of_length_eq_zero hn0
    obtain rfl : i = 0 := by simpa using hi
    refine (Any2.slices_Insert_string_end_grow insL none 0 0 bx 0 1 1 [] [ks t] w (by decide) (by decide) (by decide) (by decide) rfl rfl (fun _ => rfl) (fun a ha => by cases ha) hvs h1v).mono ?_
    rintro e w' ⟨rfl, rfl⟩
    have hcg := grownCap_ge w (0 + 1) 0 9
    have hcm := grownCap_le_maxLen w (0 + 1) 0 9 (by decide)
    have hcg1 : 1 ≤ grownCap w 1 0 9 := hcg
    have hO : Own (w.drew.alloc (.cells (([] ++ [ks t]).toArray ++ Builtin.zeroCells (Value.string ⟨#[]⟩).cells (grownCap w (0 + 1) 0 9 - (0 + 1))) 9)) _ 9 1 _ _ _ := Own.mk_ (n := 0 + 1) (cap := grownCap w (0 + 1) 0 9) (xs := [ks t]) (Cells.new w.drew 9 _) hcg hcm (by simp [Builtin.zeroCells, Value.cells]; omega) (by simp)
    exact ⟨hO.more fun k hk => .inr (Nat.le_of_eq hk.symm), (Mods.refl _ w).drew.alloc _⟩
  · have hcl : (N.map ks).length = N.length := by simp
    rw [Nat.mul_one] at h3 h4
    have hcur : ∀ j, j < N.length → cur[j]? = (N.map ks)[j]? := fun j hj => by
      rw [← h4, List.getElem?_take_of_lt hj]; simp
    have hcs : ∀ (j : Nat) u, (N.map ks)[j]? = some u → w.cell? ⟨g, 0 + j, none⟩ = some u := fun j u hu => by
      obtain ⟨hj, _⟩ := List.getElem?_eq_some_iff.1 hu
      rw [Nat.zero_add, hc.cell j, hcur j (by simpa using hj)]; exact hu
    have hsp : ∀ j, j < cap → (w.cell? ⟨g, 0 + j, none⟩).isSome = true := fun j hj => by
      rw [Nat.zero_add, hc.cell j, Array.getElem?_eq_getElem (by omega)]; rfl
    have hfz : ∀ j, w.frozen? ⟨g, 0 + j, none⟩ = false := fun j => hc.frozen _
    have hgb : bx ≠ g := fun e => hn (by rw [e]; rfl)
    have hF : ∀ k, k = g → (Value.slice (some ⟨g, 0, none⟩) N.length cap).ownBlock = some k ∨ w.heap.size ≤ k := fun k e => .inl (by rw [e]; rfl)
    rcases Nat.lt_or_ge cap (N.length + 1) with hroom | hroom
    · have hcg := grownCap_ge w (N.length + 1) cap 9
      rcases Nat.eq_or_lt_of_le hi with rfl | hlt
      · refine (Any2.slices_Insert_string_end_grow insL (some ⟨g, 0, none⟩) N.length cap bx 0 1 1 (N.map ks) [ks t] w (by decide) h1 hroom (by omega) hcl rfl (fun e => by cases e) (fun a ha j u hu => ?_) hvs h1v).mono ?_
        · injection ha with ha; subst ha; rw [Addr.add_lit]; exact hcs j u hu
        rintro e w' ⟨rfl, rfl⟩
        have hO := Own.mk_ (n := N.length + 1) (cap := grownCap w (N.length + 1) cap 9) (size := 1) (xs := (N.take N.length ++ t :: N.drop N.length).map ks) (Cells.new w.drew 9 ((N.map ks ++ [ks t]).toArray ++ Builtin.zeroCells (Value.string ⟨#[]⟩).cells (grownCap w (N.length + 1) cap 9 - (N.length + 1)))) hcg (grownCap_le_maxLen _ _ _ _ hmx) (by simp [Builtin.zeroCells, Value.cells]; omega) (by simp [List.take_append, hcl]; exact List.take_of_length_le (by simp))
        exact ⟨hO.more fun k hk => .inr (Nat.le_of_eq hk.symm), (Mods.refl _ w).drew.alloc _⟩
      · refine (Any2.slices_Insert_string_grow insL g 0 N.length cap i bx 0 1 1 (N.map ks) [ks t] w hlt (by decide) h1 hroom (by omega) hcl rfl hcs hvs (txs_one N) h1v).mono ?_
        rintro e w' ⟨rfl, rfl⟩
        have hk0 := Cells.new w 9 (((N.map ks).take i).toArray ++ Builtin.zeroCells (Value.string ⟨#[]⟩).cells (N.length + 1 - i) ++ Builtin.zeroCells (Value.string ⟨#[]⟩).cells (grownCap w (N.length + 1) cap 9 - (N.length + 1)))
        have hsz : (((N.map ks).take i).toArray ++ Builtin.zeroCells (Value.string ⟨#[]⟩).cells (N.length + 1 - i) ++ Builtin.zeroCells (Value.string ⟨#[]⟩).cells (grownCap w (N.length + 1) cap 9 - (N.length + 1))).size = grownCap w (N.length + 1) cap 9 := by
          simp [Builtin.zeroCells, Value.cells]; omega
        have hk1 := ((hk0.drew.setCells [ks t] i).drew).setCells ((N.map ks).drop i) (i + 1)
        have hO := Own.mk_ (n := N.length + 1) (cap := grownCap w (N.length + 1) cap 9) (size := 1) (xs := (N.take i ++ t :: N.drop i).map ks) hk1 hcg (grownCap_le_maxLen _ _ _ _ hmx) (by rw [setArr_size, setArr_size, hsz, Nat.mul_one]) (take_ext (by simp only [List.length_map]; omega) (by rw [setArr_size, setArr_size, hsz]; omega) fun j hj => by
          rw [setArr_get, setArr_get, setArr_size, hsz, map_ks_get, ins_get N t hi]
          rw [List.length_drop, hcl, List.length_singleton]
          by_cases j1 : j < i
          · rw [if_neg (by omega), if_neg (by omega), if_pos j1]
            rw [Array.getElem?_append_left (by simp; omega), Array.getElem?_append_left (by simp; omega)]
            simp [j1]
          · rw [if_neg j1]
            by_cases j2 : j = i
            · subst j2
              rw [if_neg (by omega), if_pos ⟨Nat.le_refl _, by omega, by omega⟩, if_pos rfl, Nat.sub_self]; rfl
            · rw [if_pos ⟨by omega, by omega, by omega⟩, if_neg j2, List.getElem?_drop, map_ks_get, show i + (j - (i + 1)) = j - 1 by omega])
        refine ⟨hO.more fun k hk => .inr (Nat.le_of_eq hk.symm), ?_⟩
        exact ((((Mods.refl _ w).alloc _).drew.trans (Mods.setCells _ _ _) fun k hk e => absurd e (Nat.ne_of_lt hk)).drew).trans (Mods.setCells _ _ _) fun k hk e => absurd e (Nat.ne_of_lt hk)
    · rcases Nat.eq_or_lt_of_le hi with rfl | hlt
      · refine (Any2.slices_Insert_string_end_room insL g 0 N.length cap bx 0 1 1 [ks t] w (by decide) hroom (by unfold maxLen at h2; omega) rfl (fun j hj => ?_) (fun j hj => hc.frozen _) hvs h1v).mono ?_
        · rw [Nat.zero_add, hc.cell, Array.getElem?_eq_getElem (by omega)]; rfl
        rintro e w' ⟨rfl, rfl⟩
        have hk1 := hc.setCells [ks t] (0 + N.length)
        have hO := Own.mk_ (n := N.length + 1) (cap := cap) (size := 1) (xs := (N.take N.length ++ t :: N.drop N.length).map ks) hk1 hroom h2 (by rw [setArr_size, h3, Nat.mul_one]) (take_ext (by simp only [List.length_map]; omega) (by rw [setArr_size, h3]; omega) fun j hj => by
          rw [setArr_get, h3, map_ks_get, ins_get N t (Nat.le_refl _), List.length_singleton]
          by_cases j1 : j < N.length
          · rw [if_neg (by omega), if_pos j1, hcur j j1, map_ks_get]
          · obtain rfl : j = N.length := by omega
            rw [if_pos ⟨by omega, by omega, by omega⟩, if_neg j1, if_pos rfl, Nat.zero_add, Nat.sub_self]; rfl)
        exact ⟨hO.more hF, (Mods.setCells _ _ _).mono fun k _ e => by rw [e]; rfl⟩
      · refine (Any2.slices_Insert_string_shift insL g 0 N.length cap i bx 0 1 1 (N.map ks) [ks t] w hlt (by decide) hroom (by unfold maxLen at h2; omega) hgb hcl rfl hcs (fun j hj => hsp j (by omega)) (fun j _ => hfz j) hvs (txs_one N) h1v 9 9 1 cap ?_ ?_ (by omega) (hb.frozen 0) (hb.frozen 1)).mono ?_
        · unfold Cells at hb; simp [World.shape?, hb]
        · unfold Cells at hc; simp [World.shape?, hc, h3]
        rintro e w' ⟨rfl, rfl⟩
        have hk1 := (hc.drew.setCells ((N.map ks).drop i) (0 + (i + 1))).setCells [ks t] (0 + i)
        have hO := Own.mk_ (n := N.length + 1) (cap := cap) (size := 1) (xs := (N.take i ++ t :: N.drop i).map ks) hk1 hroom h2 (by rw [setArr_size, setArr_size, h3, Nat.mul_one]) (take_ext (by simp only [List.length_map]; omega) (by rw [setArr_size, setArr_size, h3]; omega) fun j hj => by
          rw [setArr_get, setArr_get, setArr_size, h3, map_ks_get, ins_get N t hi]
          rw [List.length_drop, hcl, List.length_singleton]
          by_cases j1 : j < i
          · rw [if_neg (by omega), if_neg (by omega), if_pos j1, hcur j (by omega), map_ks_get]
          · rw [if_neg j1]
            by_cases j2 : j = i
            · subst j2
              rw [if_pos ⟨by omega, by omega, by omega⟩, if_pos rfl, Nat.zero_add, Nat.sub_self]; rfl
            · rw [if_neg (by omega), if_pos ⟨by omega, by omega, by omega⟩, if_neg j2, List.getElem?_drop, map_ks_get, show i + (j - (0 + (i + 1))) = j - 1 by omega])
        exact ⟨hO.more hF, ((Mods.refl _ w).drew.trans ((Mods.setCells _ _ _).trans (Mods.setCells _ _ _) fun _ _ e => e) fun _ _ e => e).mono fun k _ e => by rw [e]; rfl⟩
theorem delete_K (w : World) (F : Nat → Prop) (v : Value) (N : List Tx) (i : Nat) (h : Own w F 9 1 v N.length (N.map ks)) (hi : i < N.length) :
    Calls Tryd.prog 43 #[v, .int .i64 i, .int .i64 ((i : Int) + 1)] w (Ret fun u w' => Own w' F 9 1 u (N.length - 1) ((N.take i ++ N.drop (i + 1)).map ks) ∧ Mods F w w') := by
  rcases h.whole with ⟨rfl, hn0, _⟩ | ⟨g, cap, cur, rfl, hg, hc, h1, h2, h3, h4⟩
  · omega
  · have hE : ∀ L : List Tx, L.map Go.Proofs.encStr = L.map ks := fun _ => rfl
    have hH := holds_of_block (ss := N) hc (by rw [hE]; simpa using h4)
    refine (Any.slices_Delete_string delL g 0 cap i (i + 1) N w hH h1 (by unfold maxLen at h2; omega) (by omega) hi).mono ?_
    rintro e w' ⟨rfl, q, rfl⟩
    have hl : (N.take i ++ N.drop (i + 1) ++ List.replicate (i + 1 - i) []).length = N.length := by
      simp only [List.length_append, List.length_take, List.length_drop, List.length_replicate]; omega
    have hO := ownsRow_sorted (w := w) (n := q) (os := #[]) (base := 0) hl (Nat.zero_le _) hc h1 h2 h3
    have hG := grownBy_sorted (w := w) (g := g) (n := q) (os := #[]) (N.take i ++ N.drop (i + 1) ++ List.replicate (i + 1 - i) []).toArray
    rw [grow_empty] at hO hG
    rw [hE] at hO
    have hO2 : Own _ F 9 1 _ N.length _ := ⟨hO, fun k hk => by injection hk with hk; exact hk ▸ hg⟩
    have hO3 := hO2.take (m := N.length - 1) (by omega)
    have he : (((N.take i ++ N.drop (i + 1) ++ List.replicate (i + 1 - i) []).map ks).take ((N.length - 1) * 1)) = (N.take i ++ N.drop (i + 1)).map ks := by
      rw [Nat.mul_one, ← List.map_take]
      congr 1
      rw [List.take_append_of_le_length (by simp only [List.length_append, List.length_take, List.length_drop]; omega), List.take_of_length_le (by simp only [List.length_append, List.length_take, List.length_drop]; omega)]
    rw [he] at hO3
    refine ⟨?_, ⟨hG.os, hG.tape, hG.output, hG.size, fun k hk hn => hG.block k hk fun e => hn (by injection e with e; exact e ▸ hg)⟩⟩
    rw [show N.length - (i + 1 - i) = N.length - 1 by omega]
    exact hO3
end Go.Proofs.YtilkepmmkhmghaaDoor
