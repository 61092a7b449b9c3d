/- A ring in memory; Itoa, Clone. -/
import Derived.Test.YtilkepmmkhmghaaDoorRgI
import Derived.Test.YtilkepmmkhmghaaDoorRing3
import Derived.Test.YtilkepmmkhmghaaDoorPor5
import Derived.Shelf.Pu.Clone
import Derived.Shelf.Strconv.Itoa3
import Derived.Lib.LaidTab
namespace Go.Proofs.YtilkepmmkhmghaaDoor
open Go.RowKit Go.Tum Go.Lib Go.Sort
set_option maxRecDepth 100000
def cloneL_ren : Go.Shelf.Ren := ⟨fun | 25 => 58 | n => n, fun | 9 => 9 | 3 => 3 | 4 => 4 | 37 => 42 | 0 => 0 | 47 => 99 | 5 => 5 | n => n, fun | n => n⟩
set_option maxRecDepth 100000 in
theorem cloneL : Go.Proofs.LaysPu.n25 Tryd.prog cloneL_ren := {
  mixed := by kernel_rfl,
  f25 := Tryd.func58.trans (congrArg some (by kernel_rfl)),
  t0 := Tryd.underlying0,
  a0 := Tryd.isAgg0,
  z0 := Tryd.sizeOf0,
  v0 := Tryd.zeroValue0,
  i0 := by kernel_rfl,
  t3 := Tryd.underlying3,
  a3 := Tryd.isAgg3,
  z3 := Tryd.sizeOf3,
  v3 := Tryd.zeroValue3,
  i3 := by kernel_rfl,
  t4 := Tryd.underlying4,
  a4 := Tryd.isAgg4,
  z4 := Tryd.sizeOf4,
  v4 := Tryd.zeroValue4,
  i4 := by kernel_rfl,
  t5 := Tryd.underlying5,
  a5 := Tryd.isAgg5,
  z5 := Tryd.sizeOf5,
  v5 := Tryd.zeroValue5,
  i5 := by kernel_rfl,
  t9 := Tryd.underlying9,
  a9 := Tryd.isAgg9,
  z9 := Tryd.sizeOf9,
  v9 := Tryd.zeroValue9,
  i9 := by kernel_rfl,
  t37 := Tryd.underlying42,
  a37 := Tryd.isAgg42,
  z37 := Tryd.sizeOf42,
  v37 := Tryd.zeroValue42,
  i37 := by kernel_rfl,
  t47 := Tryd.underlying99,
  a47 := Tryd.isAgg99,
  z47 := Tryd.sizeOf99,
  v47 := Tryd.zeroValue99,
  i47 := by kernel_rfl }
def itoaL_ren : Go.Shelf.Ren := ⟨fun | 171 => 48 | 243 => 61 | 246 => 70 | 283 => 84 | 284 => 85 | 285 => 86 | 286 => 87 | 129 => 80 | 317 => 94 | 318 => 95 | 319 => 96 | 320 => 97 | 337 => 99 | 338 => 100 | n => n, fun | 3 => 3 | 9 => 9 | 2 => 2 | 4 => 4 | 171 => 112 | 0 => 0 | 53 => 37 | 37 => 42 | 5 => 5 | 173 => 114 | 212 => 124 | 51 => 43 | 20 => 20 | 213 => 125 | 46 => 87 | 232 => 130 | 233 => 131 | n => n, fun | 17 => 1 | 18 => 2 | 19 => 3 | n => n⟩
set_option maxRecDepth 100000 in
theorem itoaL : Go.Proofs.LaysM.n171 Tryd.prog itoaL_ren := {
  mixed := by kernel_rfl,
  f129 := Tryd.func80.trans (congrArg some (by kernel_rfl)),
  f171 := Tryd.func48.trans (congrArg some (by kernel_rfl)),
  f243 := Tryd.func61.trans (congrArg some (by kernel_rfl)),
  f246 := Tryd.func70.trans (congrArg some (by kernel_rfl)),
  f283 := Tryd.func84.trans (congrArg some (by kernel_rfl)),
  f284 := Tryd.func85.trans (congrArg some (by kernel_rfl)),
  f285 := Tryd.func86.trans (congrArg some (by kernel_rfl)),
  f286 := Tryd.func87.trans (congrArg some (by kernel_rfl)),
  f317 := Tryd.func94.trans (congrArg some (by kernel_rfl)),
  f318 := Tryd.func95.trans (congrArg some (by kernel_rfl)),
  f319 := Tryd.func96.trans (congrArg some (by kernel_rfl)),
  f320 := Tryd.func97.trans (congrArg some (by kernel_rfl)),
  f337 := Tryd.func99.trans (congrArg some (by kernel_rfl)),
  f338 := Tryd.func100.trans (congrArg some (by kernel_rfl)),
  t0 := Tryd.underlying0,
  a0 := Tryd.isAgg0,
  z0 := Tryd.sizeOf0,
  v0 := Tryd.zeroValue0,
  t2 := Tryd.underlying2,
  a2 := Tryd.isAgg2,
  z2 := Tryd.sizeOf2,
  v2 := Tryd.zeroValue2,
  t3 := Tryd.underlying3,
  a3 := Tryd.isAgg3,
  z3 := Tryd.sizeOf3,
  v3 := Tryd.zeroValue3,
  t4 := Tryd.underlying4,
  a4 := Tryd.isAgg4,
  z4 := Tryd.sizeOf4,
  v4 := Tryd.zeroValue4,
  t5 := Tryd.underlying5,
  a5 := Tryd.isAgg5,
  z5 := Tryd.sizeOf5,
  v5 := Tryd.zeroValue5,
  t9 := Tryd.underlying9,
  a9 := Tryd.isAgg9,
  z9 := Tryd.sizeOf9,
  v9 := Tryd.zeroValue9,
  t20 := Tryd.underlying20,
  a20 := Tryd.isAgg20,
  z20 := Tryd.sizeOf20,
  v20 := Tryd.zeroValue20,
  t37 := Tryd.underlying42,
  a37 := Tryd.isAgg42,
  z37 := Tryd.sizeOf42,
  v37 := Tryd.zeroValue42,
  t46 := Tryd.underlying87,
  a46 := Tryd.isAgg87,
  z46 := Tryd.sizeOf87,
  v46 := Tryd.zeroValue87,
  t51 := Tryd.underlying43,
  a51 := Tryd.isAgg43,
  z51 := Tryd.sizeOf43,
  v51 := Tryd.zeroValue43,
  t53 := Tryd.underlying37,
  a53 := Tryd.isAgg37,
  z53 := Tryd.sizeOf37,
  v53 := Tryd.zeroValue37,
  t171 := Tryd.underlying112,
  a171 := Tryd.isAgg112,
  z171 := Tryd.sizeOf112,
  v171 := Tryd.zeroValue112,
  t173 := Tryd.underlying114,
  a173 := Tryd.isAgg114,
  z173 := Tryd.sizeOf114,
  v173 := Tryd.zeroValue114,
  t212 := Tryd.underlying124,
  a212 := Tryd.isAgg124,
  z212 := Tryd.sizeOf124,
  v212 := Tryd.zeroValue124,
  t213 := Tryd.underlying125,
  a213 := Tryd.isAgg125,
  z213 := Tryd.sizeOf125,
  t232 := Tryd.underlying130,
  a232 := Tryd.isAgg130,
  z232 := Tryd.sizeOf130,
  v232 := Tryd.zeroValue130,
  t233 := Tryd.underlying131,
  a233 := Tryd.isAgg131,
  z233 := Tryd.sizeOf131,
  v233 := Tryd.zeroValue131,
  g17 := by kernel_rfl,
  g18 := by kernel_rfl,
  g19 := by kernel_rfl,
  i0 := by kernel_rfl,
  i2 := by kernel_rfl,
  i3 := by kernel_rfl,
  i4 := by kernel_rfl,
  i5 := by kernel_rfl,
  i9 := by kernel_rfl,
  i20 := by kernel_rfl,
  i37 := by kernel_rfl,
  i46 := by kernel_rfl,
  i51 := by kernel_rfl,
  i53 := by kernel_rfl,
  i171 := by kernel_rfl,
  i173 := by kernel_rfl,
  i212 := by kernel_rfl,
  i232 := by kernel_rfl,
  i233 := by kernel_rfl,
  m17 := by kernel_rfl,
  m18 := by kernel_rfl,
  m19 := by kernel_rfl }
/-- The library's table of powers of ten lies as it was laid. -/
def Tab (w : World) : Prop := Lib.TabIs Tryd.prog w "internal/strconv.uint64pow10" .u64 Lib.pow10Tab
theorem tab_g : Tryd.prog.globalNamed "internal/strconv.uint64pow10" = some 1 := by kernel_rfl
theorem Tab.lt {w : World} (h : Tab w) : 1 < w.heap.size := by
  unfold Tab Lib.TabIs World.var? at h
  rw [tab_g] at h
  rcases Nat.lt_or_ge 1 w.heap.size with h1 | h1
  · exact h1
  · rw [Option.bind_some, Array.getElem?_eq_none h1] at h; cases h
theorem Tab.mods {S : Nat → Prop} {w w' : World} (h : Tab w) (hm : Mods S w w') (hS : ¬ S 1) : Tab w' := by
  have hb := hm.block _ h.lt hS
  unfold Tab Lib.TabIs World.var? at h ⊢
  rw [tab_g, Option.bind_some] at h ⊢
  rw [hb]
  exact h
theorem Tab.no {w w' : World} (h : Tab w) (hm : Mods No w w') : Tab w' := h.mods hm fun e => e
theorem itoa_K (w : World) (i : Nat) (hi : i ≤ 65536) (ht : Tab w) : Calls Tryd.prog 48 #[.int .i64 i] w (Ret fun v w' => v = ks (Lib.itoa (i : Int)) ∧ Mods No w w') :=
  (Any.strconv_Itoa itoaL (i : Int) (by omega) (by omega) w ht).mono fun e w' ⟨he, k, os, hw⟩ => by
    subst he
    exact ⟨rfl, Gr.mods ⟨k, os, hw⟩⟩
theorem clone_K (w : World) (s : Tx) (h : s.length ≤ 281474976710656) : Calls Tryd.prog 46 #[ks s] w (Ret fun v w' => v = ks s ∧ Mods No w w') := by
  have hc : Calls Tryd.prog 58 #[.string ⟨s.toArray⟩] w (Ret fun v w' => v = ks s ∧ Mods No w w') := (AnyPu.stringslite_Clone cloneL ⟨s.toArray⟩ w h).mono fun e w' he => by
    obtain ⟨rfl, hb⟩ := he
    exact ⟨rfl, Mods.of_below hb⟩
  have Hhc := Lib.hid hc
  clear hc
  have Hh := Lib.hid h
  clear h
  unfold ks
  go_enter Tryd.func46, Tryd.ntmps46
  go_wp2_with (first | (go_at_call 58; (refine ret_use (Hhc.out) ?_; rintro v w2 ⟨rfl, hm2⟩; (unfold ks); have HM2 := Lib.hid hm2; clear hm2)) | ((with_reducible refine wp_region_por ?_ ?_ ?_ ?_); kernel_rfl; kernel_rfl; (with_reducible repeat (first | exact calm_ret | refine calm_then ?_ | refine calm_in ?_ | refine calm_chk ?_ | refine calm_noGoto ?_))) | ((with_reducible refine chk_end ?_ ?_); kernel_rfl))
  go_ret
  exact ⟨rfl, HM2.out⟩
/-- The ring at q: c copies, the slices nv, pv; nodes N, places L; all in blocks of F. -/
structure RgK (w : World) (q : Nat) (c : Nat) (nv pv : Value) (N : List Tx) (L : List Plc) (F : Nat → Prop) : Prop where
  cells : Cells w q 62 #[.int .i64 (c : Int), nv, pv]
  nown : Own w F 9 1 nv N.length (N.map ks)
  pown : Own w F 39 2 pv L.length (plcs L)
  fq : F q
  f1 : ¬ F 1
section
variable {w w' : World} {q c : Nat} {nv pv : Value} {N : List Tx} {L : List Plc} {F G : Nat → Prop}
theorem RgK.mods {S : Nat → Prop} (h : RgK w q c nv pv N L F) (hm : Mods S w w') (hS : ∀ g, g < w.heap.size → F g → ¬ S g) : RgK w' q c nv pv N L F :=
  ⟨h.cells.mods hm (hS q h.cells.lt h.fq), h.nown.mods hm fun g hg => hS g (h.nown.lt g hg) (h.nown.2 g hg), h.pown.mods hm fun g hg => hS g (h.pown.lt g hg) (h.pown.2 g hg), h.fq, h.f1⟩
theorem RgK.no (h : RgK w q c nv pv N L F) (hm : Mods No w w') : RgK w' q c nv pv N L F := h.mods hm fun _ _ _ e => e
theorem RgK.more (h : RgK w q c nv pv N L F) (hs : ∀ g, F g → G g) (h1 : ¬ G 1) : RgK w q c nv pv N L G := ⟨h.cells, h.nown.more hs, h.pown.more hs, hs _ h.fq, h1⟩
theorem RgK.nq (h : RgK w q c nv pv N L F) : nv.ownBlock ≠ some q ∧ pv.ownBlock ≠ some q := ⟨h.nown.ne_cells h.cells (by decide), h.pown.ne_cells h.cells (by decide)⟩
theorem RgK.np (h : RgK w q c nv pv N L F) : ∀ g, nv.ownBlock = some g → pv.ownBlock ≠ some g := fun g hg e => by
  obtain ⟨c1, h1⟩ := h.nown.typed g hg
  obtain ⟨c2, h2⟩ := h.pown.typed g e
  exact h1.ne_ h2 (by decide) rfl
end
/-- A ring of the nodes N. -/
structure RingI (N : List Tx) (c : Nat) : Prop where
  strict : Strict ltT N
  fit : ∀ s ∈ N, fitB s = true
  small : N.length ≤ 64
  c1 : 1 ≤ c
  c2 : c ≤ 128
def RingK (w : World) (q c : Nat) (N : List Tx) (F : Nat → Prop) : Prop := RingI N c ∧ ∃ nv pv, RgK w q c nv pv N (placesOf c N) F
theorem RingI.psmall {N : List Tx} {c : Nat} (h : RingI N c) : (placesOf c N).length ≤ 8192 := by
  rw [placesOf_len]
  have := Nat.mul_le_mul h.small h.c2
  omega
theorem RingK.mods {S : Nat → Prop} {w w' : World} {q c : Nat} {N : List Tx} {F : Nat → Prop} (h : RingK w q c N F) (hm : Mods S w w') (hS : ∀ g, g < w.heap.size → F g → ¬ S g) : RingK w' q c N F := by
  obtain ⟨hi, nv, pv, h⟩ := h
  exact ⟨hi, nv, pv, h.mods hm hS⟩
theorem RingK.no {w w' : World} {q c : Nat} {N : List Tx} {F : Nat → Prop} (h : RingK w q c N F) (hm : Mods No w w') : RingK w' q c N F := h.mods hm fun _ _ _ e => e
theorem RingK.more {w : World} {q c : Nat} {N : List Tx} {F G : Nat → Prop} (h : RingK w q c N F) (hs : ∀ g, F g → G g) (h1 : ¬ G 1) : RingK w q c N G := by
  obtain ⟨hi, nv, pv, h⟩ := h
  exact ⟨hi, nv, pv, h.more hs h1⟩
end Go.Proofs.YtilkepmmkhmghaaDoor
