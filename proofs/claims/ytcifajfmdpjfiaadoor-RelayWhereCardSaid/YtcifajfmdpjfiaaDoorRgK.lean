/- A ring in memory; Itoa, Clone. -/
import Derived.Test.YtcifajfmdpjfiaaDoorRgI
import Derived.Test.YtcifajfmdpjfiaaDoorMPl
import Derived.Test.YtcifajfmdpjfiaaDoorMBs
import Derived.Shelf.Pu.Clone
import Derived.Shelf.Strconv.Itoa3
import Derived.Lib.LaidTab
namespace Go.Proofs.YtcifajfmdpjfiaaDoor
open Go.RowKit Go.Tum Go.Lib Go.Sort
set_option maxRecDepth 100000
def cloneL_ren : Go.Shelf.Ren := ⟨fun | 25 => 63 | n => n, fun | 9 => 9 | 3 => 3 | 4 => 4 | 37 => 24 | 0 => 0 | 47 => 134 | 5 => 5 | n => n, fun | n => n⟩
set_option maxRecDepth 100000 in
theorem cloneL : Go.Proofs.LaysPu.n25 Tryd.prog cloneL_ren := {
  mixed := by kernel_rfl,
  f25 := Tryd.func63.trans (congrArg some (by kernel_rfl)),
  t0 := Tryd.underlying0,
  a0 := Tryd.isAgg0,
  z0 := Tryd.sizeOf0,
  v0 := Tryd.zeroValue0,
  i0 := by kernel_rfl,
  t3 := Tryd.underlying3,
  a3 := Tryd.isAgg3,
  z3 := Tryd.sizeOf3,
  v3 := Tryd.zeroValue3,
  i3 := by kernel_rfl,
  t4 := Tryd.underlying4,
  a4 := Tryd.isAgg4,
  z4 := Tryd.sizeOf4,
  v4 := Tryd.zeroValue4,
  i4 := by kernel_rfl,
  t5 := Tryd.underlying5,
  a5 := Tryd.isAgg5,
  z5 := Tryd.sizeOf5,
  v5 := Tryd.zeroValue5,
  i5 := by kernel_rfl,
  t9 := Tryd.underlying9,
  a9 := Tryd.isAgg9,
  z9 := Tryd.sizeOf9,
  v9 := Tryd.zeroValue9,
  i9 := by kernel_rfl,
  t37 := Tryd.underlying24,
  a37 := Tryd.isAgg24,
  z37 := Tryd.sizeOf24,
  v37 := Tryd.zeroValue24,
  i37 := by kernel_rfl,
  t47 := Tryd.underlying134,
  a47 := Tryd.isAgg134,
  z47 := Tryd.sizeOf134,
  v47 := Tryd.zeroValue134,
  i47 := by kernel_rfl }
def itoaL_ren : Go.Shelf.Ren := ⟨fun | 171 => 55 | 243 => 66 | 246 => 75 | 283 => 89 | 284 => 90 | 285 => 91 | 286 => 92 | 129 => 85 | 317 => 99 | 318 => 100 | 319 => 101 | 320 => 102 | 337 => 104 | 338 => 105 | n => n, fun | 3 => 3 | 9 => 9 | 2 => 2 | 4 => 4 | 171 => 147 | 0 => 0 | 53 => 41 | 37 => 24 | 5 => 5 | 173 => 149 | 212 => 159 | 51 => 130 | 20 => 20 | 213 => 160 | 46 => 123 | 232 => 165 | 233 => 166 | n => n, fun | 17 => 1 | 18 => 2 | 19 => 3 | n => n⟩
set_option maxRecDepth 100000 in
theorem itoaL : Go.Proofs.LaysM.n171 Tryd.prog itoaL_ren := {
  mixed := by kernel_rfl,
  f129 := Tryd.func85.trans (congrArg some (by kernel_rfl)),
  f171 := Tryd.func55.trans (congrArg some (by kernel_rfl)),
  f243 := Tryd.func66.trans (congrArg some (by kernel_rfl)),
  f246 := Tryd.func75.trans (congrArg some (by kernel_rfl)),
  f283 := Tryd.func89.trans (congrArg some (by kernel_rfl)),
  f284 := Tryd.func90.trans (congrArg some (by kernel_rfl)),
  f285 := Tryd.func91.trans (congrArg some (by kernel_rfl)),
  f286 := Tryd.func92.trans (congrArg some (by kernel_rfl)),
  f317 := Tryd.func99.trans (congrArg some (by kernel_rfl)),
  f318 := Tryd.func100.trans (congrArg some (by kernel_rfl)),
  f319 := Tryd.func101.trans (congrArg some (by kernel_rfl)),
  f320 := Tryd.func102.trans (congrArg some (by kernel_rfl)),
  f337 := Tryd.func104.trans (congrArg some (by kernel_rfl)),
  f338 := Tryd.func105.trans (congrArg some (by kernel_rfl)),
  t0 := Tryd.underlying0,
  a0 := Tryd.isAgg0,
  z0 := Tryd.sizeOf0,
  v0 := Tryd.zeroValue0,
  t2 := Tryd.underlying2,
  a2 := Tryd.isAgg2,
  z2 := Tryd.sizeOf2,
  v2 := Tryd.zeroValue2,
  t3 := Tryd.underlying3,
  a3 := Tryd.isAgg3,
  z3 := Tryd.sizeOf3,
  v3 := Tryd.zeroValue3,
  t4 := Tryd.underlying4,
  a4 := Tryd.isAgg4,
  z4 := Tryd.sizeOf4,
  v4 := Tryd.zeroValue4,
  t5 := Tryd.underlying5,
  a5 := Tryd.isAgg5,
  z5 := Tryd.sizeOf5,
  v5 := Tryd.zeroValue5,
  t9 := Tryd.underlying9,
  a9 := Tryd.isAgg9,
  z9 := Tryd.sizeOf9,
  v9 := Tryd.zeroValue9,
  t20 := Tryd.underlying20,
  a20 := Tryd.isAgg20,
  z20 := Tryd.sizeOf20,
  v20 := Tryd.zeroValue20,
  t37 := Tryd.underlying24,
  a37 := Tryd.isAgg24,
  z37 := Tryd.sizeOf24,
  v37 := Tryd.zeroValue24,
  t46 := Tryd.underlying123,
  a46 := Tryd.isAgg123,
  z46 := Tryd.sizeOf123,
  v46 := Tryd.zeroValue123,
  t51 := Tryd.underlying130,
  a51 := Tryd.isAgg130,
  z51 := Tryd.sizeOf130,
  v51 := Tryd.zeroValue130,
  t53 := Tryd.underlying41,
  a53 := Tryd.isAgg41,
  z53 := Tryd.sizeOf41,
  v53 := Tryd.zeroValue41,
  t171 := Tryd.underlying147,
  a171 := Tryd.isAgg147,
  z171 := Tryd.sizeOf147,
  v171 := Tryd.zeroValue147,
  t173 := Tryd.underlying149,
  a173 := Tryd.isAgg149,
  z173 := Tryd.sizeOf149,
  v173 := Tryd.zeroValue149,
  t212 := Tryd.underlying159,
  a212 := Tryd.isAgg159,
  z212 := Tryd.sizeOf159,
  v212 := Tryd.zeroValue159,
  t213 := Tryd.underlying160,
  a213 := Tryd.isAgg160,
  z213 := Tryd.sizeOf160,
  t232 := Tryd.underlying165,
  a232 := Tryd.isAgg165,
  z232 := Tryd.sizeOf165,
  v232 := Tryd.zeroValue165,
  t233 := Tryd.underlying166,
  a233 := Tryd.isAgg166,
  z233 := Tryd.sizeOf166,
  v233 := Tryd.zeroValue166,
  g17 := by kernel_rfl,
  g18 := by kernel_rfl,
  g19 := by kernel_rfl,
  i0 := by kernel_rfl,
  i2 := by kernel_rfl,
  i3 := by kernel_rfl,
  i4 := by kernel_rfl,
  i5 := by kernel_rfl,
  i9 := by kernel_rfl,
  i20 := by kernel_rfl,
  i37 := by kernel_rfl,
  i46 := by kernel_rfl,
  i51 := by kernel_rfl,
  i53 := by kernel_rfl,
  i171 := by kernel_rfl,
  i173 := by kernel_rfl,
  i212 := by kernel_rfl,
  i232 := by kernel_rfl,
  i233 := by kernel_rfl,
  m17 := by kernel_rfl,
  m18 := by kernel_rfl,
  m19 := by kernel_rfl }
/-- The library's table of powers of ten lies as it was laid. -/
def Tab (w : World) : Prop := Lib.TabIs Tryd.prog w "internal/strconv.uint64pow10" .u64 Lib.pow10Tab
theorem tab_g : Tryd.prog.globalNamed "internal/strconv.uint64pow10" = some 1 := by kernel_rfl
theorem Tab.lt {w : World} (h : Tab w) : 1 < w.heap.size := by
  unfold Tab Lib.TabIs World.var? at h
  rw [tab_g] at h
  rcases Nat.lt_or_ge 1 w.heap.size with h1 | h1
  · exact h1
  · rw [Option.bind_some, Array.getElem?_eq_none h1] at h; cases h
theorem Tab.mods {S : Nat → Prop} {w w' : World} (h : Tab w) (hm : Mods S w w') (hS : ¬ S 1) : Tab w' := by
  have hb := hm.block _ h.lt hS
  unfold Tab Lib.TabIs World.var? at h ⊢
  rw [tab_g, Option.bind_some] at h ⊢
  rw [hb]
  exact h
theorem Tab.no {w w' : World} (h : Tab w) (hm : Mods No w w') : Tab w' := h.mods hm fun e => e
theorem itoa_K (w : World) (i : Nat) (hi : i ≤ 65536) (ht : Tab w) : Calls Tryd.prog 55 #[.int .i64 i] w (Ret fun v w' => v = ks (Lib.itoa (i : Int)) ∧ Mods No w w') :=
  (Any.strconv_Itoa itoaL (i : Int) (by omega) (by omega) w ht).mono fun e w' ⟨he, k, os, hw⟩ => by
    subst he
    exact ⟨rfl, Gr.mods ⟨k, os, hw⟩⟩
theorem clone_K (w : World) (s : Tx) (h : s.length ≤ 281474976710656) : Calls Tryd.prog 53 #[ks s] w (Ret fun v w' => v = ks s ∧ Mods No w w') := by
  have hc : Calls Tryd.prog 63 #[.string ⟨s.toArray⟩] w (Ret fun v w' => v = ks s ∧ Mods No w w') := (AnyPu.stringslite_Clone cloneL ⟨s.toArray⟩ w h).mono fun e w' he => by
    obtain ⟨rfl, hb⟩ := he
    exact ⟨rfl, Mods.of_below hb⟩
  have Hhc := Lib.hid hc
  clear hc
  have Hh := Lib.hid h
  clear h
  unfold ks
  go_enter Tryd.func53, Tryd.ntmps53
  go_wp2_with (first | (go_at_call 63; (refine ret_use (Hhc.out) ?_; rintro v w2 ⟨rfl, hm2⟩; (unfold ks); have HM2 := Lib.hid hm2; clear hm2)) | ((with_reducible refine wp_region_por ?_ ?_ ?_ ?_); kernel_rfl; kernel_rfl; (with_reducible repeat (first | exact calm_ret | refine calm_then ?_ | refine calm_in ?_ | refine calm_chk ?_ | refine calm_noGoto ?_))) | ((with_reducible refine chk_end ?_ ?_); kernel_rfl))
  go_ret
  exact ⟨rfl, HM2.out⟩
/-- The ring at q: c copies, the slices nv, pv; nodes N, places L; all in blocks of F. -/
structure RgK (w : World) (q : Nat) (c : Nat) (nv pv : Value) (N : List Tx) (L : List Plc) (F : Nat → Prop) : Prop where
  cells : Cells w q 97 #[.int .i64 (c : Int), nv, pv]
  nown : Own w F 9 1 nv N.length (N.map ks)
  pown : Own w F 103 2 pv L.length (plcs L)
  fq : F q
  f1 : ¬ F 1
section
variable {w w' : World} {q c : Nat} {nv pv : Value} {N : List Tx} {L : List Plc} {F G : Nat → Prop}
theorem RgK.mods {S : Nat → Prop} (h : RgK w q c nv pv N L F) (hm : Mods S w w') (hS : ∀ g, g < w.heap.size → F g → ¬ S g) : RgK w' q c nv pv N L F :=
  ⟨h.cells.mods hm (hS q h.cells.lt h.fq), h.nown.mods hm fun g hg => hS g (h.nown.lt g hg) (h.nown.2 g hg), h.pown.mods hm fun g hg => hS g (h.pown.lt g hg) (h.pown.2 g hg), h.fq, h.f1⟩
theorem RgK.no (h : RgK w q c nv pv N L F) (hm : Mods No w w') : RgK w' q c nv pv N L F := h.mods hm fun _ _ _ e => e
theorem RgK.more (h : RgK w q c nv pv N L F) (hs : ∀ g, F g → G g) (h1 : ¬ G 1) : RgK w q c nv pv N L G := ⟨h.cells, h.nown.more hs, h.pown.more hs, hs _ h.fq, h1⟩
theorem RgK.nq (h : RgK w q c nv pv N L F) : nv.ownBlock ≠ some q ∧ pv.ownBlock ≠ some q := ⟨h.nown.ne_cells h.cells (by decide), h.pown.ne_cells h.cells (by decide)⟩
theorem RgK.np (h : RgK w q c nv pv N L F) : ∀ g, nv.ownBlock = some g → pv.ownBlock ≠ some g := fun g hg e => by
  obtain ⟨c1, h1⟩ := h.nown.typed g hg
  obtain ⟨c2, h2⟩ := h.pown.typed g e
  exact h1.ne_ h2 (by decide) rfl
end
/-- A ring of the nodes N. -/
structure RingI (N : List Tx) (c : Nat) : Prop where
  strict : Strict ltT N
  fit : ∀ s ∈ N, fitB s = true
  small : N.length ≤ 64
  c1 : 1 ≤ c
  c2 : c ≤ 128
def RingK (w : World) (q c : Nat) (N : List Tx) (F : Nat → Prop) : Prop := RingI N c ∧ ∃ nv pv, RgK w q c nv pv N (placesOf c N) F
theorem RingI.psmall {N : List Tx} {c : Nat} (h : RingI N c) : (placesOf c N).length ≤ 8192 := by
  rw [placesOf_len]
  have := Nat.mul_le_mul h.small h.c2
  omega
theorem RingK.mods {S : Nat → Prop} {w w' : World} {q c : Nat} {N : List Tx} {F : Nat → Prop} (h : RingK w q c N F) (hm : Mods S w w') (hS : ∀ g, g < w.heap.size → F g → ¬ S g) : RingK w' q c N F := by
  obtain ⟨hi, nv, pv, h⟩ := h
  exact ⟨hi, nv, pv, h.mods hm hS⟩
theorem RingK.no {w w' : World} {q c : Nat} {N : List Tx} {F : Nat → Prop} (h : RingK w q c N F) (hm : Mods No w w') : RingK w' q c N F := h.mods hm fun _ _ _ e => e
theorem RingK.more {w : World} {q c : Nat} {N : List Tx} {F G : Nat → Prop} (h : RingK w q c N F) (hs : ∀ g, F g → G g) (h1 : ¬ G 1) : RingK w q c N G := by
  obtain ⟨hi, nv, pv, h⟩ := h
  exact ⟨hi, nv, pv, h.more hs h1⟩
end Go.Proofs.YtcifajfmdpjfiaaDoor
