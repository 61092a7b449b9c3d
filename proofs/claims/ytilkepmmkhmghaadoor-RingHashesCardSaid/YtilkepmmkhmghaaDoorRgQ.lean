/- The laws RingHashes and RingGoesOn, walked. -/
import Derived.Test.YtilkepmmkhmghaaDoorRgP
namespace Go.Proofs.YtilkepmmkhmghaaDoor
open Go.RowKit Go.Tum Go.Lib Go.Sort
set_option maxRecDepth 100000
set_option maxHeartbeats 3200000 in
theorem ringHashes_K (w : World) (s : Tx) (n : Int) (ht : Tab w) (hs : s.length ≤ maxLen) : Calls Tryd.prog 6 #[ks s, .int .i64 n] w (Ret fun v w' => v = .bool true ∧ Mods No w w') := by
  have h1 := hash32_K w s hs
  have h2 := rhash32_K w s hs
  have h3 := hash64_K w s hs
  have h4 := rhash64_K w s hs
  have h5 := shard_K w s n hs
  have h6 := rshard_K w s n hs
  have h7 := alive_K w ht
  obtain ⟨a, ha⟩ : ∃ a : Int, a = (fnv32 s : Int) := ⟨_, rfl⟩
  obtain ⟨b, hb⟩ : ∃ b : Int, b = (fnv64 s : Int) := ⟨_, rfl⟩
  obtain ⟨c, hc⟩ : ∃ c : Int, c = shardV s n := ⟨_, rfl⟩
  rw [← ha] at h1 h2
  rw [← hb] at h3 h4
  rw [← hc] at h5 h6
  clear ha hb hc
  have Hh1 := Lib.hid h1
  clear h1
  have Hh2 := Lib.hid h2
  clear h2
  have Hh3 := Lib.hid h3
  clear h3
  have Hh4 := Lib.hid h4
  clear h4
  have Hh5 := Lib.hid h5
  clear h5
  have Hh6 := Lib.hid h6
  clear h6
  have Hh7 := Lib.hid h7
  clear h7
  unfold ks at *
  go_enter Tryd.func6, Tryd.ntmps6
  go_wp2_with (first | (go_at_call 19; (refine ret_use (Hh1.out) ?_; rintro v w2 ⟨rfl, rfl⟩)) | (go_at_call 23; (refine ret_use (Hh2.out) ?_; rintro v w2 ⟨rfl, rfl⟩)) | (go_at_call 20; (refine ret_use (Hh3.out) ?_; rintro v w2 ⟨rfl, rfl⟩)) | (go_at_call 24; (refine ret_use (Hh4.out) ?_; rintro v w2 ⟨rfl, rfl⟩)) | (go_at_call 25; (refine ret_use (Hh5.out) ?_; rintro v w2 ⟨rfl, rfl⟩)) | (go_at_call 26; (refine ret_use (Hh6.out) ?_; rintro v w2 ⟨rfl, rfl⟩)) | (go_at_call 13; (refine ret_use (Hh7.out) ?_; rintro v w2 ⟨rfl, hm2⟩; have HM2 := Lib.hid hm2; clear hm2)) | ((with_reducible refine wp_region_por ?_ ?_ ?_ ?_); kernel_rfl; kernel_rfl; (with_reducible repeat (first | exact calm_ret | refine calm_then ?_ | refine calm_in ?_ | refine calm_chk ?_ | refine calm_noGoto ?_))) | ((with_reducible refine chk_end ?_ ?_); kernel_rfl))
  go_ret
  exact ⟨rfl, HM2.out⟩
theorem ext_take (s : Tx) (i : Nat) : (ByteArray.mk s.toArray).extract 0 i = ⟨(s.take i).toArray⟩ := by
  rw [ByteArray.ext_iff]; simp
theorem ext_drop (s : Tx) (i : Nat) : (ByteArray.mk s.toArray).extract i s.length = ⟨(s.drop i).toArray⟩ := by
  rw [ByteArray.ext_iff]; simp; exact List.take_of_length_le (by simp)
theorem hashB32 (w : World) (b : ByteArray) (T : Tx) (hb : b = ⟨T.toArray⟩) (hT : T.length ≤ maxLen) (y : Int) (hy : y = (fnv32 T : Int)) : Calls Tryd.prog 19 #[.string b] w (Ret fun v w' => v = .int .u32 y ∧ w = w') := by
  subst hb hy
  exact hash32_K w T hT
theorem hashB64 (w : World) (b : ByteArray) (T : Tx) (hb : b = ⟨T.toArray⟩) (hT : T.length ≤ maxLen) (y : Int) (hy : y = (fnv64 T : Int)) : Calls Tryd.prog 20 #[.string b] w (Ret fun v w' => v = .int .u64 y ∧ w = w') := by
  subst hb hy
  exact hash64_K w T hT
theorem turn_ba (s : Tx) (c : UInt8) (p : Nat) (m : Tx) : (ByteArray.mk s.toArray).extract 0 p ++ ⟨#[c]⟩ ++ (ByteArray.mk s.toArray).extract (p + 1) s.length ++ ⟨m.toArray⟩ = ⟨(s.take p ++ c :: (s.drop (p + 1) ++ m)).toArray⟩ := by
  rw [ext_take, ext_drop, show (⟨#[c]⟩ : ByteArray) = ⟨([c] : Tx).toArray⟩ from rfl, ba_cat, ba_cat, ba_cat]
  simp
theorem whole_ba (s m : Tx) {p : Nat} (hp : p < s.length) : s ++ m = s.take p ++ s[p] :: (s.drop (p + 1) ++ m) := by
  rw [← List.cons_append, List.getElem_cons_drop, ← List.append_assoc, List.take_append_drop]
theorem same_byte (s : Tx) (c : UInt8) {p : Nat} (hp : p < s.length) : (((s[p]).toNat : Int) == (c.toNat : Int)) = decide (s[p] = c) := by
  by_cases h : s[p] = c
  · rw [h]; simp
  · rw [decide_eq_false h, beq_eq_false_iff_ne]
    intro e
    exact h (UInt8.toNat_inj.1 (by omega))
theorem turned_hash {f : Tx → Nat} (hf : ∀ u v c d, f (u ++ c :: v) = f (u ++ d :: v) ↔ c = d) (s m : Tx) (c : UInt8) {p : Nat} (hp : p < s.length) : (((f (s ++ m) : Nat) : Int) == ((f (s.take p ++ c :: (s.drop (p + 1) ++ m)) : Nat) : Int)) = decide (s[p] = c) := by
  rw [whole_ba s m hp]
  by_cases h : s[p] = c
  · rw [h]; simp
  · rw [decide_eq_false h, beq_eq_false_iff_ne]
    intro e
    exact h ((hf _ _ _ _).1 (Int.ofNat.inj e))
set_option maxHeartbeats 3200000 in
theorem ringGoesOn_K (w : World) (s : Tx) (i : Int) (c : UInt8) (m : Tx) (ht : Tab w) (hs : s.length ≤ 140737488355328) (hm : m.length ≤ 140737488355328) : Calls Tryd.prog 4 #[ks s, .int .i64 i, .int .u8 (c.toNat : Int), ks m] w (Ret fun v w' => v = .bool true ∧ Mods No w w') := by
  have h7 := fun w' (hm : Mods No w w') => alive_K w' (ht.no hm)
  rcases s with _ | ⟨s0, s1⟩
  · skip
    have Hh7 := Lib.hid h7
    clear h7
    have Hht := Lib.hid ht
    clear ht
    unfold ks at *
    go_enter Tryd.func4, Tryd.ntmps4
    go_wp2_with (first | (go_at_call 13; (fail_if_success have := HM2); (refine ret_use (Hh7.out w (Mods.refl _ _)) ?_; rintro v w2 ⟨rfl, hm2⟩; have HM2 := Lib.hid hm2; clear hm2)) | (go_at_call 13; (refine ret_use (Hh7.out w2 HM2.out) ?_; rintro v w3 ⟨rfl, hm3⟩; have HM3 := Lib.hid hm3; clear hm3)) | ((with_reducible refine wp_region_por ?_ ?_ ?_ ?_); kernel_rfl; kernel_rfl; (with_reducible repeat (first | exact calm_ret | refine calm_then ?_ | refine calm_in ?_ | refine calm_chk ?_ | refine calm_noGoto ?_))) | ((with_reducible refine chk_end ?_ ?_); kernel_rfl))
    go_ret
    exact ⟨rfl, HM2.out.trans HM3.out fun _ _ e => e⟩
  · obtain ⟨s, hs'⟩ : ∃ s, s = s0 :: s1 := ⟨_, rfl⟩
    rw [← hs'] at hs ⊢
    have hpos : 0 < s.length := by rw [hs']; simp
    clear hs'
    obtain ⟨p, hp, hc⟩ : ∃ p : Nat, p < s.length ∧ ((i < 0 ∧ (s.length : Int) - 1 = (p : Int)) ∨ (¬ i < 0 ∧ (s.length : Int) ≤ i ∧ (s.length : Int) - 1 = (p : Int)) ∨ i = (p : Int)) := by
      by_cases h1 : i < 0
      · exact ⟨s.length - 1, by omega, .inl ⟨h1, by omega⟩⟩
      · by_cases h2 : (s.length : Int) ≤ i
        · exact ⟨s.length - 1, by omega, .inr (.inl ⟨h1, h2, by omega⟩)⟩
        · exact ⟨i.toNat, by omega, .inr (.inr (by omega))⟩
    have hse : (((s.length : Int)) == 0) = false := by
      rw [beq_eq_false_iff_ne]; omega
    have hsm := same_byte s c hp
    have e32 := turned_hash fnv32_byte s m c hp
    have e64 := turned_hash fnv64_byte s m c hp
    have hsm2 : (((((ByteArray.mk s.toArray)[p]'(by show p < s.toArray.size; rw [List.size_toArray]; exact hp)).toNat : Nat) : Int) == ((c.toNat : Nat) : Int)) = decide (s[p] = c) := hsm
    clear hsm
    obtain ⟨sm, hsmd⟩ : ∃ sm, sm = decide (s[p] = c) := ⟨_, rfl⟩
    rw [← hsmd] at hsm2 e32 e64
    clear hsmd
    have k1 := fun w' y hy => hashB32 w' _ (s ++ m) (ba_cat s m) (by unfold maxLen; rw [List.length_append]; omega) y hy
    have k2 := fun w' y hy => hashB32 w' _ _ (turn_ba s c p m) (by unfold maxLen; simp only [List.length_append, List.length_take, List.length_cons, List.length_drop]; omega) y hy
    have k3 := fun w' y hy => hashB64 w' _ (s ++ m) (ba_cat s m) (by unfold maxLen; rw [List.length_append]; omega) y hy
    have k4 := fun w' y hy => hashB64 w' _ _ (turn_ba s c p m) (by unfold maxLen; simp only [List.length_append, List.length_take, List.length_cons, List.length_drop]; omega) y hy
    obtain ⟨a1, ha1⟩ : ∃ a : Int, a = (fnv32 (s ++ m) : Int) := ⟨_, rfl⟩
    obtain ⟨a2, ha2⟩ : ∃ a : Int, a = (fnv32 (s.take p ++ c :: (s.drop (p + 1) ++ m)) : Int) := ⟨_, rfl⟩
    obtain ⟨b1, hb1⟩ : ∃ a : Int, a = (fnv64 (s ++ m) : Int) := ⟨_, rfl⟩
    obtain ⟨b2, hb2⟩ : ∃ a : Int, a = (fnv64 (s.take p ++ c :: (s.drop (p + 1) ++ m)) : Int) := ⟨_, rfl⟩
    rw [← ha1, ← ha2] at e32
    rw [← hb1, ← hb2] at e64
    have Hh7 := Lib.hid h7
    clear h7
    have Hht := Lib.hid ht
    clear ht
    have Hk1 := Lib.hid k1
    clear k1
    have Hk2 := Lib.hid k2
    clear k2
    have Hk3 := Lib.hid k3
    clear k3
    have Hk4 := Lib.hid k4
    clear k4
    have Hha1 := Lib.hid ha1
    clear ha1
    have Hha2 := Lib.hid ha2
    clear ha2
    have Hhb1 := Lib.hid hb1
    clear hb1
    have Hhb2 := Lib.hid hb2
    clear hb2
    rcases hc with ⟨h1, h2⟩ | ⟨h1, h2, h3⟩ | rfl
    · have h1' : decide (i < 0) = true := decide_eq_true h1
      unfold ks at *
      go_enter Tryd.func4, Tryd.ntmps4
      go_wp2_with (first | (go_at_call 13; (fail_if_success have := HM2); (refine ret_use (Hh7.out w (Mods.refl _ _)) ?_; rintro v w2 ⟨rfl, hm2⟩; have HM2 := Lib.hid hm2; have hcv := run_convert_rd (P := Tryd.prog) ((w2.alloc (.cells #[.int .u8 (c.toNat : Int)] 5)).drew) 42 9 5 Tryd.underlying42 Tryd.underlying5 Tryd.underlying9 (F := fun g => g = w2.heap.size) (v := .slice (some ⟨w2.heap.size, 0, none⟩) 1 1) (l := [c]) (Rd.box (w2) #[.int .u8 (c.toNat : Int)] 5 rfl rfl (show 1 ≤ maxLen by decide)); clear hm2)) | (go_at_call 19; (fail_if_success have := D1); (refine ret_use (Hk1.out _ a1 Hha1.out) ?_; rintro v w3 ⟨rfl, rfl⟩; have D1 := True.intro)) | (go_at_call 19; (refine ret_use (Hk2.out _ a2 Hha2.out) ?_; rintro v w3 ⟨rfl, rfl⟩)) | (go_at_call 20; (fail_if_success have := D3); (refine ret_use (Hk3.out _ b1 Hhb1.out) ?_; rintro v w3 ⟨rfl, rfl⟩; have D3 := True.intro)) | (go_at_call 20; (refine ret_use (Hk4.out _ b2 Hhb2.out) ?_; rintro v w3 ⟨rfl, rfl⟩)) | ((with_reducible refine wp_region_por ?_ ?_ ?_ ?_); kernel_rfl; kernel_rfl; (with_reducible repeat (first | exact calm_ret | refine calm_then ?_ | refine calm_in ?_ | refine calm_chk ?_ | refine calm_noGoto ?_))) | ((with_reducible refine chk_end ?_ ?_); kernel_rfl))
      go_ret
      exact ⟨rfl, ((HM2.out.alloc _).drew)⟩
    · have h1' : decide (i < 0) = false := decide_eq_false h1
      have h2' : decide ((s.length : Int) ≤ i) = true := decide_eq_true h2
      unfold ks at *
      go_enter Tryd.func4, Tryd.ntmps4
      go_wp2_with (first | (go_at_call 13; (fail_if_success have := HM2); (refine ret_use (Hh7.out w (Mods.refl _ _)) ?_; rintro v w2 ⟨rfl, hm2⟩; have HM2 := Lib.hid hm2; have hcv := run_convert_rd (P := Tryd.prog) ((w2.alloc (.cells #[.int .u8 (c.toNat : Int)] 5)).drew) 42 9 5 Tryd.underlying42 Tryd.underlying5 Tryd.underlying9 (F := fun g => g = w2.heap.size) (v := .slice (some ⟨w2.heap.size, 0, none⟩) 1 1) (l := [c]) (Rd.box (w2) #[.int .u8 (c.toNat : Int)] 5 rfl rfl (show 1 ≤ maxLen by decide)); clear hm2)) | (go_at_call 19; (fail_if_success have := D1); (refine ret_use (Hk1.out _ a1 Hha1.out) ?_; rintro v w3 ⟨rfl, rfl⟩; have D1 := True.intro)) | (go_at_call 19; (refine ret_use (Hk2.out _ a2 Hha2.out) ?_; rintro v w3 ⟨rfl, rfl⟩)) | (go_at_call 20; (fail_if_success have := D3); (refine ret_use (Hk3.out _ b1 Hhb1.out) ?_; rintro v w3 ⟨rfl, rfl⟩; have D3 := True.intro)) | (go_at_call 20; (refine ret_use (Hk4.out _ b2 Hhb2.out) ?_; rintro v w3 ⟨rfl, rfl⟩)) | ((with_reducible refine wp_region_por ?_ ?_ ?_ ?_); kernel_rfl; kernel_rfl; (with_reducible repeat (first | exact calm_ret | refine calm_then ?_ | refine calm_in ?_ | refine calm_chk ?_ | refine calm_noGoto ?_))) | ((with_reducible refine chk_end ?_ ?_); kernel_rfl))
      go_ret
      exact ⟨rfl, ((HM2.out.alloc _).drew)⟩
    · have h1' : decide ((p : Int) < 0) = false := decide_eq_false (by omega)
      have h2' : decide ((s.length : Int) ≤ (p : Int)) = false := decide_eq_false (by omega)
      unfold ks at *
      go_enter Tryd.func4, Tryd.ntmps4
      go_wp2_with (first | (go_at_call 13; (fail_if_success have := HM2); (refine ret_use (Hh7.out w (Mods.refl _ _)) ?_; rintro v w2 ⟨rfl, hm2⟩; have HM2 := Lib.hid hm2; have hcv := run_convert_rd (P := Tryd.prog) ((w2.alloc (.cells #[.int .u8 (c.toNat : Int)] 5)).drew) 42 9 5 Tryd.underlying42 Tryd.underlying5 Tryd.underlying9 (F := fun g => g = w2.heap.size) (v := .slice (some ⟨w2.heap.size, 0, none⟩) 1 1) (l := [c]) (Rd.box (w2) #[.int .u8 (c.toNat : Int)] 5 rfl rfl (show 1 ≤ maxLen by decide)); clear hm2)) | (go_at_call 19; (fail_if_success have := D1); (refine ret_use (Hk1.out _ a1 Hha1.out) ?_; rintro v w3 ⟨rfl, rfl⟩; have D1 := True.intro)) | (go_at_call 19; (refine ret_use (Hk2.out _ a2 Hha2.out) ?_; rintro v w3 ⟨rfl, rfl⟩)) | (go_at_call 20; (fail_if_success have := D3); (refine ret_use (Hk3.out _ b1 Hhb1.out) ?_; rintro v w3 ⟨rfl, rfl⟩; have D3 := True.intro)) | (go_at_call 20; (refine ret_use (Hk4.out _ b2 Hhb2.out) ?_; rintro v w3 ⟨rfl, rfl⟩)) | ((with_reducible refine wp_region_por ?_ ?_ ?_ ?_); kernel_rfl; kernel_rfl; (with_reducible repeat (first | exact calm_ret | refine calm_then ?_ | refine calm_in ?_ | refine calm_chk ?_ | refine calm_noGoto ?_))) | ((with_reducible refine chk_end ?_ ?_); kernel_rfl))
      go_ret
      exact ⟨rfl, ((HM2.out.alloc _).drew)⟩
end Go.Proofs.YtilkepmmkhmghaaDoor
