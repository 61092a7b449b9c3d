/- (*Sink).send: a whole frame. -/
import Derived.Test.YtmfpgghpnkmkpaaDoorSinkD
import Derived.Deep.LoopGhost
namespace Go.Proofs.YtmfpgghpnkmkpaaDoor
open Go.RowKit Go.Tum
theorem opened_snoc (cs : List ConnS) : ∃ base acc, opened cs = base ++ [⟨acc, false⟩] ∧ lastBytes (opened cs) = acc ∧ (opened cs).dropLast = base ∧ (acc = [] ∨ ∃ c ∈ cs, acc = c.bytes) := by
  by_cases ho : lastOpen cs = true
  · have he : opened cs = cs := by simp [opened, ho]
    cases hr : cs.getLast? with
    | none => simp [lastOpen, hr] at ho
    | some c =>
      obtain ⟨ys, h⟩ := List.getLast?_eq_some_iff.1 hr
      have hf : c.failed = false := by rw [h, lastOpen_snoc] at ho; simpa using ho
      obtain ⟨by_, fl⟩ := c
      dsimp only at hf
      subst hf
      exact ⟨ys, by_, by rw [he, h], by rw [he, h]; simp [lastBytes], by rw [he, h]; simp, .inr ⟨⟨by_, false⟩, by rw [h]; simp, rfl⟩⟩
  · have he : opened cs = cs ++ [⟨[], false⟩] := by simp [opened, ho]
    exact ⟨cs, [], he, by rw [he]; simp [lastBytes], by rw [he]; simp, .inl rfl⟩
/-- In the midst of a frame: what is left is b1, on the connection kk; the answer will be R. -/
structure Mid (w : World) (p : Nat) (plan : Plan) (s : SinkS) (F H : Nat → Prop) (R : List UInt8 × Nat × List UInt8 × Bool) (base : List ConnS) (w1 : World) (kk : Nat) (ks : List Nat) (acc : List UInt8) (idle nw kf : Nat) (v1 : Value) (b1 : List UInt8) : Prop where
  sink : SinkK w1 p plan { s with conns := base ++ [⟨acc, false⟩], writes := nw } (ks ++ [kk]) (Ext F w.heap.size)
  mods : Mods F w w1
  rd : Rd w1 H 1 v1 b1.length (vbs b1)
  go : sendGo plan kf acc nw idle b1 = R
  fuel : 65 * b1.length + (64 - idle) < kf
  idle : idle < 64
  size : acc.length + b1.length ≤ 1000000000
  writes : nw + kf ≤ 1000000000000
def SendInv (w : World) (p : Nat) (plan : Plan) (s : SinkS) (F H : Nat → Prop) (R : List UInt8 × Nat × List UInt8 × Bool) (base : List ConnS) (bs : Value) (b : List UInt8) (k : Nat) (v1 v5 v6 : Value) (wr : World) : Prop :=
  (k = Go.Tum.fuel b + 1 ∧ v1 = bs ∧ v5 = .int .i64 0 ∧ v6 = .pointer none ∧ wr = w) ∨
  (0 < b.length ∧ ∃ kk ks acc idle nw b1, v5 = .int .i64 (idle : Nat) ∧ v6 = (.pointer (some ⟨kk, 0, none⟩)) ∧ Mid w p plan s F H R base wr kk ks acc idle nw k v1 b1)
/-- What send tells, and leaves. -/
def SendEnd (w w' : World) (p : Nat) (plan : Plan) (F : Nat → Prop) (r : SinkS × Bool) : Prop := ∃ ks, SinkK w' p plan r.1 ks (Ext F w.heap.size) ∧ Mods F w w'

theorem sendEnd_of {w w3 : World} {p : Nat} {plan : Plan} {s : SinkS} {F : Nat → Prop} {R : List UInt8 × Nat × List UInt8 × Bool} {base : List ConnS} {b acc b' : List UInt8} {nw : Nat} {fl : Bool} {ks : List Nat} {G : Nat → Prop}
    (hfin : b.length = 0 ∨ (0 < b.length ∧ send plan s b = ({ s with conns := base ++ [⟨R.1, R.2.2.2⟩], writes := R.2.1 }, decide (R.2.2.1.length = 0)))) (hpos : 0 < b.length) (hR : (acc, nw, b', fl) = R)
    (hK : SinkK w3 p plan { s with conns := base ++ [⟨acc, fl⟩], writes := nw } ks G) (hG : ∀ g, g < w3.heap.size → G g → Ext F w.heap.size g) (hM : Mods F w w3) : (send plan s b).2 = decide (b'.length = 0) ∧ SendEnd w w3 p plan F (send plan s b) := by
  rcases hfin with e | ⟨_, e⟩
  · omega
  · subst hR
    rw [e]
    exact ⟨rfl, ks, hK.more hG, hM⟩
theorem ext_ext {F : Nat → Prop} {n m : Nat} (h : n ≤ m) : ∀ g, Ext (Ext F n) m g → Ext F n g := fun g e => by
  rcases e with e | e
  · exact e
  · exact .inr (by omega)
theorem mods_ext {F : Nat → Prop} {a b c : World} (h : Mods F a b) {G : Nat → Prop} (k : Mods G b c) (hG : ∀ g, G g → Ext F a.heap.size g) : Mods F a c := h.trans k fun g hg e => by
  rcases hG g e with e | e
  · exact e
  · omega
set_option maxHeartbeats 1600000 in
set_option maxRecDepth 100000 in
theorem send_K (w : World) (p : Nat) (plan : Plan) (s : SinkS) (ks : List Nat) (F H : Nat → Prop) (bs : Value) (ea : Addr) (b : List UInt8) (h : SinkK w p plan s ks F)
    (hg : w.cell? ⟨0, 0, none⟩ = some (.iface 94 (.pointer (some ea)))) (h0 : ¬ F 0) (hb : Rd w H 1 bs b.length (vbs b)) (hH : ∀ g, H g → g < w.heap.size ∧ ¬ F g)
    (hplan : plan.length ≤ 1000000000) (b2 : b.length ≤ 2000000) (b3 : ∀ c ∈ s.conns, c.bytes.length ≤ 100000000) (b4 : s.writes ≤ 100000000000) (b5 : s.conns.length ≤ 1000000000) :
    Calls Tryd.prog 22 #[(.pointer (some ⟨p, 0, none⟩)), bs] w (Ret fun v w' => v = .bool (send plan s b).2 ∧ SendEnd w w' p plan F (send plan s b)) := by
  obtain ⟨A, c, rfl, hbc, hbm⟩ := hb.form
  clear hbm
  obtain ⟨base, acc0, ho1, ho2, ho3, ho4⟩ := opened_snoc s.conns
  obtain ⟨R, hR⟩ : ∃ R, R = sendGo plan (fuel b) acc0 s.writes 0 b := ⟨_, rfl⟩
  have hfin : b.length = 0 ∨ (0 < b.length ∧ send plan s b = ({ s with conns := base ++ [⟨R.1, R.2.2.2⟩], writes := R.2.1 }, decide (R.2.2.1.length = 0))) := by
    rcases Nat.eq_zero_or_pos b.length with e | e
    · exact .inl e
    · refine .inr ⟨e, ?_⟩
      unfold send
      rw [if_neg (by omega), ho2, ho3, ← hR]
  have lg := World.block_lt_of_cell? w _ hg
  have hg1 : ∀ w1, Mods F w w1 → w1.cell? ⟨0, 0, none⟩ = some (.iface 94 (.pointer (some ea))) := fun w1 hm =>
    (World.cell?_of_block (w := w) (w' := w1) (a := ⟨0, 0, none⟩) (hm.block _ lg h0)).trans hg
  have Hh := Lib.hid h
  clear h
  have Hhb := Lib.hid hb
  clear hb
  have HhH := Lib.hid hH
  clear hH
  have Hh0 := Lib.hid h0
  clear h0
  have Hb3 := Lib.hid b3
  clear b3
  have Hho1 := Lib.hid ho1
  clear ho1
  have Hho2 := Lib.hid ho2
  clear ho2
  have Hho3 := Lib.hid ho3
  clear ho3
  have Hho4 := Lib.hid ho4
  clear ho4
  have HhR := Lib.hid hR
  clear hR
  have Hhfin := Lib.hid hfin
  clear hfin
  have Hhg1 := Lib.hid hg1
  clear hg1
  have Hb5 := Lib.hid b5
  clear b5
  go_enter Tryd.func22, Tryd.ntmps22
  go_wp2
  go_step3
  go_wp2
  go_step3
  go_wp2
  go_loopg [1, 5, 6] (fuel b + 1) (fun k v1 v5 v6 wr => SendInv w p plan s F H R base (.slice A b.length c) b k v1 v5 v6 wr)
  case atStart => exact .inl ⟨rfl, rfl, rfl, rfl, rfl⟩
  case round =>
    rcases hrel with ⟨rfl, rfl, rfl, rfl, rfl⟩ | ⟨hpos, kk, ks1, acc, idle, nw, b1, rfl, rfl, hmid⟩
    · rcases Nat.eq_zero_or_pos b.length with hz | hz
      · have hz' : decide (0 < b.length) = false := by simpa using hz
        have hs0 : send plan s b = (s, true) := by unfold send; rw [if_pos hz]
        go_wp2_with (first | ((with_reducible refine wp_region_por ?_ ?_ ?_ ?_); kernel_rfl; kernel_rfl; (with_reducible repeat (first | exact calm_ret | refine calm_then ?_ | refine calm_in ?_ | refine calm_chk ?_ | refine calm_noGoto ?_))) | ((with_reducible refine chk_end ?_ ?_); kernel_rfl))
        all_goals
          go_ret
          refine ⟨?_, ks, ?_, Mods.refl _ _⟩
          · rw [hs0]
            simp [hz]
          · rw [hs0]
            exact Hh.out.more fun g _ e => .inl e
      · have hz' : decide (0 < b.length) = true := by simpa using hz
        have hcall := conn_K wr p plan s ks F Hh.out Hb5.out
        have Hhcall := Lib.hid hcall
        clear hcall
        go_wp2_with (first | (go_at_call 27; refine ret_use Hhcall.out ?_; rintro v wq ⟨ks1, kk, rfl, hK0, hM0⟩; have HK0 := Lib.hid hK0; have HM0 := Lib.hid hM0; clear hK0 hM0) | ((with_reducible refine wp_region_por ?_ ?_ ?_ ?_); kernel_rfl; kernel_rfl; (with_reducible repeat (first | exact calm_ret | refine calm_then ?_ | refine calm_in ?_ | refine calm_chk ?_ | refine calm_noGoto ?_))) | ((with_reducible refine chk_end ?_ ?_); kernel_rfl))
        obtain ⟨w, rfl⟩ : ∃ x, x = wr := ⟨_, rfl⟩
        obtain ⟨kf, hkf⟩ : ∃ kf, kf = fuel b := ⟨_, rfl⟩
        have hkf' : kf = 65 * b.length + 65 := hkf
        have hmid : Mid w p plan s F H R base wq kk ks1 acc0 0 s.writes kf (.slice A b.length c) b := by
          have hK := HK0.out
          rw [Hho1.out] at hK
          refine ⟨hK, HM0.out, Hhb.out.same fun g hgg => (HM0.out).block g (HhH.out g hgg).1 (HhH.out g hgg).2, by rw [hkf]; exact HhR.out.symm, by omega, by omega, ?_, by omega⟩
          rcases Hho4.out with e | ⟨cc, hcc, e⟩
          · rw [e]; simp; omega
          · have := Hb3.out cc hcc
            rw [e]; omega
        have hpos := hz
        -- one write: sendGo's own step
        obtain ⟨f, rfl⟩ : ∃ f, kf = f + 1 := ⟨kf - 1, by have := hmid.fuel; omega⟩
        have hgo := hmid.go
        have hfu := hmid.fuel
        have hid := hmid.idle
        have hsz := hmid.size
        have hwr := hmid.writes
        unfold sendGo at hgo
        rw [if_neg (by omega)] at hgo
        have hW := write_K wq p kk plan _ base ⟨acc0, false⟩ ks1 _ H (.slice A b.length c) _ b hmid.sink rfl (Hhg1.out _ hmid.mods) (fun e => by rcases e with e | e; exact Hh0.out e; omega) hmid.rd
          (fun g hg => ⟨Nat.lt_of_lt_of_le (HhH.out g hg).1 hmid.mods.size, fun e => by rcases e with e | e; exact (HhH.out g hg).2 e; (have := (HhH.out g hg).1; omega)⟩) hplan (by omega) (by dsimp only; omega) (by dsimp only; omega)
        dsimp only at hW
        have hN := pick_le plan s.writes b.length
        generalize pick plan s.writes b.length = pk at hW hgo hN
        obtain ⟨N, fa⟩ := pk
        dsimp only at hW hgo hN
        have hN' : (N : Int) ≤ c := by omega
        have hrd' := hmid.rd.cut (k := N) (l := b.length) hN (Nat.le_refl _)
        have hmods := hmid.mods
        clear hmid
        have hidi : (0 : Int) + 1 ≤ 64 := by omega
        have hrd2 : ∀ A', ((c = N ∧ A' = A) ∨ (¬ c = N ∧ A' = A.map (·.add N))) → Rd wq H 1 (.slice A' (b.length - N) (c - N)) (b.drop N).length (vbs (b.drop N)) := by
          intro A' hA'
          have e1 : (if c = N then A else Option.map (fun x => x.add (N * 1)) A) = A' := by
            rcases hA' with ⟨e, rfl⟩ | ⟨e, rfl⟩
            · rw [if_pos e]
            · rw [if_neg e, Nat.mul_one]
          rw [e1] at hrd'
          have e2 : List.drop (N * 1) (List.take (b.length * 1) (vbs b)) = vbs (b.drop N) := by rw [Nat.mul_one, Nat.mul_one, ← vbs_length b, List.take_length]; simp [vbs, List.map_drop]
          rw [e2] at hrd'
          simpa using hrd'
        clear hrd'
        have hsame : ∀ w2, Mods (Ext F w.heap.size) wq w2 → Same H wq w2 := fun w2 hm => hm.same fun g hg => ⟨Nat.lt_of_lt_of_le (HhH.out g hg).1 hmods.size, fun e => by rcases e with e | e; exact (HhH.out g hg).2 e; (have := (HhH.out g hg).1; omega)⟩
        have Hhrd2 := Lib.hid hrd2
        clear hrd2
        have Hhmods := Lib.hid hmods
        clear hmods
        have Hhgo := Lib.hid hgo
        clear hgo
        have HhN := Lib.hid hN
        clear hN
        have Hhsz := Lib.hid hsz
        clear hsz
        have Hhwr := Lib.hid hwr
        clear hwr
        have Hhfu := Lib.hid hfu
        clear hfu
        have Hhsame := Lib.hid hsame
        clear hsame
        have Hhid := Lib.hid hid
        clear hid
        cases fa with
        | true =>
          simp only [if_true] at hW
          have HhW := Lib.hid hW
          clear hW
          go_wp2_with (first | (go_at_call 28; refine ret_use HhW.out ?_; rintro v w2 ⟨rfl, hK2, hM2⟩; have hg2 := Hhg1.out _ (Hhmods.out.trans hM2 (fun g hg e => by rcases e with e | e; exact e; omega)); have HK2 := Lib.hid hK2; have HM2 := Lib.hid hM2; clear hK2 hM2) | (go_at_call 29; refine ret_use (is_same ea _) ?_; rintro v w3 ⟨rfl, rfl⟩; obtain ⟨q1, q2, hK3, hM3⟩ := fail_K _ p kk plan _ base _ ks1 _ HK2.out rfl; have HK3 := Lib.hid hK3; have HM3 := Lib.hid hM3; clear hK3 hM3) | ((with_reducible refine wp_region_por ?_ ?_ ?_ ?_); kernel_rfl; kernel_rfl; (with_reducible repeat (first | exact calm_ret | refine calm_then ?_ | refine calm_in ?_ | refine calm_chk ?_ | refine calm_noGoto ?_))) | ((with_reducible refine chk_end ?_ ?_); kernel_rfl))
          all_goals
            have hgo := Hhgo.out
            have hm3 := mods_ext (mods_ext Hhmods.out HM2.out fun g e => e) HM3.out (ext_ext Hhmods.out.size)
            rw [if_pos (by first | rfl | trivial)] at hgo
            obtain ⟨e1, e2⟩ := sendEnd_of Hhfin.out hpos hgo HK3.out (fun g _ e => ext_ext Hhmods.out.size g e) hm3
            go_ret
            refine ⟨?_, e2⟩
            rw [e1]
            simp [natInt_beq0]
        | false =>
          simp only [Bool.false_eq_true, if_false] at hW
          have HhW := Lib.hid hW
          clear hW
          rcases Nat.eq_zero_or_pos N with hN0 | hN0
          · subst hN0
            have hl : ¬ (0 : Nat) + 1 = 64 := by omega
            have hl' : ((0 : Int) + 1 == 64) = false := by first | decide | (simp; omega)
            go_wp2_with (first | (go_at_call 28; refine ret_use HhW.out ?_; rintro v w2 ⟨rfl, hK2, hM2⟩; have hg2 := Hhg1.out _ (Hhmods.out.trans hM2 (fun g hg e => by rcases e with e | e; exact e; omega)); have HK2 := Lib.hid hK2; have HM2 := Lib.hid hM2; clear hK2 hM2) | (go_at_call 29; refine ret_use (is_nil ea _) ?_; rintro v w3 ⟨rfl, rfl⟩) | ((with_reducible refine wp_region_por ?_ ?_ ?_ ?_); kernel_rfl; kernel_rfl; (with_reducible repeat (first | exact calm_ret | refine calm_then ?_ | refine calm_in ?_ | refine calm_chk ?_ | refine calm_noGoto ?_))) | ((with_reducible refine chk_end ?_ ?_); kernel_rfl))
            all_goals
              have hgo := Hhgo.out
              rw [if_neg (by simp), if_neg (by omega), if_neg hl] at hgo
              have h1 := Hhfu.out
              have h2 := Hhid.out
              have h3 := Hhsz.out
              have h4 := Hhwr.out
              go_roundg f
              case rel =>
                refine .inr ⟨hpos, kk, ks1, _, 0 + 1, s.writes + 1, _, by first | rfl | go_num, rfl, HK2.out.more (fun g _ e => ext_ext Hhmods.out.size g e), mods_ext Hhmods.out HM2.out (fun g e => e), (Hhrd2.out _ ?_).same (Hhsame.out _ HM2.out), hgo, ?_, ?_, ?_, ?_⟩
                · by_cases hc : c = 0
                  · exact .inl ⟨by simpa using hc, rfl⟩
                  · exact .inr ⟨by simpa using hc, by cases A <;> simp [Addr.add]⟩
                · simp; omega
                · omega
                · simp; omega
                · omega
              case measure => omega
          · go_wp2_with (first | (go_at_call 28; refine ret_use HhW.out ?_; rintro v w2 ⟨rfl, hK2, hM2⟩; have hg2 := Hhg1.out _ (Hhmods.out.trans hM2 (fun g hg e => by rcases e with e | e; exact e; omega)); have HK2 := Lib.hid hK2; have HM2 := Lib.hid hM2; clear hK2 hM2) | (go_at_call 29; refine ret_use (is_nil ea _) ?_; rintro v w3 ⟨rfl, rfl⟩) | ((with_reducible refine wp_region_por ?_ ?_ ?_ ?_); kernel_rfl; kernel_rfl; (with_reducible repeat (first | exact calm_ret | refine calm_then ?_ | refine calm_in ?_ | refine calm_chk ?_ | refine calm_noGoto ?_))) | ((with_reducible refine chk_end ?_ ?_); kernel_rfl))
            all_goals
              have hgo := Hhgo.out
              rw [if_neg (by simp), if_pos hN0] at hgo
              have h1 := Hhfu.out
              have h3 := Hhsz.out
              have h4 := Hhwr.out
              have h5 := HhN.out
              have hl1 : (List.take N b).length = N := by simp; omega
              go_roundg f
              case rel =>
                refine .inr ⟨hpos, kk, ks1, _, 0, s.writes + 1, b.drop N, rfl, rfl, HK2.out.more (fun g _ e => ext_ext Hhmods.out.size g e), mods_ext Hhmods.out HM2.out (fun g e => e), ?_, hgo, ?_, ?_, ?_, ?_⟩
                · have hc : c = N ∨ ¬ c = N := by omega
                  rcases hc with hc | hc
                  · subst hc
                    first
                    | exact absurd rfl (by assumption)
                    | simpa using (Hhrd2.out _ (.inl ⟨rfl, rfl⟩)).same (Hhsame.out _ HM2.out)
                  · first
                    | exact absurd (by assumption) hc
                    | simpa using (Hhrd2.out _ (.inr ⟨hc, rfl⟩)).same (Hhsame.out _ HM2.out)
                · simp; omega
                · omega
                · simp at h5 ⊢; omega
                · omega
              case measure => omega
    · obtain ⟨A1, c1, rfl, hbc1, hbm1⟩ := hmid.rd.form
      clear hbm1
      rcases Nat.eq_zero_or_pos b1.length with hz | hz
      · have hz' : decide (0 < b1.length) = false := by simpa using hz
        obtain ⟨kf, rfl⟩ : ∃ kf, kf = gk := ⟨_, rfl⟩
        obtain ⟨wq, rfl⟩ : ∃ wq, wq = wr := ⟨_, rfl⟩
        have hgo := hmid.go
        have hfu := hmid.fuel
        obtain ⟨f, rfl⟩ : ∃ f, kf = f + 1 := ⟨kf - 1, by omega⟩
        unfold sendGo at hgo
        rw [if_pos hz] at hgo
        have e := sendEnd_of Hhfin.out hpos hgo hmid.sink (fun g _ e => e) hmid.mods
        have Hhmid := Lib.hid hmid
        clear hmid
        have Hhgo := Lib.hid hgo
        clear hgo
        have Hhfu := Lib.hid hfu
        clear hfu
        have He := Lib.hid e
        clear e
        go_wp2_with (first | ((with_reducible refine wp_region_por ?_ ?_ ?_ ?_); kernel_rfl; kernel_rfl; (with_reducible repeat (first | exact calm_ret | refine calm_then ?_ | refine calm_in ?_ | refine calm_chk ?_ | refine calm_noGoto ?_))) | ((with_reducible refine chk_end ?_ ?_); kernel_rfl))
        all_goals
          obtain ⟨e1, e2⟩ := He.out
          go_ret
          refine ⟨?_, e2⟩
          rw [e1]
          simp [hz]
      · have hz' : decide (0 < b1.length) = true := by simpa using hz
        obtain ⟨kf, rfl⟩ : ∃ kf, kf = gk := ⟨_, rfl⟩
        obtain ⟨wq, rfl⟩ : ∃ wq, wq = wr := ⟨_, rfl⟩
        -- one write: sendGo's own step
        obtain ⟨f, rfl⟩ : ∃ f, kf = f + 1 := ⟨kf - 1, by have := hmid.fuel; omega⟩
        have hgo := hmid.go
        have hfu := hmid.fuel
        have hid := hmid.idle
        have hsz := hmid.size
        have hwr := hmid.writes
        unfold sendGo at hgo
        rw [if_neg (by omega)] at hgo
        have hW := write_K wq p kk plan _ base ⟨acc, false⟩ ks1 _ H (.slice A1 b1.length c1) _ b1 hmid.sink rfl (Hhg1.out _ hmid.mods) (fun e => by rcases e with e | e; exact Hh0.out e; omega) hmid.rd
          (fun g hg => ⟨Nat.lt_of_lt_of_le (HhH.out g hg).1 hmid.mods.size, fun e => by rcases e with e | e; exact (HhH.out g hg).2 e; (have := (HhH.out g hg).1; omega)⟩) hplan (by omega) (by dsimp only; omega) (by dsimp only; omega)
        dsimp only at hW
        have hN := pick_le plan nw b1.length
        generalize pick plan nw b1.length = pk at hW hgo hN
        obtain ⟨N, fa⟩ := pk
        dsimp only at hW hgo hN
        have hN' : (N : Int) ≤ c1 := by omega
        have hrd' := hmid.rd.cut (k := N) (l := b1.length) hN (Nat.le_refl _)
        have hmods := hmid.mods
        clear hmid
        have hidi : (idle : Int) + 1 ≤ 64 := by omega
        have hrd2 : ∀ A', ((c1 = N ∧ A' = A1) ∨ (¬ c1 = N ∧ A' = A1.map (·.add N))) → Rd wq H 1 (.slice A' (b1.length - N) (c1 - N)) (b1.drop N).length (vbs (b1.drop N)) := by
          intro A' hA'
          have e1 : (if c1 = N then A1 else Option.map (fun x => x.add (N * 1)) A1) = A' := by
            rcases hA' with ⟨e, rfl⟩ | ⟨e, rfl⟩
            · rw [if_pos e]
            · rw [if_neg e, Nat.mul_one]
          rw [e1] at hrd'
          have e2 : List.drop (N * 1) (List.take (b1.length * 1) (vbs b1)) = vbs (b1.drop N) := by rw [Nat.mul_one, Nat.mul_one, ← vbs_length b1, List.take_length]; simp [vbs, List.map_drop]
          rw [e2] at hrd'
          simpa using hrd'
        clear hrd'
        have hsame : ∀ w2, Mods (Ext F w.heap.size) wq w2 → Same H wq w2 := fun w2 hm => hm.same fun g hg => ⟨Nat.lt_of_lt_of_le (HhH.out g hg).1 hmods.size, fun e => by rcases e with e | e; exact (HhH.out g hg).2 e; (have := (HhH.out g hg).1; omega)⟩
        have Hhrd2 := Lib.hid hrd2
        clear hrd2
        have Hhmods := Lib.hid hmods
        clear hmods
        have Hhgo := Lib.hid hgo
        clear hgo
        have HhN := Lib.hid hN
        clear hN
        have Hhsz := Lib.hid hsz
        clear hsz
        have Hhwr := Lib.hid hwr
        clear hwr
        have Hhfu := Lib.hid hfu
        clear hfu
        have Hhsame := Lib.hid hsame
        clear hsame
        have Hhid := Lib.hid hid
        clear hid
        cases fa with
        | true =>
          simp only [if_true] at hW
          have HhW := Lib.hid hW
          clear hW
          go_wp2_with (first | (go_at_call 28; refine ret_use HhW.out ?_; rintro v w2 ⟨rfl, hK2, hM2⟩; have hg2 := Hhg1.out _ (Hhmods.out.trans hM2 (fun g hg e => by rcases e with e | e; exact e; omega)); have HK2 := Lib.hid hK2; have HM2 := Lib.hid hM2; clear hK2 hM2) | (go_at_call 29; refine ret_use (is_same ea _) ?_; rintro v w3 ⟨rfl, rfl⟩; obtain ⟨q1, q2, hK3, hM3⟩ := fail_K _ p kk plan _ base _ ks1 _ HK2.out rfl; have HK3 := Lib.hid hK3; have HM3 := Lib.hid hM3; clear hK3 hM3) | ((with_reducible refine wp_region_por ?_ ?_ ?_ ?_); kernel_rfl; kernel_rfl; (with_reducible repeat (first | exact calm_ret | refine calm_then ?_ | refine calm_in ?_ | refine calm_chk ?_ | refine calm_noGoto ?_))) | ((with_reducible refine chk_end ?_ ?_); kernel_rfl))
          all_goals
            have hgo := Hhgo.out
            have hm3 := mods_ext (mods_ext Hhmods.out HM2.out fun g e => e) HM3.out (ext_ext Hhmods.out.size)
            rw [if_pos (by first | rfl | trivial)] at hgo
            obtain ⟨e1, e2⟩ := sendEnd_of Hhfin.out hpos hgo HK3.out (fun g _ e => ext_ext Hhmods.out.size g e) hm3
            go_ret
            refine ⟨?_, e2⟩
            rw [e1]
            simp [natInt_beq0]
        | false =>
          simp only [Bool.false_eq_true, if_false] at hW
          have HhW := Lib.hid hW
          clear hW
          rcases Nat.eq_zero_or_pos N with hN0 | hN0
          · subst hN0
            by_cases hl : idle + 1 = 64
            · have hl' : ((idle : Int) + 1 == 64) = true := by simp; omega
              go_wp2_with (first | (go_at_call 28; refine ret_use HhW.out ?_; rintro v w2 ⟨rfl, hK2, hM2⟩; have hg2 := Hhg1.out _ (Hhmods.out.trans hM2 (fun g hg e => by rcases e with e | e; exact e; omega)); have HK2 := Lib.hid hK2; have HM2 := Lib.hid hM2; clear hK2 hM2) | (go_at_call 29; refine ret_use (is_nil ea _) ?_; rintro v w3 ⟨rfl, rfl⟩; obtain ⟨q1, q2, hK3, hM3⟩ := fail_K _ p kk plan _ base _ ks1 _ HK2.out rfl; have HK3 := Lib.hid hK3; have HM3 := Lib.hid hM3; clear hK3 hM3) | ((with_reducible refine wp_region_por ?_ ?_ ?_ ?_); kernel_rfl; kernel_rfl; (with_reducible repeat (first | exact calm_ret | refine calm_then ?_ | refine calm_in ?_ | refine calm_chk ?_ | refine calm_noGoto ?_))) | ((with_reducible refine chk_end ?_ ?_); kernel_rfl))
              all_goals
                have hgo := Hhgo.out
                have hm3 := mods_ext (mods_ext Hhmods.out HM2.out fun g e => e) HM3.out (ext_ext Hhmods.out.size)
                rw [if_neg (by simp), if_neg (by omega), if_pos hl] at hgo
                obtain ⟨e1, e2⟩ := sendEnd_of Hhfin.out hpos hgo HK3.out (fun g _ e => ext_ext Hhmods.out.size g e) hm3
                go_ret
                refine ⟨?_, e2⟩
                rw [e1]
                simp [natInt_beq0]
            · skip
              have hl' : ((idle : Int) + 1 == 64) = false := by first | decide | (simp; omega)
              go_wp2_with (first | (go_at_call 28; refine ret_use HhW.out ?_; rintro v w2 ⟨rfl, hK2, hM2⟩; have hg2 := Hhg1.out _ (Hhmods.out.trans hM2 (fun g hg e => by rcases e with e | e; exact e; omega)); have HK2 := Lib.hid hK2; have HM2 := Lib.hid hM2; clear hK2 hM2) | (go_at_call 29; refine ret_use (is_nil ea _) ?_; rintro v w3 ⟨rfl, rfl⟩) | ((with_reducible refine wp_region_por ?_ ?_ ?_ ?_); kernel_rfl; kernel_rfl; (with_reducible repeat (first | exact calm_ret | refine calm_then ?_ | refine calm_in ?_ | refine calm_chk ?_ | refine calm_noGoto ?_))) | ((with_reducible refine chk_end ?_ ?_); kernel_rfl))
              all_goals
                have hgo := Hhgo.out
                rw [if_neg (by simp), if_neg (by omega), if_neg hl] at hgo
                have h1 := Hhfu.out
                have h2 := Hhid.out
                have h3 := Hhsz.out
                have h4 := Hhwr.out
                go_roundg f
                case rel =>
                  refine .inr ⟨hpos, kk, ks1, _, idle + 1, nw + 1, _, by first | rfl | go_num, rfl, HK2.out.more (fun g _ e => ext_ext Hhmods.out.size g e), mods_ext Hhmods.out HM2.out (fun g e => e), (Hhrd2.out _ ?_).same (Hhsame.out _ HM2.out), hgo, ?_, ?_, ?_, ?_⟩
                  · by_cases hc : c1 = 0
                    · exact .inl ⟨by simpa using hc, rfl⟩
                    · exact .inr ⟨by simpa using hc, by cases A1 <;> simp [Addr.add]⟩
                  · simp; omega
                  · omega
                  · simp; omega
                  · omega
                case measure => omega
          · go_wp2_with (first | (go_at_call 28; refine ret_use HhW.out ?_; rintro v w2 ⟨rfl, hK2, hM2⟩; have hg2 := Hhg1.out _ (Hhmods.out.trans hM2 (fun g hg e => by rcases e with e | e; exact e; omega)); have HK2 := Lib.hid hK2; have HM2 := Lib.hid hM2; clear hK2 hM2) | (go_at_call 29; refine ret_use (is_nil ea _) ?_; rintro v w3 ⟨rfl, rfl⟩) | ((with_reducible refine wp_region_por ?_ ?_ ?_ ?_); kernel_rfl; kernel_rfl; (with_reducible repeat (first | exact calm_ret | refine calm_then ?_ | refine calm_in ?_ | refine calm_chk ?_ | refine calm_noGoto ?_))) | ((with_reducible refine chk_end ?_ ?_); kernel_rfl))
            all_goals
              have hgo := Hhgo.out
              rw [if_neg (by simp), if_pos hN0] at hgo
              have h1 := Hhfu.out
              have h3 := Hhsz.out
              have h4 := Hhwr.out
              have h5 := HhN.out
              have hl1 : (List.take N b1).length = N := by simp; omega
              go_roundg f
              case rel =>
                refine .inr ⟨hpos, kk, ks1, _, 0, nw + 1, b1.drop N, rfl, rfl, HK2.out.more (fun g _ e => ext_ext Hhmods.out.size g e), mods_ext Hhmods.out HM2.out (fun g e => e), ?_, hgo, ?_, ?_, ?_, ?_⟩
                · have hc : c1 = N ∨ ¬ c1 = N := by omega
                  rcases hc with hc | hc
                  · subst hc
                    first
                    | exact absurd rfl (by assumption)
                    | simpa using (Hhrd2.out _ (.inl ⟨rfl, rfl⟩)).same (Hhsame.out _ HM2.out)
                  · first
                    | exact absurd (by assumption) hc
                    | simpa using (Hhrd2.out _ (.inr ⟨hc, rfl⟩)).same (Hhsame.out _ HM2.out)
                · simp; omega
                · omega
                · simp at h5 ⊢; omega
                · omega
              case measure => omega
end Go.Proofs.YtmfpgghpnkmkpaaDoor
