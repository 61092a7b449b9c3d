/- Hashes from byte to byte, in plain Lean. No program here. -/
import Derived.Laws.Bits64
import Derived.Deep.LoopGhost
namespace Go.Tum
def stepN (M p h : Nat) (b : UInt8) : Nat := (h ^^^ b.toNat) * p % M
def fnv64 (s : List UInt8) : Nat := s.foldl (stepN 18446744073709551616 1099511628211) 14695981039346656037
def fnv32 (s : List UInt8) : Nat := s.foldl (stepN 4294967296 16777619) 2166136261
theorem stepN_lt {M p h : Nat} {b : UInt8} (hM : 0 < M) : stepN M p h b < M := Nat.mod_lt _ hM
theorem fold_lt {M p : Nat} (hM : 0 < M) : ∀ (s : List UInt8) (h : Nat), h < M → s.foldl (stepN M p) h < M
  | [], _, h => h
  | _ :: s, _, _ => fold_lt hM s _ (stepN_lt hM)
theorem fnv64_lt (s : List UInt8) : fnv64 s < 18446744073709551616 := fold_lt (by decide) s _ (by decide)
theorem fnv32_lt (s : List UInt8) : fnv32 s < 4294967296 := fold_lt (by decide) s _ (by decide)
theorem fold_next {f : Nat → UInt8 → Nat} {a : Nat} {s : List UInt8} {i : Nat} (h : i < s.length) : (s.take (i + 1)).foldl f a = f ((s.take i).foldl f a) s[i] := by
  rw [List.take_succ_eq_append_getElem h, List.foldl_append]; rfl
theorem byte_lt (b : UInt8) : b.toNat < 256 := b.toNat_lt
theorem step64_nat {n : Nat} (h : n < 18446744073709551616) (b : UInt8) (p : Nat) : IntKind.u64.wrap (bits BinOp.xor IntKind.u64 (n : Int) (IntKind.u64.wrap (b.toNat : Int)) * (p : Int)) = ((stepN 18446744073709551616 p n b : Nat) : Int) := by
  have hb := byte_lt b
  rw [IntKind.wrap_u64 (b.toNat : Int), Int.emod_eq_of_lt (by omega) (by omega), bits_xor_u64_nat _ _ h (by omega), IntKind.wrap_u64]
  unfold stepN
  rw [Int.natCast_emod, Int.natCast_mul]
  rfl
theorem wrap_u32 (n : Int) : IntKind.u32.wrap n = n % 4294967296 := by simp [IntKind.wrap, IntKind.bits, IntKind.signed]
theorem bits_xor_u32_nat (a b : Nat) (ha : a < 4294967296) (hb : b < 4294967296) : bits .xor .u32 (a : Int) (b : Int) = ((a ^^^ b : Nat) : Int) := by
  have hx : a ^^^ b < 2 ^ 32 := Nat.xor_lt_two_pow (by omega) (by omega)
  have h1 : (BitVec.ofInt 32 (a : Int)).toNat = a := by
    rw [BitVec.ofInt_natCast, BitVec.toNat_ofNat]; exact Nat.mod_eq_of_lt (by omega)
  have h2 : (BitVec.ofInt 32 (b : Int)).toNat = b := by
    rw [BitVec.ofInt_natCast, BitVec.toNat_ofNat]; exact Nat.mod_eq_of_lt (by omega)
  show IntKind.u32.wrap ((BitVec.ofInt 32 (a : Int) ^^^ BitVec.ofInt 32 (b : Int)).toNat : Int) = _
  rw [BitVec.toNat_xor, h1, h2, wrap_u32]
  omega
theorem step32_nat {n : Nat} (h : n < 4294967296) (b : UInt8) (p : Nat) : IntKind.u32.wrap (bits BinOp.xor IntKind.u32 (n : Int) (IntKind.u32.wrap (b.toNat : Int)) * (p : Int)) = ((stepN 4294967296 p n b : Nat) : Int) := by
  have hb := byte_lt b
  rw [wrap_u32 (b.toNat : Int), Int.emod_eq_of_lt (by omega) (by omega), bits_xor_u32_nat _ _ h (by omega), wrap_u32]
  unfold stepN
  rw [Int.natCast_emod, Int.natCast_mul]
  rfl
/-- 32 bits reckoned in 64. -/
theorem stepR_nat {n : Nat} (h : n < 4294967296) (b : UInt8) : (IntKind.u64.wrap (bits BinOp.xor IntKind.u64 (n : Int) (IntKind.u64.wrap (b.toNat : Int)) * 16777619)).tmod 4294967296 = ((stepN 4294967296 16777619 n b : Nat) : Int) := by
  have h1 := step64_nat (n := n) (by omega) b 16777619
  rw [show ((16777619 : Nat) : Int) = 16777619 from rfl] at h1
  rw [h1]
  unfold stepN
  rw [Int.tmod_eq_emod_of_nonneg (by omega)]
  omega
theorem xor_lt {k a b : Nat} (ha : a < 2 ^ k) (hb : b < 2 ^ k) : a ^^^ b < 2 ^ k := Nat.xor_lt_two_pow ha hb
theorem mul_inj {M p q x y : Nat} (hpq : p * q % M = 1) (hx : x < M) (hy : y < M) (h : x * p % M = y * p % M) : x = y := by
  have h1 : x * p * q % M = y * p * q % M := by rw [Nat.mul_mod (x * p), h, ← Nat.mul_mod]
  rw [Nat.mul_assoc, Nat.mul_assoc, Nat.mul_mod, hpq, Nat.mul_mod y, hpq, Nat.mul_one, Nat.mul_one, Nat.mod_mod, Nat.mod_mod, Nat.mod_eq_of_lt hx, Nat.mod_eq_of_lt hy] at h1
  exact h1
theorem xor_right_inj' {a b c : Nat} (h : a ^^^ c = b ^^^ c) : a = b := by
  have := congrArg (· ^^^ c) h
  simpa [Nat.xor_assoc] using this
theorem xor_left_inj' {a b c : Nat} (h : c ^^^ a = c ^^^ b) : a = b := by
  have := congrArg (c ^^^ ·) h
  simpa [← Nat.xor_assoc] using this
structure Odd2 (M p : Nat) : Prop where
  k : ∃ k, M = 2 ^ k ∧ 8 ≤ k
  q : ∃ q, p * q % M = 1
section
variable {M p : Nat} (o : Odd2 M p)
include o
theorem Odd2.one : 1 < M := by
  obtain ⟨k, rfl, h⟩ := o.k
  exact Nat.one_lt_two_pow (by omega)
theorem Odd2.xlt {h : Nat} (hh : h < M) (b : UInt8) : h ^^^ b.toNat < M := by
  obtain ⟨k, rfl, h8⟩ := o.k
  exact Nat.xor_lt_two_pow hh (Nat.lt_of_lt_of_le (byte_lt b) (by have := Nat.pow_le_pow_right (n := 2) (by decide) h8; simpa using this))
theorem Odd2.step_h {a b : Nat} (ha : a < M) (hb : b < M) (c : UInt8) (h : stepN M p a c = stepN M p b c) : a = b := by
  obtain ⟨q, hq⟩ := o.q
  exact xor_right_inj' (mul_inj hq (o.xlt ha c) (o.xlt hb c) h)
theorem Odd2.step_b {a : Nat} (ha : a < M) {c d : UInt8} (h : stepN M p a c = stepN M p a d) : c = d := by
  obtain ⟨q, hq⟩ := o.q
  have := xor_left_inj' (mul_inj hq (o.xlt ha c) (o.xlt ha d) h)
  exact UInt8.toNat_inj.1 this
theorem Odd2.fold_h : ∀ (s : List UInt8) {a b : Nat}, a < M → b < M → s.foldl (stepN M p) a = s.foldl (stepN M p) b → a = b
  | [], _, _, _, _, h => h
  | c :: s, a, b, ha, hb, h => o.step_h ha hb c (Odd2.fold_h s (stepN_lt (by have := o.one; omega)) (stepN_lt (by have := o.one; omega)) h)
/-- Texts that differ in one byte have unlike hashes. -/
theorem Odd2.one_byte {a0 : Nat} (h0 : a0 < M) (u v : List UInt8) (c d : UInt8) : ((u ++ c :: v).foldl (stepN M p) a0 = (u ++ d :: v).foldl (stepN M p) a0) ↔ c = d := by
  have hM : 0 < M := by have := o.one; omega
  refine ⟨fun h => ?_, fun h => by rw [h]⟩
  rw [List.foldl_append, List.foldl_append, List.foldl_cons, List.foldl_cons] at h
  exact o.step_b (fold_lt hM u _ h0) (o.fold_h v (stepN_lt hM) (stepN_lt hM) h)
end
theorem odd64 : Odd2 18446744073709551616 1099511628211 := ⟨⟨64, by decide, by decide⟩, ⟨14886173955864302971, by decide⟩⟩
theorem odd32 : Odd2 4294967296 16777619 := ⟨⟨32, by decide, by decide⟩, ⟨899433627, by decide⟩⟩
theorem fnv64_byte (u v : List UInt8) (c d : UInt8) : (fnv64 (u ++ c :: v) = fnv64 (u ++ d :: v)) ↔ c = d := odd64.one_byte (by decide) u v c d
theorem fnv32_byte (u v : List UInt8) (c d : UInt8) : (fnv32 (u ++ c :: v) = fnv32 (u ++ d :: v)) ↔ c = d := odd32.one_byte (by decide) u v c d
end Go.Tum
