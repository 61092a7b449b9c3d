/- Package tumblerref24: Same, SameCounts; records and counts compared. -/
import Derived.Test.YtcifajfmdpjfiaaDoorRlA
import Derived.Laws.StructEq
namespace Go.Proofs.YtcifajfmdpjfiaaDoor
open Go.RowKit Go.Tum Go.Lib Go.Sort
set_option maxRecDepth 100000
theorem rpart0 (a b c d : Value) (w : World) : (part 9 #[a, b, c, d] 0).run Tryd.prog w = .ok a w := by kernel_rfl
theorem rpart1 (a b c d : Value) (w : World) : (part 43 #[a, b, c, d] 1).run Tryd.prog w = .ok (.agg #[b, c]) w := by kernel_rfl
theorem rpart3 (a b c d : Value) (w : World) : (part 2 #[a, b, c, d] 3).run Tryd.prog w = .ok d w := by kernel_rfl
theorem wpart0 (a b : Value) (w : World) : (part 2 #[a, b] 0).run Tryd.prog w = .ok a w := by kernel_rfl
theorem wpart1 (a b : Value) (w : World) : (part 41 #[a, b] 1).run Tryd.prog w = .ok b w := by kernel_rfl
theorem cpart0 (a b c d e : Value) (w : World) : (part 9 #[a, b, c, d, e] 0).run Tryd.prog w = .ok a w := by kernel_rfl
theorem cpart1 (a b c d e : Value) (w : World) : (part 4 #[a, b, c, d, e] 1).run Tryd.prog w = .ok b w := by kernel_rfl
theorem cpart2 (a b c d e : Value) (w : World) : (part 3 #[a, b, c, d, e] 2).run Tryd.prog w = .ok c w := by kernel_rfl
theorem cpart3 (a b c d e : Value) (w : World) : (part 3 #[a, b, c, d, e] 3).run Tryd.prog w = .ok d w := by kernel_rfl
theorem cpart4 (a b c d e : Value) (w : World) : (part 3 #[a, b, c, d, e] 4).run Tryd.prog w = .ok e w := by kernel_rfl
theorem bytes_beq (a b : Tx) : ((ByteArray.mk a.toArray).toList == (ByteArray.mk b.toArray).toList) = decide (a = b) := string_ne a b
theorem int_beq (a b : Int) : (a == b) = decide (a = b) := rfl
theorem wide_equal (d : Nat) (a b a' b' : Int) (w : World) : (Op.equalIn (d + 2) 43 (.agg #[.int .i64 a, .int .u64 b]) (.agg #[.int .i64 a', .int .u64 b'])).run Tryd.prog w = .ok (decide (a = a' ∧ b = b')) w := by
  rw [show d + 2 = (d + 1) + 1 from rfl, run_equalIn_agg w (d + 1) 43 _ _ (by kernel_rfl) (by kernel_rfl), show (Tryd.prog.fieldsOf 43).toList = [{ name := "Hi", type := 2, offset := 0, embedded := false, tag := "", pkgPath := "", byteOffset := 0 }, { name := "Lo", type := 41, offset := 1, embedded := false, tag := "", pkgPath := "", byteOffset := 8 }] by kernel_rfl]
  have e1 := run_equalIn_int (P := Tryd.prog) w d 2 .i64 .i64 a a' Tryd.underlying2
  have e2 := run_equalIn_int (P := Tryd.prog) w d 41 .u64 .u64 b b' Tryd.underlying41
  simp only [Op.eqFields, Sem.run_bind, wpart0, wpart1, Result.andThen_ok, e1, e2, Sem.run_ite]
  by_cases h1 : a = a'
  · by_cases h2 : b = b'
    · simp [h1, h2]
    · simp [h1, h2]
  · simp [h1]
theorem rec_equal (x y : Rcd) (w : World) : (Op.equalIn 10000 45 (rv x) (rv y)).run Tryd.prog w = .ok (decide (x = y)) w := by
  obtain ⟨p, a, b, c⟩ := x
  obtain ⟨p', a', b', c'⟩ := y
  unfold rv
  dsimp only
  rw [show (10000 : Nat) = 9999 + 1 from rfl, run_equalIn_agg w 9999 45 _ _ (by kernel_rfl) (by kernel_rfl), show (Tryd.prog.fieldsOf 45).toList = [{ name := "Path", type := 9, offset := 0, embedded := false, tag := "", pkgPath := "", byteOffset := 0 }, { name := "Value", type := 43, offset := 1, embedded := false, tag := "", pkgPath := "", byteOffset := 16 }, { name := "Time", type := 2, offset := 3, embedded := false, tag := "", pkgPath := "", byteOffset := 32 }] by kernel_rfl]
  have e1 : (Op.equalIn 9999 9 (ks p) (ks p')).run Tryd.prog w = .ok (decide (p = p')) w := by
    have h := run_equalIn_string (P := Tryd.prog) w 9998 9 ⟨p.toArray⟩ ⟨p'.toArray⟩ Tryd.underlying9
    rw [bytes_beq] at h
    exact h
  have e2 : (Op.equalIn 9999 43 (.agg #[.int .i64 a, .int .u64 b]) (.agg #[.int .i64 a', .int .u64 b'])).run Tryd.prog w = .ok (decide (a = a' ∧ b = b')) w := wide_equal 9997 a b a' b' w
  have e3 : (Op.equalIn 9999 2 (.int .i64 c) (.int .i64 c')).run Tryd.prog w = .ok (c == c') w := run_equalIn_int (P := Tryd.prog) w 9998 2 .i64 .i64 c c' Tryd.underlying2
  simp only [Op.eqFields, Sem.run_bind, rpart0, rpart1, rpart3, Result.andThen_ok, e1, e2, e3, Sem.run_ite]
  by_cases h1 : p = p'
  · by_cases h2 : a = a'
    · by_cases h3 : b = b'
      · by_cases h4 : c = c'
        · simp [h1, h2, h3, h4]
        · simp [h1, h2, h3, h4]
      · simp [h1, h2, h3]
    · simp [h1, h2]
  · simp [h1]
/-- Counts, whose three numbers may be any. -/
abbrev CntI := Tx × Bool × Int × Int × Int
def cvI (x : CntI) : Value := .agg #[ks x.1, .bool x.2.1, .int .i64 x.2.2.1, .int .i64 x.2.2.2.1, .int .i64 x.2.2.2.2]
theorem cnt_equal (x y : CntI) (w : World) : (Op.equalIn 10000 53 (cvI x) (cvI y)).run Tryd.prog w = .ok (decide (x = y)) w := by
  obtain ⟨p, a, b, c, d⟩ := x
  obtain ⟨p', a', b', c', d'⟩ := y
  unfold cvI
  dsimp only
  rw [show (10000 : Nat) = 9999 + 1 from rfl, run_equalIn_agg w 9999 53 _ _ (by kernel_rfl) (by kernel_rfl), show (Tryd.prog.fieldsOf 53).toList = [{ name := "Node", type := 9, offset := 0, embedded := false, tag := "", pkgPath := "", byteOffset := 0 }, { name := "Up", type := 4, offset := 1, embedded := false, tag := "", pkgPath := "", byteOffset := 16 }, { name := "Held", type := 3, offset := 2, embedded := false, tag := "", pkgPath := "", byteOffset := 24 }, { name := "Sent", type := 3, offset := 3, embedded := false, tag := "", pkgPath := "", byteOffset := 32 }, { name := "Dropped", type := 3, offset := 4, embedded := false, tag := "", pkgPath := "", byteOffset := 40 }] by kernel_rfl]
  have e1 : (Op.equalIn 9999 9 (ks p) (ks p')).run Tryd.prog w = .ok (decide (p = p')) w := by
    have h := run_equalIn_string (P := Tryd.prog) w 9998 9 ⟨p.toArray⟩ ⟨p'.toArray⟩ Tryd.underlying9
    rw [bytes_beq] at h
    exact h
  have e2 : (Op.equalIn 9999 4 (.bool a) (.bool a')).run Tryd.prog w = .ok (a == a') w := run_equalIn_bool' (P := Tryd.prog) w 9998 4 a a' Tryd.underlying4
  have e3 : ∀ c c', (Op.equalIn 9999 3 (.int .i64 c) (.int .i64 c')).run Tryd.prog w = .ok (c == c') w := fun c c' => run_equalIn_int (P := Tryd.prog) w 9998 3 .i64 .i64 c c' Tryd.underlying3
  simp only [Op.eqFields, Sem.run_bind, cpart0, cpart1, cpart2, cpart3, cpart4, Result.andThen_ok, e1, e2, e3, Sem.run_ite]
  by_cases h1 : p = p'
  · by_cases h2 : a = a'
    · by_cases h3 : b = b'
      · by_cases h4 : c = c'
        · by_cases h5 : d = d'
          · simp [h1, h2, h3, h4, h5]
          · simp [h1, h2, h3, h4, h5]
        · simp [h1, h2, h3, h4]
      · simp [h1, h2, h3]
    · simp [h1, h2]
  · simp [h1]
theorem rec_neq (x y : Rcd) (w : World) : (binOp .neq 45 (rv x) (rv y)).run Tryd.prog w = .ok (.bool (!decide (x = y))) w := by
  have h := rec_equal x y w
  unfold rv at h ⊢
  rw [run_neq_struct, h]; rfl
theorem cnt_neq (x y : CntI) (w : World) : (binOp .neq 53 (cvI x) (cvI y)).run Tryd.prog w = .ok (.bool (!decide (x = y))) w := by
  have h := cnt_equal x y w
  unfold cvI at h ⊢
  rw [run_neq_struct, h]; rfl
theorem cnt_eql (x y : CntI) (w : World) : (binOp .eql 53 (cvI x) (cvI y)).run Tryd.prog w = .ok (.bool (decide (x = y))) w := by
  have h := cnt_equal x y w
  unfold cvI at h ⊢
  rw [run_eql_struct, h]; rfl
end Go.Proofs.YtcifajfmdpjfiaaDoor
