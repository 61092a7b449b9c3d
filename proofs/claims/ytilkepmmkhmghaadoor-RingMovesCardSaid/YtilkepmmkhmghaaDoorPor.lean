/- A region that draws its order is walked in the order of the text: where every two of its operations that could change places are apart, and one of them looks at no memory or both only read. -/
import Derived.WalkKit
namespace Go.Tum

/-! ### What an operation's run hangs on -/
/-- One answer in whatever world, and the world stays; or no answer in any. -/
def Wless (P : Program) {α : Type} (s : Sem α) : Prop := (∃ v, ∀ W, s.run P W = .ok v W) ∨ (∀ W, ∃ h W', s.run P W = .halt h W')
/-- An answer, the world stays; or none. -/
def Quiet (P : Program) {α : Type} (s : Sem α) : Prop := ∀ W, (∃ v, s.run P W = .ok v W) ∨ (∃ h W', s.run P W = .halt h W')
def Halts (P : Program) {α : Type} (s : Sem α) : Prop := ∀ W, ∃ h W', s.run P W = .halt h W'

section
variable {P : Program} {α β : Type}
theorem Wless.quiet {s : Sem α} (h : Wless P s) : Quiet P s := fun W => by
  rcases h with ⟨v, hv⟩ | h
  · exact .inl ⟨v, hv W⟩
  · exact .inr (h W)
theorem Halts.wless {s : Sem α} (h : Halts P s) : Wless P s := .inr h
theorem Wless.pure_ (v : α) : Wless P (pure v : Sem α) := .inl ⟨v, fun _ => rfl⟩
theorem Halts.halt_ (h : Halt) : Halts P (Sem.halt h : Sem α) := fun W => ⟨h, W, rfl⟩
theorem Halts.bind_left {s : Sem α} {f : α → Sem β} (h : Halts P s) : Halts P (s >>= f) := fun W => by
  obtain ⟨x, W', hr⟩ := h W
  exact ⟨x, W', by simp [hr, Result.andThen]⟩
theorem Halts.bind_right {s : Sem α} {f : α → Sem β} (h : ∀ v, Halts P (f v)) : Halts P (s >>= f) := fun W => by
  cases hr : s.run P W with
  | ok v W1 =>
    obtain ⟨x, W', h'⟩ := h v W1
    exact ⟨x, W', by simp [hr, Result.andThen, h']⟩
  | halt x W' => exact ⟨x, W', by simp [hr, Result.andThen]⟩
theorem Wless.bind {s : Sem α} {f : α → Sem β} (h : Wless P s) (k : ∀ v, Wless P (f v)) : Wless P (s >>= f) := by
  rcases h with ⟨v, hv⟩ | h
  · rcases k v with ⟨u, hu⟩ | hu
    · exact .inl ⟨u, fun W => by simp [hv W, Result.andThen, hu W]⟩
    · refine .inr fun W => ?_
      obtain ⟨x, W', hx⟩ := hu W
      exact ⟨x, W', by simp [hv W, Result.andThen, hx]⟩
  · exact .inr (Halts.bind_left h)
theorem Quiet.bind {s : Sem α} {f : α → Sem β} (h : Quiet P s) (k : ∀ v, Quiet P (f v)) : Quiet P (s >>= f) := fun W => by
  rcases h W with ⟨v, hv⟩ | ⟨x, W', hx⟩
  · rcases k v W with ⟨u, hu⟩ | ⟨x, W', hx⟩
    · exact .inl ⟨u, by simp [hv, Result.andThen, hu]⟩
    · exact .inr ⟨x, W', by simp [hv, Result.andThen, hx]⟩
  · exact .inr ⟨x, W', by simp [hx, Result.andThen]⟩
theorem Wless.map {s : Sem α} (f : α → β) (h : Wless P s) : Wless P (f <$> s) := by
  rcases h with ⟨v, hv⟩ | h
  · exact .inl ⟨f v, fun W => by simp [hv W, Result.andThen]⟩
  · refine .inr fun W => ?_
    obtain ⟨x, W', hx⟩ := h W
    exact ⟨x, W', by simp [hx, Result.andThen]⟩
theorem wless_program : Wless P program := .inl ⟨P, fun _ => rfl⟩
theorem halts_stuck (why : String) : Halts P (stuck why : Sem α) := .halt_ _
theorem halts_unsupported (u : Unsupported) : Halts P (unsupported u : Sem α) := .halt_ _
theorem halts_goPanic (v : Value) : Halts P (goPanic v : Sem α) := .halt_ _
theorem halts_runtimePanic (e : RuntimeError) : Halts P (runtimePanic e : Sem α) := by
  unfold runtimePanic
  refine Halts.bind_right fun p => ?_
  cases e <;> first | exact .halt_ _ | (repeat (first | exact .halt_ _ | refine Halts.bind_right fun _ => ?_))
theorem halts_boundsPanic (k : IntKind) (x y : Int) (c : BoundsCode) : Halts P (boundsPanic k x y c : Sem α) := by
  unfold boundsPanic
  dsimp only
  split <;> exact Halts.bind_right fun _ => halts_runtimePanic _
theorem wless_typeInfo (t : TypeId) : Wless P (typeInfo t) := by
  unfold typeInfo
  refine wless_program.bind fun p => ?_
  split
  · exact .pure_ _
  · exact (halts_stuck _).wless
theorem wless_underlying (t : TypeId) : Wless P (underlying t) := by
  unfold underlying
  refine wless_program.bind fun p => ?_
  split
  · exact .pure_ _
  · exact (halts_stuck _).wless
theorem wless_sizeOf (t : TypeId) : Wless P (sizeOf t) := (wless_typeInfo t).bind fun _ => .pure_ _
theorem wless_zeroValue (t : TypeId) : Wless P (zeroValue t) := by
  unfold zeroValue
  refine (wless_typeInfo t).bind fun i => ?_
  split
  · exact .pure_ _
  · exact (halts_unsupported _).wless
theorem wless_isAgg (t : TypeId) : Wless P (isAgg t) := by
  unfold isAgg
  refine (wless_underlying t).bind fun d => ?_
  split <;> exact .pure_ _
theorem wless_part (t : TypeId) (cs : Array Value) (off : Nat) : Wless P (part t cs off) := by
  unfold part
  refine (wless_isAgg t).bind fun b => ?_
  split
  · exact (wless_sizeOf t).bind fun _ => .pure_ _
  · split
    · exact .pure_ _
    · exact (halts_stuck _).wless
theorem wless_asBool (v : Value) : Wless P (asBool v) := by unfold asBool; split <;> first | exact .pure_ _ | exact (halts_stuck _).wless
theorem wless_asIntOf (v : Value) : Wless P (asIntOf v) := by unfold asIntOf; split <;> first | exact .pure_ _ | exact (halts_stuck _).wless | exact (halts_unsupported _).wless
theorem wless_asAgg (v : Value) : Wless P (asAgg v) := by unfold asAgg; split <;> first | exact .pure_ _ | exact (halts_stuck _).wless
theorem wless_sureAddr (v : Value) : Wless P (Instr.sureAddr v) := by unfold Instr.sureAddr; split <;> first | exact .pure_ _ | exact (halts_stuck _).wless
theorem wless_asAddr (v : Value) : Wless P (asAddr v) := by unfold asAddr; split <;> first | exact .pure_ _ | exact (halts_stuck _).wless | exact (halts_runtimePanic _).wless
theorem wless_sliceBound (x : Value) (y : Nat) (c : BoundsCode) : Wless P (Instr.sliceBound x y c) := by
  unfold Instr.sliceBound
  refine (wless_asIntOf x).bind fun ⟨k, i⟩ => ?_
  dsimp only
  split
  · exact .pure_ _
  · exact (halts_boundsPanic _ _ _ _).wless
theorem wless_sliceBounds (b : Bool) (len cap : Nat) (lo hi mx : Option Value) : Wless P (Instr.sliceBounds b len cap lo hi mx) := by
  unfold Instr.sliceBounds
  dsimp only
  repeat' (first | exact .pure_ _ | exact wless_sliceBound _ _ _ | exact (halts_stuck _).wless | refine Wless.bind ?_ fun _ => ?_ | split)
theorem wless_slice (t : TypeId) (x : Value) (lo hi mx : Option Value) : Wless P (Instr.slice t x lo hi mx) := by
  unfold Instr.slice
  refine (wless_underlying t).bind fun d => ?_
  repeat' (first | exact .pure_ _ | exact wless_sliceBounds _ _ _ _ _ _ | exact wless_sizeOf _ | exact wless_asAddr _ | exact wless_underlying _ | exact (halts_stuck _).wless | exact (Halts.bind_left (halts_stuck _)).wless | refine Wless.bind ?_ fun _ => ?_ | split)
theorem wless_sliceAt (t : TypeId) (x : Value) (lo hi mx : Option Value) : Wless P (Instr.sliceAt t x lo hi mx) := by
  unfold Instr.sliceAt
  refine (wless_underlying t).bind fun d => ?_
  repeat' (first | exact .pure_ _ | exact wless_slice _ _ _ _ _ | exact wless_sliceBounds _ _ _ _ _ _ | exact wless_sizeOf _ | exact wless_sureAddr _ | refine Wless.bind ?_ fun _ => ?_ | split)
theorem wless_field (t : TypeId) (x : Value) (f : Nat) : Wless P (Instr.field t x f) := by
  unfold Instr.field
  refine (wless_underlying t).bind fun d => ?_
  repeat' (first | exact .pure_ _ | exact wless_part _ _ _ | exact wless_asAgg _ | exact (halts_stuck _).wless | refine Wless.bind ?_ fun _ => ?_ | split)
theorem wless_index (t : TypeId) (x i : Value) : Wless P (Instr.index t x i) := by
  unfold Instr.index
  refine (wless_asIntOf i).bind fun _ => (wless_underlying t).bind fun d => ?_
  repeat' (first | exact .pure_ _ | exact wless_part _ _ _ | exact wless_sizeOf _ | exact (halts_stuck _).wless | exact (halts_boundsPanic _ _ _ _).wless | refine Wless.bind ?_ fun _ => ?_ | split)
theorem wless_indexAt (t : TypeId) (x i : Value) : Wless P (Instr.indexAt t x i) := by
  unfold Instr.indexAt
  refine (wless_asIntOf i).bind fun _ => (wless_underlying t).bind fun d => ?_
  dsimp only
  repeat' (first | exact .pure_ _ | exact wless_sureAddr _ | exact wless_underlying _ | exact wless_sizeOf _ | exact (halts_stuck _).wless | exact (halts_unsupported _).wless | exact (halts_boundsPanic _ _ _ _).wless | refine Wless.bind ?_ fun _ => ?_ | split)
theorem wless_extract (x : Value) (i : Nat) : Wless P (Instr.extract x i) := by
  unfold Instr.extract
  repeat' (first | exact .pure_ _ | exact (halts_stuck _).wless | split)
theorem wless_makeInterface (t : TypeId) (x : Value) : Wless P (Instr.makeInterface t x) := by
  unfold Instr.makeInterface
  refine (wless_underlying t).bind fun d => ?_
  split <;> first | exact (halts_stuck _).wless | exact .pure_ _
theorem wless_intArith (op : BinOp) (k : IntKind) (x y : Int) : Wless P (Op.intArith op k x y) := by
  unfold Op.intArith; split <;> first | exact .pure_ _ | exact (halts_stuck _).wless
theorem wless_intBits (op : BinOp) (k : IntKind) (x y : Int) : Wless P (Op.intBits op k x y) := by
  unfold Op.intBits; split <;> first | exact .pure_ _ | exact (halts_stuck _).wless
theorem wless_intCmp (op : BinOp) (x y : Int) : Wless P (Op.intCmp op x y) := by
  unfold Op.intCmp; split <;> first | exact .pure_ _ | exact (halts_stuck _).wless
theorem wless_intDiv (op : BinOp) (k : IntKind) (x y : Int) : Wless P (Op.intDiv op k x y) := by
  unfold Op.intDiv
  split
  · exact (halts_runtimePanic _).wless
  · split <;> first | exact .pure_ _ | exact (halts_stuck _).wless
theorem wless_shift (op : BinOp) (k : IntKind) (x : Int) (k' : IntKind) (y : Int) : Wless P (Op.shift op k x k' y) := by
  unfold Op.shift
  repeat' (first | exact .pure_ _ | exact (halts_stuck _).wless | exact (halts_runtimePanic _).wless | exact (halts_unsupported _).wless | refine Wless.bind ?_ fun _ => ?_ | split)
theorem wless_stringOp (op : BinOp) (x y : ByteArray) : Wless P (Op.stringOp op x y) := by
  unfold Op.stringOp
  dsimp only
  split <;> first | exact .pure_ _ | exact (halts_stuck _).wless | (split <;> first | exact .pure_ _ | exact (halts_unsupported _).wless)
theorem run_underlying' (t : TypeId) (W : World) : (underlying t).run P W = match P.underlying t with | some d => .ok d W | none => .halt (.stuck "no such type") W := by
  unfold underlying
  cases h : P.underlying t <;> simp [program, Sem.run, Result.andThen, h, stuck]
theorem wless_underlying_bind (t : TypeId) (f : TypeDesc → Sem β) (h : ∀ d, P.underlying t = some d → Wless P (f d)) : Wless P (underlying t >>= f) := by
  cases hu : P.underlying t with
  | none => exact .inr fun W => ⟨_, W, by simp [run_underlying', hu, Result.andThen]; rfl⟩
  | some d =>
    rcases h d hu with ⟨v, hv⟩ | hh
    · exact .inl ⟨v, fun W => by simp [run_underlying', hu, Result.andThen, hv W]⟩
    · refine .inr fun W => ?_
      obtain ⟨x, W', hx⟩ := hh W
      exact ⟨x, W', by simp [run_underlying', hu, Result.andThen, hx]⟩
theorem wless_typeInfo_bind (t : TypeId) (f : TypeInfo → Sem β) (h : ∀ i, P.info? t = some i → Wless P (f i)) : Wless P (typeInfo t >>= f) := by
  have hr : ∀ W, (typeInfo t).run P W = match P.info? t with | some i => .ok i W | none => .halt (.stuck "no such type") W := fun W => by
    unfold typeInfo
    cases hi : P.info? t <;> simp [program, Sem.run, Result.andThen, hi, stuck]
  cases hu : P.info? t with
  | none => exact .inr fun W => ⟨_, W, by simp [hr, hu, Result.andThen]; rfl⟩
  | some d =>
    rcases h d hu with ⟨v, hv⟩ | hh
    · exact .inl ⟨v, fun W => by simp [hr, hu, Result.andThen, hv W]⟩
    · refine .inr fun W => ?_
      obtain ⟨x, W', hx⟩ := hh W
      exact ⟨x, W', by simp [hr, hu, Result.andThen, hx]⟩
theorem wless_fieldPlace (a : Addr) (f : Field) (hz : (P.info? f.type).map (·.size) ≠ some 0) : Wless P (fieldPlace a f) := by
  unfold fieldPlace sizeOf
  rw [LawfulMonad.bind_assoc]
  refine wless_typeInfo_bind _ _ fun i hi => ?_
  simp only [LawfulMonad.pure_bind]
  rw [if_neg (by intro h0; exact hz (by rw [hi]; simp [h0]))]
  exact .pure_ _
theorem wless_fieldAt (s : TypeId) (x : Value) (f : Nat) (hz : ∀ fs fd, P.underlying s = some (.struct fs) → fs[f]? = some fd → (P.info? fd.type).map (·.size) ≠ some 0) : Wless P (Instr.fieldAt s x f) := by
  unfold Instr.fieldAt
  refine wless_underlying_bind _ _ fun d hd => ?_
  split
  · rename_i fields
    split
    · rename_i fd hf
      exact (wless_sureAddr _).bind fun a => (wless_fieldPlace a fd (hz _ _ hd hf)).bind fun _ => .pure_ _
    · exact (halts_stuck _).wless
  · exact (halts_stuck _).wless
theorem wless_equal_plain (t : TypeId) (x y : Value) (h : (∃ a b, x = .bool a ∧ y = .bool b) ∨ x = .pointer none ∧ (∃ b, y = .pointer b) ∨ (∃ b, x = .pointer b) ∧ y = .pointer none ∨
    (∃ n c, x = .slice none n c) ∧ (∃ a n c, y = .slice a n c) ∨ (∃ a n c, x = .slice a n c) ∧ (∃ n c, y = .slice none n c) ∨ x = .map none ∧ (∃ b, y = .map b) ∨ (∃ b, x = .map b) ∧ y = .map none ∨
    x = .nilIface ∧ y = .nilIface ∨ x = .nilIface ∧ (∃ a b, y = .iface a b) ∨ (∃ a b, x = .iface a b) ∧ y = .nilIface ∨ x = .nilFunc ∧ y = .nilFunc ∨ x = .nilFunc ∧ (∃ a b c, y = .func a b c) ∨ (∃ a b c, x = .func a b c) ∧ y = .nilFunc) :
    Wless P (Op.equal t x y) := by
  unfold Op.equal Op.maxDepth Op.equalIn
  refine (wless_underlying t).bind fun d => ?_
  rcases h with ⟨a, b, rfl, rfl⟩ | ⟨rfl, b, rfl⟩ | ⟨⟨b, rfl⟩, rfl⟩ | ⟨⟨n, c, rfl⟩, a, m, e, rfl⟩ | ⟨⟨a, m, e, rfl⟩, n, c, rfl⟩ | ⟨rfl, b, rfl⟩ | ⟨⟨b, rfl⟩, rfl⟩ | ⟨rfl, rfl⟩ | ⟨rfl, a, b, rfl⟩ | ⟨⟨a, b, rfl⟩, rfl⟩ | ⟨rfl, rfl⟩ | ⟨rfl, a, b, c, rfl⟩ | ⟨⟨a, b, c, rfl⟩, rfl⟩
  all_goals (cases d <;> (repeat' (first | exact .pure_ _ | exact (halts_stuck _).wless | exact (halts_unsupported _).wless | (exfalso; simp_all; done) | (injection ‹Value.pointer none = _› with e; subst e; unfold samePointer; split <;> first | exact .pure_ _ | (exfalso; simp_all; done)) | split)))
theorem wless_eqGuardIn_nil (t : TypeId) : Wless P (Op.eqGuardIn Op.maxDepth t .nilIface .nilIface) := by
  unfold Op.maxDepth Op.eqGuardIn
  refine (wless_underlying t).bind fun d => ?_
  split <;> first | exact .pure_ _ | (exfalso; simp_all; done)
end

/-! ### Which operations these are -/
/-- Two values that a binary operation takes without a look at memory. -/
def plain2 : BinOp → Value → Value → Bool
  | _, .int _ _, .int _ _ => true
  | _, .string _, .string _ => true
  | .eql, x, y | .neq, x, y =>
    match x, y with
    | .bool _, .bool _ => true
    | .pointer none, .pointer _ | .pointer _, .pointer none => true
    | .slice none _ _, .slice _ _ _ | .slice _ _ _, .slice none _ _ => true
    | .map none, .map _ | .map _, .map none => true
    | .nilIface, .nilIface | .nilIface, .iface _ _ | .iface _ _, .nilIface => true
    | .nilFunc, .nilFunc | .nilFunc, .func _ _ _ | .func _ _ _, .nilFunc => true
    | .tuple _, .tuple _ => true
    | _, _ => false
  | _, .tuple _, .tuple _ => true
  | _, _, _ => false
section
variable {P : Program}
theorem wless_binOp_int (op : BinOp) (t : TypeId) (k : IntKind) (a : Int) (k' : IntKind) (b : Int) : Wless P (binOp op t (.int k a) (.int k' b)) := by
  cases op <;> simp only [binOp] <;> first
    | exact wless_shift _ _ _ _ _
    | (split <;> first | exact (halts_stuck _).wless | exact wless_intArith _ _ _ _ | exact wless_intDiv _ _ _ _ | exact wless_intBits _ _ _ _ | exact wless_intCmp _ _ _)
theorem wless_binOp_string (op : BinOp) (t : TypeId) (a b : ByteArray) : Wless P (binOp op t (.string a) (.string b)) := by
  cases op <;> simp only [binOp] <;> exact wless_stringOp _ _ _
theorem wless_binOp (op : BinOp) (t : TypeId) (x y : Value) (h : plain2 op x y = true) : Wless P (binOp op t x y) := by
  unfold plain2 at h
  split at h
  · exact wless_binOp_int _ _ _ _ _ _
  · exact wless_binOp_string _ _ _ _
  · split at h
    all_goals first
      | (cases h; done)
      | (simp only [binOp]; refine Wless.bind ?_ fun _ => .pure_ _; refine wless_equal_plain _ _ _ ?_; simp; done)
      | (simp only [binOp, Op.equal, Op.maxDepth, Op.equalIn]
         refine Wless.bind ?_ fun _ => .pure_ _
         refine (wless_underlying _).bind fun d => ?_
         first | exact (halts_stuck _).wless | (split <;> first | exact (halts_stuck _).wless | (exfalso; simp_all; done)))
  · split at h
    all_goals first
      | (cases h; done)
      | (simp only [binOp]; refine Wless.bind ?_ fun _ => .pure_ _; refine wless_equal_plain _ _ _ ?_; simp; done)
      | (simp only [binOp, Op.equal, Op.maxDepth, Op.equalIn]
         refine Wless.bind ?_ fun _ => .pure_ _
         refine (wless_underlying _).bind fun d => ?_
         first | exact (halts_stuck _).wless | (split <;> first | exact (halts_stuck _).wless | (exfalso; simp_all; done)))
  · rename_i op _ _ _ _ _ _
    cases op <;> simp only [binOp] <;> first | exact (halts_stuck _).wless | (exfalso; simp_all; done)
  · cases h
theorem wless_eqGuard (op : BinOp) (t : TypeId) (x y : Operand) (a b : Value) (h : ∀ c d, ¬ (a = .agg c ∧ b = .agg d)) : Wless P (eqGuard op t x y a b) := by
  unfold eqGuard
  repeat' (first | exact .pure_ _ | exact wless_eqGuardIn_nil _ | exact (halts_unsupported _).wless | (exfalso; simp_all; done) | refine Wless.bind ?_ fun _ => ?_ | split)
theorem wless_unary (op : UnOp) (x : Value) : Wless P (Op.unary op x) := by
  unfold Op.unary
  split <;> first | exact wless_intArith _ _ _ _ | exact wless_intBits _ _ _ _ | exact .pure_ _ | exact (halts_stuck _).wless | exact (halts_unsupported _).wless
theorem wless_len_plain (ats : Array TypeId) (ty : TypeId) (x : Value) (h : (∃ s, x = .string s) ∨ (∃ a n c, x = .slice a n c)) : Wless P (Builtin.len_ ats ty #[x]) := by
  unfold Builtin.len_
  split
  · rename_i t' x' heq
    have hx : x' = x := by simp at heq; exact heq.2.symm
    subst hx
    refine (wless_underlying _).bind fun d => ?_
    split <;> first | exact .pure_ _ | (exfalso; rcases h with ⟨_, h⟩ | ⟨_, _, _, h⟩ <;> simp_all; done) | exact (halts_stuck _).wless | (refine (wless_underlying _).bind fun _ => ?_; split <;> first | exact .pure_ _ | exact (halts_stuck _).wless)
  · exact (halts_stuck _).wless
theorem wless_min2 (k : IntKind) (a : Int) (k' : IntKind) (b : Int) : Wless P (Builtin.min2 (.int k a) (.int k' b)) := by simp only [Builtin.min2]; exact .pure_ _
theorem wless_max2 (k : IntKind) (a : Int) (k' : IntKind) (b : Int) : Wless P (Builtin.max2 (.int k a) (.int k' b)) := by simp only [Builtin.max2]; exact .pure_ _
theorem wless_mapM {α β : Type} (f : α → Sem β) (h : ∀ x, Wless P (f x)) : ∀ l : List α, Wless P (l.mapM f)
  | [] => .pure_ _
  | x :: l => by
    rw [List.mapM_cons]
    exact (h x).bind fun _ => (wless_mapM f h l).bind fun _ => .pure_ _
theorem wless_build (t : TypeId) (ps : Array (Nat × Value)) : Wless P (Instr.build t ps) := by
  unfold Instr.build
  refine (wless_zeroValue t).bind fun z => (wless_underlying t).bind fun d => ?_
  split
  · refine Wless.bind ?_ fun _ => ?_
    · rw [Array.mapM_eq_mapM_toList]
      exact Wless.map _ (wless_mapM _ (fun f => (wless_sizeOf _).bind fun _ => .pure_ _) _)
    · split <;> first | exact .pure_ _ | exact (halts_stuck _).wless
  · refine (wless_sizeOf _).bind fun _ => ?_
    split <;> first | exact .pure_ _ | exact (halts_stuck _).wless
  · exact (halts_stuck _).wless

/-! ### Operations that only read -/
theorem quiet_load (a : Addr) : Quiet P (load a) := fun W => by
  unfold load
  simp only [Sem.run]
  cases W.cell? a with
  | some v => exact .inl ⟨v, rfl⟩
  | none =>
    simp only
    split
    · exact .inl ⟨_, rfl⟩
    · exact .inr ⟨_, _, rfl⟩
theorem quiet_loadCellsFrom (a : Addr) : ∀ (n i : Nat) (acc : Array Value), Quiet P (loadCellsFrom a i n acc)
  | 0, _, acc => by unfold loadCellsFrom; exact (Wless.pure_ _).quiet
  | n + 1, i, acc => by
    unfold loadCellsFrom
    exact (quiet_load _).bind fun _ => quiet_loadCellsFrom a n _ _
theorem quiet_loadVar (t : TypeId) (a : Addr) : Quiet P (loadVar t a) := by
  unfold loadVar
  refine (wless_isAgg t).quiet.bind fun b => ?_
  split
  · exact (wless_sizeOf t).quiet.bind fun _ => (quiet_loadCellsFrom a _ _ _).bind fun _ => (Wless.pure_ _).quiet
  · exact quiet_load a
theorem quiet_loadAt (t : TypeId) (x : Value) : Quiet P (Instr.loadAt t x) := by
  unfold Instr.loadAt
  exact (wless_sureAddr x).quiet.bind fun a => quiet_loadVar t a
theorem quiet_forIn {α σ : Type} (f : α → σ → Sem (ForInStep σ)) (h : ∀ x s, Quiet P (f x s)) : ∀ (l : List α) (s : σ), Quiet P (forIn l s f)
  | [], s => by rw [List.forIn_nil]; exact (Wless.pure_ _).quiet
  | x :: l, s => by
    rw [List.forIn_cons]
    refine (h x s).bind fun r => ?_
    cases r with
    | done s' => exact (Wless.pure_ _).quiet
    | yield s' => exact quiet_forIn f h l s'
theorem quiet_bytesToString (x : Value) : Quiet P (Conv.bytesToString x) := by
  unfold Conv.bytesToString
  split
  · exact (Wless.pure_ _).quiet
  · refine (quiet_loadCellsFrom _ _ _ _).bind fun cs => ?_
    dsimp only
    rw [← Array.forIn_toList]
    refine Quiet.bind (quiet_forIn _ (fun c s => ?_) _ _) fun _ => (Wless.pure_ _).quiet
    split
    · exact (Wless.pure_ _).quiet
    · exact ((halts_stuck _).bind_left).wless.quiet
  · exact (halts_stuck _).wless.quiet
theorem quiet_convert_string (src dst e : TypeId) (x : Value) (h1 : P.underlying src = some (.slice e)) (h2 : P.underlying e = some (.int .u8)) (h3 : P.underlying dst = some .string) : Quiet P (convert src dst x) := by
  unfold convert
  intro W
  simp only [Sem.run_bind, run_underlying', h1, h3, Result.andThen]
  split <;> first
    | (exfalso; simp_all; done)
    | exact (Wless.pure_ _).quiet W
    | skip
  rename_i heq1 _ _ _
  injection heq1 with heq1
  subst heq1
  simp only [Sem.run_bind, run_underlying', h2, Result.andThen]
  exact quiet_bytesToString _ W
end

/-! ### The two kinds, by their look -/
def freeCall (c : Call) : Bool :=
  match c.callee with
  | .builtin .len => c.args.size == 1
  | .builtin .min | .builtin .max => c.args.size == 2
  | _ => false
def freeOp (P : Program) (o : Oper) : Bool :=
  match o.op with
  | .move _ | .assign _ | .pick _ _ _ | .field _ _ _ | .index _ _ _ | .indexAddr _ _ _ | .slice _ _ _ _ _ | .extract _ _ | .makeInterface _ _ | .makeFunc _ _ _ | .unOp _ _ _ | .nilCheck _ | .binOp _ _ _ _ _ | .build _ _ => true
  | .fieldAddr s _ f => match P.underlying s with
    | some (.struct fs) => match fs[f]? with
      | some fd => (P.info? fd.type).map (·.size) != some 0
      | none => true
    | _ => true
  | .convert src dst _ => match P.underlying src, P.underlying dst with
    | some (.int _), some (.int _) => true
    | _, _ => false
  | .call c => freeCall c
  | _ => false
def readOp (P : Program) (o : Oper) : Bool :=
  match o.op with
  | .load _ _ => true
  | .convert src dst _ => match P.underlying src, P.underlying dst with
    | some (.slice e), some .string => match P.underlying e with
      | some (.int .u8) => true
      | _ => false
    | _, _ => false
  | _ => false
/-- What its operands must look like. -/
def plainLen : Value → Bool
  | .string _ | .slice _ _ _ | .tuple _ => true
  | _ => false
def plainInt : Value → Bool
  | .int _ _ => true
  | _ => false
def plainNone : Value → Bool
  | .tuple _ => true
  | _ => false
def plainPtr : Value → Bool
  | .pointer _ | .tuple _ => true
  | _ => false
def plainConv : Value → Bool
  | .int _ _ | .slice _ _ _ | .tuple _ => true
  | _ => false
def plainCall (c : Call) (ρ : Operand → Value) : Bool :=
  match c.callee with
  | .builtin .len => c.args.toList.all fun x => plainLen (ρ x)
  | .builtin .min | .builtin .max => (c.args.toList.all fun x => plainInt (ρ x)) || c.args.toList.all fun x => plainNone (ρ x)
  | _ => true
def plainOp (o : Oper) (ρ : Operand → Value) : Bool :=
  match o.op with
  | .binOp op _ x y _ => plain2 op (ρ x) (ρ y)
  | .nilCheck x => plainPtr (ρ x)
  | .convert _ _ x => plainConv (ρ x)
  | .call c => plainCall c ρ
  | _ => true
def FreeAt (P : Program) (ρ : Operand → Value) (o : Oper) : Prop := (∃ u, ∀ W, (execOp ρ o).run P W = .ok (.value u) W) ∨ Halts P (execOp ρ o)
def ReadAt (P : Program) (ρ : Operand → Value) (o : Oper) : Prop := ∀ W, (∃ u, (execOp ρ o).run P W = .ok (.value u) W) ∨ (∃ h W', (execOp ρ o).run P W = .halt h W')
section
variable {P : Program}
theorem freeAt_of {ρ : Operand → Value} {o : Oper} {s : Sem Value} (he : execOp ρ o = (do pure (.value (← s)))) (h : Wless P s) : FreeAt P ρ o := by
  unfold FreeAt Halts
  rw [he]
  rcases h with ⟨v, hv⟩ | h
  · exact .inl ⟨v, fun W => by simp [hv W, Result.andThen]⟩
  · exact .inr (Halts.bind_left h)
theorem readAt_of {ρ : Operand → Value} {o : Oper} {s : Sem Value} (he : execOp ρ o = (do pure (.value (← s)))) (h : Quiet P s) : ReadAt P ρ o := by
  unfold ReadAt
  rw [he]
  intro W
  rcases h W with ⟨v, hv⟩ | ⟨x, W', hx⟩
  · exact .inl ⟨v, by simp [hv, Result.andThen]⟩
  · exact .inr ⟨x, W', by simp [hx, Result.andThen]⟩
theorem wless_convert_int (src dst : TypeId) (k k' : IntKind) (x : Value) (hs : P.underlying src = some (.int k')) (hd : P.underlying dst = some (.int k)) (hx : (∃ j n, x = .int j n) ∨ (∃ a n c, x = .slice a n c) ∨ (∃ t, x = .tuple t)) : Wless P (convert src dst x) := by
  unfold convert
  refine wless_underlying_bind _ _ fun d hs' => wless_underlying_bind _ _ fun d' hd' => ?_
  rw [hs] at hs'
  rw [hd] at hd'
  injection hs' with hs'
  injection hd' with hd'
  subst hs'
  subst hd'
  rcases hx with ⟨j, n, rfl⟩ | ⟨a, n, c, rfl⟩ | ⟨t, rfl⟩
  · exact .pure_ _
  · exact (halts_unsupported _).wless
  · exact (halts_unsupported _).wless
theorem plainInt_spec {v : Value} (h : plainInt v = true) : ∃ k n, v = .int k n := by
  unfold plainInt at h
  split at h
  · exact ⟨_, _, rfl⟩
  · cases h
theorem plainNone_spec {v : Value} (h : plainNone v = true) : ∃ t, v = .tuple t := by
  unfold plainNone at h
  split at h
  · exact ⟨_, rfl⟩
  · cases h
theorem free_ok {ρ : Operand → Value} {o : Oper} (h : freeOp P o = true) (hp : plainOp o ρ = true) : FreeAt P ρ o := by
  obtain ⟨dst, op, type, pos, after, guard⟩ := o
  unfold freeOp at h
  unfold plainOp at hp
  cases op <;> dsimp only at h hp
  case move x => exact .inl ⟨ρ x, fun _ => rfl⟩
  case assign x => exact .inl ⟨ρ x, fun _ => rfl⟩
  case pick c a b => exact freeAt_of (s := do pure (if ← asBool (ρ c) then ρ a else ρ b)) (by simp [execOp]) ((wless_asBool _).bind fun _ => .pure_ _)
  case field t x f => exact freeAt_of rfl (wless_field _ _ _)
  case index t x i => exact freeAt_of rfl (wless_index _ _ _)
  case indexAddr t x i => exact freeAt_of rfl (wless_indexAt _ _ _)
  case slice t x l hi m => exact freeAt_of rfl (wless_sliceAt _ _ _ _ _)
  case extract t i => exact freeAt_of rfl (wless_extract _ _)
  case makeInterface t x => exact freeAt_of rfl (wless_makeInterface _ _)
  case makeFunc fn a b => exact freeAt_of rfl (.pure_ _)
  case unOp op t x => exact freeAt_of rfl (wless_unary _ _)
  case build t ps => exact freeAt_of rfl (wless_build _ _)
  case nilCheck x =>
    unfold plainPtr at hp
    split at hp
    · rename_i a hx
      cases a with
      | none => exact .inr (by simp only [execOp, hx]; exact halts_runtimePanic _)
      | some a => exact .inl ⟨.pointer (some a), fun W => by simp [execOp, hx]⟩
    · rename_i t hx
      exact .inl ⟨.tuple t, fun W => by simp [execOp, hx]⟩
    · cases hp
  case binOp op t x y t' =>
    refine freeAt_of rfl (Wless.bind (wless_eqGuard _ _ _ _ _ _ ?_) fun _ => wless_binOp _ _ _ _ hp)
    rintro c d ⟨h1, h2⟩
    rw [h1, h2] at hp
    cases op <;> simp [plain2] at hp
  case fieldAddr s x f =>
    refine freeAt_of rfl (wless_fieldAt _ _ _ fun fs fd hs hf => ?_)
    rw [hs] at h
    simp only [hf] at h
    simpa using h
  case convert src dst x =>
    split at h
    · rename_i k' k h1 h2
      refine freeAt_of rfl (wless_convert_int _ _ k k' _ h1 h2 ?_)
      unfold plainConv at hp
      split at hp <;> simp_all
    · cases h
  case call c =>
    obtain ⟨callee, args, ats⟩ := c
    unfold freeCall at h
    unfold plainCall at hp
    dsimp only at h hp
    obtain ⟨args⟩ := args
    split at h
    · match args, h with
      | [x], _ =>
        have hx : plainLen (ρ x) = true := by simpa using hp
        refine freeAt_of (s := Builtin.len_ ats type #[ρ x]) (by simp [execOp, resolve, invoke, builtin]) ?_
        unfold plainLen at hx
        unfold Builtin.len_
        split
        · rename_i t' x' heq
          have hx' : x' = ρ x := by simp at heq; exact heq.2.symm
          subst hx'
          refine (wless_underlying _).bind fun d => ?_
          split <;> first | exact .pure_ _ | (exfalso; simp_all; done) | exact (halts_stuck _).wless | (refine (wless_underlying _).bind fun _ => ?_; split <;> first | exact .pure_ _ | exact (halts_stuck _).wless)
        · exact (halts_stuck _).wless
    · match args, h with
      | [x, y], _ =>
        refine freeAt_of (s := Builtin.min_ ats type #[ρ x, ρ y]) (by simp [execOp, resolve, invoke, builtin]) ?_
        simp only [Builtin.min_, List.foldlM_cons, List.foldlM_nil]
        refine Wless.bind ?_ fun _ => .pure_ _
        simp only [List.all_cons, List.all_nil, Bool.and_true, Bool.or_eq_true, Bool.and_eq_true] at hp
        rcases hp with ⟨h1, h2⟩ | ⟨h1, h2⟩
        · obtain ⟨k1, n1, e1⟩ := plainInt_spec h1
          obtain ⟨k2, n2, e2⟩ := plainInt_spec h2
          rw [e1, e2]
          exact .pure_ _
        · obtain ⟨t1, e1⟩ := plainNone_spec h1
          obtain ⟨t2, e2⟩ := plainNone_spec h2
          rw [e1, e2]
          exact (halts_stuck _).wless
    · match args, h with
      | [x, y], _ =>
        refine freeAt_of (s := Builtin.max_ ats type #[ρ x, ρ y]) (by simp [execOp, resolve, invoke, builtin]) ?_
        simp only [Builtin.max_, List.foldlM_cons, List.foldlM_nil]
        refine Wless.bind ?_ fun _ => .pure_ _
        simp only [List.all_cons, List.all_nil, Bool.and_true, Bool.or_eq_true, Bool.and_eq_true] at hp
        rcases hp with ⟨h1, h2⟩ | ⟨h1, h2⟩
        · obtain ⟨k1, n1, e1⟩ := plainInt_spec h1
          obtain ⟨k2, n2, e2⟩ := plainInt_spec h2
          rw [e1, e2]
          exact .pure_ _
        · obtain ⟨t1, e1⟩ := plainNone_spec h1
          obtain ⟨t2, e2⟩ := plainNone_spec h2
          rw [e1, e2]
          exact (halts_stuck _).wless
    · cases h
  all_goals cases h
theorem read_ok {ρ : Operand → Value} {o : Oper} (h : readOp P o = true) : ReadAt P ρ o := by
  obtain ⟨dst, op, type, pos, after, guard⟩ := o
  unfold readOp at h
  cases op <;> dsimp only at h
  case load t x => exact readAt_of rfl (quiet_loadAt _ _)
  case convert src dst x =>
    split at h
    · rename_i e h1 h2
      split at h
      · rename_i h3
        exact readAt_of rfl (quiet_convert_string _ _ e _ h1 h3 h2)
      · cases h
    · cases h
  all_goals cases h
end
end Go.Tum
