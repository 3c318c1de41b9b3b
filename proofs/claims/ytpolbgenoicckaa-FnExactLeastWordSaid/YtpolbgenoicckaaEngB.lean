/- What an operation that only reads gives, by the abstract state alone; and that the model's own operation gives it. No conditions. -/
import Derived.Test.YtpolbgenoicckaaEngA
import Derived.WalkLawsBesides
import Derived.Laws.BytesArg
import Derived.Laws.StructEq
namespace Go.Proofs.Ytpolbgenoicckaa
set_option linter.unusedSimpArgs false
set_option linter.unusedVariables false
open Go.RowKit

/-- A number that an integer kind holds. -/
def InK (k : IntKind) (n : Int) : Prop := k.min ≤ n ∧ n ≤ k.max

theorem InK_i64 (n : Int) : InK .i64 n ↔ -9223372036854775808 ≤ n ∧ n ≤ 9223372036854775807 := Iff.rfl
theorem InK_u8 (n : Int) : InK .u8 n ↔ 0 ≤ n ∧ n ≤ 255 := Iff.rfl
theorem InK_i32 (n : Int) : InK .i32 n ↔ -2147483648 ≤ n ∧ n ≤ 2147483647 := Iff.rfl

theorem wrap_InK {k : IntKind} {n : Int} (h : InK k n) : k.wrap n = n := by
  obtain ⟨h1, h2⟩ := h
  cases k
  all_goals
    simp only [IntKind.min, IntKind.max, IntKind.signed, IntKind.bits, if_true, Bool.false_eq_true, if_false, Nat.reduceSub, Int.reducePow, Int.reduceNeg, Int.reduceSub] at h1 h2
    simp only [IntKind.wrap, IntKind.signed, IntKind.bits, Bool.true_and, Bool.false_and, Bool.false_eq_true, if_false, Nat.reduceSub, Int.reducePow, ge_iff_le, decide_eq_true_eq]
    first | omega | (split <;> omega)

/-- The bytes of a string. -/
def bytesOf (s : ByteArray) : List UInt8 := s.data.toList

/-- What a binary operation on scalars gives, handed to K; and what must hold first. -/
def binK (P : Program) (op : BinOp) (t : TypeId) (a b : Value) (K : Value → Prop) : Prop :=
  match a, b with
  | .int k x, .int k' y =>
    k = k' ∧
    match op with
    | .add => InK k (x + y) ∧ K (.int k (x + y))
    | .sub => InK k (x - y) ∧ K (.int k (x - y))
    | .mul => InK k (x * y) ∧ K (.int k (x * y))
    | .quo => 0 ≤ x ∧ 0 < y ∧ InK k (x / y) ∧ K (.int k (x / y))
    | .rem => 0 ≤ x ∧ 0 < y ∧ K (.int k (x % y))
    | .eql => K (.bool (x == y))
    | .neq => K (.bool (x != y))
    | .lss => K (.bool (decide (x < y)))
    | .leq => K (.bool (decide (x ≤ y)))
    | .gtr => K (.bool (decide (x > y)))
    | .geq => K (.bool (decide (x ≥ y)))
    | _ => False
  | .bool x, .bool y =>
    P.underlying t = some .bool ∧
    match op with
    | .eql => K (.bool (x == y))
    | .neq => K (.bool (x != y))
    | _ => False
  | .string x, .string y =>
    match op with
    | .add => x.size + y.size ≤ 9223372036854775807 ∧ K (.string (x ++ y))
    | .eql => K (.bool (bytesOf x == bytesOf y))
    | .neq => K (.bool (bytesOf x != bytesOf y))
    | .lss => K (.bool (Op.bytesLess (bytesOf x) (bytesOf y)))
    | .geq => K (.bool (!Op.bytesLess (bytesOf x) (bytesOf y)))
    | _ => False
  | _, _ => False

theorem binK_ok {P : Program} {op : BinOp} {t : TypeId} {a b : Value} {K : Value → Prop} (h : binK P op t a b K) (x y : Operand) :
    ∃ r, K r ∧ ∀ w : World, (do eqGuard op t x y a b; binOp op t a b : Sem Value).run P w = .ok r w := by
  unfold binK at h
  split at h
  · rename_i k x k' y
    obtain ⟨rfl, h⟩ := h
    cases op <;> simp only at h <;> first
      | exact h.elim
      | exact ⟨_, h, fun w => by simp [go_sem]⟩
      | exact ⟨_, h.2, fun w => by simp [go_sem, Op.intArith, wrap_InK h.1]⟩
      | skip
    · obtain ⟨h0, h1, h2, h3⟩ := h
      refine ⟨_, h3, fun w => ?_⟩
      have e : x.tdiv y = x / y := Int.tdiv_eq_ediv_of_nonneg h0
      simp [go_sem, Op.intDiv, show y ≠ 0 by omega, e, wrap_InK h2]
    · obtain ⟨h0, h1, h3⟩ := h
      refine ⟨_, h3, fun w => ?_⟩
      have e : x.tmod y = x % y := Int.tmod_eq_emod_of_nonneg h0
      simp [go_sem, Op.intDiv, show y ≠ 0 by omega, e]
  · rename_i x y
    obtain ⟨hu, h⟩ := h
    cases op <;> simp only at h <;> first
      | exact h.elim
      | skip
    · refine ⟨_, h, fun w => ?_⟩
      simp only [go_sem, Sem.run_bind, Sem.run_pure, Result.andThen_ok, run_eql_bool w t x y hu]
    · refine ⟨_, h, fun w => ?_⟩
      simp only [go_sem, Sem.run_bind, Sem.run_pure, Result.andThen_ok, run_neq_bool w t x y hu]; rfl
  · rename_i x y
    cases op <;> simp only at h <;> first
      | exact h.elim
      | (obtain ⟨h0, h⟩ := h
         refine ⟨_, h, fun w => ?_⟩
         have e : ¬ (((x.size + y.size : Nat) : Int) > IntKind.i64.max) := by show ¬ (_ > (9223372036854775807 : Int)); omega
         simp only [go_sem, Op.stringOp, Sem.run_bind, Sem.run_pure, Result.andThen_ok, if_neg e]
         done)
      | skip
    all_goals
      refine ⟨_, h, fun w => ?_⟩
      simp only [go_sem, Sem.run_bind, Sem.run_pure, Result.andThen_ok, bytesOf, ByteArray.toList_eq, bne]
  · exact h.elim

/-- The size of a slice type's elements, in cells. -/
def elemSz (P : Program) (t : TypeId) : Option Nat :=
  match P.underlying t with
  | some (.slice e) => (P.info? e).map (·.size)
  | _ => none

/-- A type whose values lie in one cell (none), or are a struct's (some its number of cells). -/
def cellsIn (P : Program) (t : TypeId) : Option (Option Nat) :=
  match P.underlying t with
  | some (.struct _) => (P.info? t).map fun i => some i.size
  | some (.array _ _) => none
  | some _ => if (P.info? t).map (·.size) = some 1 then some none else none
  | none => none

/-- A struct's field: where it lies, and its cells. -/
def fieldIn (P : Program) (t : TypeId) (j : Nat) : Option (Nat × Option Nat) :=
  match P.underlying t with
  | some (.struct fs) =>
    match fs[j]? with
    | some f => if ((P.info? f.type).map (·.size)).getD 0 = 0 then none else (cellsIn P f.type).map fun c => (f.offset, c)
    | none => none
  | _ => none

/-- A slot's value handed to K. -/
def withS (s : ASt) (x : Operand) (K : Slot → Prop) : Prop :=
  match opd s x with
  | some v => K v
  | none => False

/-- A scalar's value. -/
abbrev sc (v : Value) : Slot := .one (.pv (.val v))

/-- What stands in cell off of block id, c cells of it. -/
def loadOwn (h : List (Option Blk)) (id off : Nat) (c : Option Nat) (K : Slot → Prop) : Prop :=
  match h[id]? with
  | some (some b) =>
    match c with
    | none => off < b.n ∧ K (.one (.pv (b.f off)))
    | some n => off + n ≤ b.n ∧ K (.one (.pv (.agg n fun i => b.f (off + i))))
  | _ => False

/-- What a builtin gives, handed to K. -/
def evB (P : Program) (s : ASt) (c : Callee) (args : List Operand) (ts : List TypeId) (K : Slot → Prop) : Prop :=
  match c, args with
  | .builtin .len, [x] =>
    match opd s x, ts with
    | some (.one (.pv (.seq _ n _))), [t] => (elemSz P t).isSome = true ∧ K (sc (.int .i64 n))
    | some (.one (.own _ _ _ n)), [t] => (elemSz P t).isSome = true ∧ K (sc (.int .i64 n))
    | some (.one (.pv (.val (.string b)))), [t] => P.underlying t = some .string ∧ K (sc (.int .i64 (bytesOf b).length))
    | some (.one (.pv (.val (.slice none 0 0)))), [t] => (elemSz P t).isSome = true ∧ K (sc (.int .i64 0))
    | _, _ => False
  | .builtin .min, [x, y] =>
    match opd s x, opd s y with
    | some (.one (.pv (.val (.int k a)))), some (.one (.pv (.val (.int _ b)))) => K (sc (.int k (min a b)))
    | _, _ => False
  | .builtin .max, [x, y] =>
    match opd s x, opd s y with
    | some (.one (.pv (.val (.int k a)))), some (.one (.pv (.val (.int _ b)))) => K (sc (.int k (max a b)))
    | _, _ => False
  | _, _ => False

/-- A bound of a cut. -/
def boundK (s : ASt) (o : Option Operand) (d : Nat) (K : Nat → Prop) : Prop :=
  match o with
  | none => K d
  | some x =>
    match opd s x with
    | some (.one (.pv (.val (.int _ n)))) => 0 ≤ n ∧ K n.toNat
    | _ => False

/-- A cut of a string or of a slice that nobody writes. -/
def cutK (P : Program) (s : ASt) (t : TypeId) (x : Operand) (lo hi : Option Operand) (K : Slot → Prop) : Prop :=
  match opd s x with
  | some (.one (.pv (.val (.string b)))) => P.underlying t = some .string ∧ boundK s lo 0 fun l => boundK s hi (bytesOf b).length fun h => l ≤ h ∧ h ≤ (bytesOf b).length ∧ K (sc (.string ⟨(((bytesOf b).drop l).take (h - l)).toArray⟩))
  | some (.one (.pv (.seq sz n f))) => elemSz P t = some sz ∧ boundK s lo 0 fun l => boundK s hi n fun h => l ≤ h ∧ h ≤ n ∧ K (.one (.pv (.seq sz (h - l) fun i => f (l * sz + i))))
  | _ => False

/-- What a function value captures. -/
def capsK (s : ASt) : List Operand → List V → (List V → Prop) → Prop
  | [], vs, K => K vs.reverse
  | x :: xs, vs, K =>
    match opd s x with
    | some (.one (.pv v)) => capsK s xs (v :: vs) K
    | _ => False

/-- The number in a scalar. -/
def vInt : V → Int
  | .val (.int _ z) => z
  | _ => 0

def sameB (n : Nat) (f g : Nat → V) : Bool := (List.range n).all fun i => vInt (f i) == vInt (g i)

def aggI (n : Nat) (xs : Nat → Int) : Value := .agg ((List.range n).map fun i => Value.int .i64 (xs i)).toArray

/-- A struct of n integers: two are compared field by field. -/
def IntStruct (P : Program) (t : TypeId) (n : Nat) : Prop := ∀ (xs ys : Nat → Int) (x y : Operand) (w : World),
  (do eqGuard .eql t x y (aggI n xs) (aggI n ys); binOp .eql t (aggI n xs) (aggI n ys) : Sem Value).run P w = .ok (.bool ((List.range n).all fun i => xs i == ys i)) w ∧
  (do eqGuard .neq t x y (aggI n xs) (aggI n ys); binOp .neq t (aggI n xs) (aggI n ys) : Sem Value).run P w = .ok (.bool (!(List.range n).all fun i => xs i == ys i)) w

/-- Two structs of integers compared. -/
def eqStK (P : Program) (op : BinOp) (t : TypeId) (n m : Nat) (f g : Nat → V) (K : Slot → Prop) : Prop :=
  n = m ∧ IntStruct P t n ∧ (∀ i, i < n → f i = .val (.int .i64 (vInt (f i)))) ∧ (∀ i, i < n → g i = .val (.int .i64 (vInt (g i)))) ∧
    match op with
    | .eql => K (sc (.bool (sameB n f g)))
    | .neq => K (sc (.bool (!sameB n f g)))
    | _ => False

/-- A slice of bytes? -/
def byteSrc (P : Program) (t : TypeId) : Bool :=
  match P.underlying t with
  | some (.slice e) => (match P.underlying e with | some (.int .u8) => true | _ => false)
  | _ => false

/-- A string out of bytes of the call's own. -/
def bytesK (P : Program) (s : ASt) (src : TypeId) (id sz off n : Nat) (K : Slot → Prop) : Prop :=
  match s.h[id]? with
  | some (some b) => sz = 1 ∧ byteSrc P src = true ∧ off + n ≤ b.n ∧ (∀ i, i < n → b.f (off + i) = .val (.int .u8 (vInt (b.f (off + i))))) ∧ K (sc (.string (strOfNums ((List.range n).map fun i => vInt (b.f (off + i))))))
  | _ => False

/-- What a quiet operation gives, handed to K. -/
def evQ (P : Program) (s : ASt) (o : Op) (K : Slot → Prop) : Prop :=
  match o with
  | .move x => withS s x K
  | .assign x => withS s x K
  | .pick c x y =>
    match opd s c with
    | some (.one (.pv (.val (.bool p)))) => (p = true → withS s x K) ∧ (p = false → withS s y K)
    | _ => False
  | .binOp op t x y _ =>
    match opd s x, opd s y with
    | some (.one (.pv (.val a))), some (.one (.pv (.val b))) => binK P op t a b fun r => K (sc r)
    | some (.one (.pv (.agg n f))), some (.one (.pv (.agg m g))) => eqStK P op t n m f g K
    | _, _ => False
  | .unOp .not _ x =>
    match opd s x with
    | some (.one (.pv (.val (.bool p)))) => K (sc (.bool (!p)))
    | _ => False
  | .unOp .neg _ x =>
    match opd s x with
    | some (.one (.pv (.val (.int k n)))) => InK k (-n) ∧ K (sc (.int k (-n)))
    | _ => False
  | .call c => evB P s c.callee c.args.toList c.argTypes.toList K
  | .indexAddr t x i =>
    match opd s x, opd s i with
    | some (.one (.pv (.seq sz n f))), some (.one (.pv (.val (.int _ k)))) =>
      elemSz P t = some sz ∧ 0 < sz ∧ 0 ≤ k ∧ k < n ∧ K (.one (.pin sz fun j => f (k.toNat * sz + j)))
    | some (.one (.own id sz off n)), some (.one (.pv (.val (.int _ k)))) =>
      elemSz P t = some sz ∧ 0 ≤ k ∧ k < n ∧ K (.one (.ptr id (off + k.toNat * sz)))
    | _, _ => False
  | .load t x =>
    match opd s x, cellsIn P t with
    | some (.one (.pin n f)), some none => 0 < n ∧ K (.one (.pv (f 0)))
    | some (.one (.pin n f)), some (some m) => m ≤ n ∧ K (.one (.pv (.agg m f)))
    | some (.one (.pv (.pin n f))), some none => 0 < n ∧ K (.one (.pv (f 0)))
    | some (.one (.ptr id off)), some c => loadOwn s.h id off c K
    | _, _ => False
  | .field t x j =>
    match opd s x, fieldIn P t j with
    | some (.one (.pv (.agg n f))), some (o, none) => o < n ∧ K (.one (.pv (f o)))
    | some (.one (.pv (.agg n f))), some (o, some m) => o + m ≤ n ∧ K (.one (.pv (.agg m fun i => f (o + i))))
    | _, _ => False
  | .fieldAddr t x j =>
    match opd s x, fieldIn P t j with
    | some (.one (.pin n f)), some (o, _) => o ≤ n ∧ K (.one (.pin (n - o) fun i => f (o + i)))
    | some (.one (.ptr id off)), some (o, _) => K (.one (.ptr id (off + o)))
    | _, _ => False
  | .extract x i =>
    match opd s x with
    | some (.many vs) =>
      match vs[i]? with
      | some v => K (.one v)
      | none => False
    | _ => False
  | .nilCheck x =>
    match opd s x with
    | some (.one (.pin n f)) => K (.one (.pin n f))
    | some (.one (.ptr id off)) => K (.one (.ptr id off))
    | _ => False
  | .slice t x lo hi none => cutK P s t x lo hi K
  | .convert src t x =>
    match opd s x, P.underlying t with
    | some (.one (.pv (.val (.int _ n)))), some (.int k) => (P.underlying src).isSome = true ∧ InK k n ∧ K (sc (.int k n))
    | some (.one (.own id sz off n)), some .string => bytesK P s src id sz off n K
    | _, _ => False
  | .index t x i =>
    match opd s x, opd s i with
    | some (.one (.pv (.val (.string b)))), some (.one (.pv (.val (.int _ k)))) =>
      P.underlying t = some .string ∧ 0 ≤ k ∧ k < (bytesOf b).length ∧ K (sc (.int .u8 ((bytesOf b).getD k.toNat 0).toNat))
    | _, _ => False
  | .makeFunc (.func g) ⟨[]⟩ ⟨xs⟩ => capsK s xs [] fun vs => K (.one (.pv (.clo g vs.length fun i => vs.getD i (.val undef))))
  | _ => False

end Go.Proofs.Ytpolbgenoicckaa
