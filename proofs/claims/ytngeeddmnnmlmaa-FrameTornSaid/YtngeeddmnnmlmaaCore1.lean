/-
  A part of the proof whose end is the text 'YtngeeddmnnmlmaaLaw1': the verified evaluator ('Core') and what it finds of the functions ('Fn').
-/
import Derived.Orders
import Derived.Maps.AppendAt
import Derived.Below
import Derived.Laws.Strings
import Derived.Laws.Tables
import Derived.ChangeKeysEq
import Derived.WalkLawsBesides
import Derived.Great.BuildSlice
import Derived.Deep.AppendSrc
set_option linter.all false
set_option linter.unusedVariables false
set_option linter.unusedSimpArgs false
set_option linter.unnecessarySimpa false
section
namespace Go.Rf

/-! Leaf kinds and what they mean. -/
inductive LT where
  | int (k : IntKind) | bool | str | nil | sl (i : Nat) | err | fn | ptr | self
  deriving DecidableEq, Repr

abbrev LT.den (A : Nat → Type) : LT → Type
  | .int _ => Int
  | .bool => Bool
  | .str => List UInt8
  | .nil => Unit
  | .sl i => List (A i)
  | .err => Bool
  | .fn => Option Nat
  | .ptr => Option (Nat × Nat)
  | .self => Unit

structure Leaf (A : Nat → Type) where
  t : LT
  x : t.den A

/-- The kinds of slices' elements. -/
structure Env where
  A : Nat → Type
  dflt : (i : Nat) → A i
  shape : Nat → List LT
  leaves : (i : Nat) → A i → List (Leaf A)
  mkE : (i : Nat) → List (Leaf A) → Option (A i × Prop)
  elem : Nat → TypeId
  bytes : Nat → Nat
  tbs : List (A 0) → List UInt8
  fbs : List UInt8 → List (A 0)
  leaves_shape : ∀ i x, (leaves i x).map (·.t) = shape i
  leaves_mk : ∀ i ls x p, mkE i ls = some (x, p) → p → leaves i x = ls
  tbs_len : ∀ xs, (tbs xs).length = xs.length
  fbs_len : ∀ xs, (fbs xs).length = xs.length
  tbs_at : ∀ (xs : List (A 0)) (j : Nat) (x : A 0) (b : UInt8), xs[j]? = some x → (tbs xs)[j]? = some b → leaves 0 x = [⟨.int .u8, (b.toNat : Int)⟩]
  fbs_at : ∀ (xs : List UInt8) (j : Nat) (x : A 0) (b : UInt8), (fbs xs)[j]? = some x → xs[j]? = some b → leaves 0 x = [⟨.int .u8, (b.toNat : Int)⟩]
  noptr : ∀ i, ∀ t ∈ shape i, t ≠ .ptr ∧ t ≠ .nil
  some0 : ∀ i, shape i ≠ []
  shape0 : shape 0 = [.int .u8]

section
variable (A : Nat → Type)
/-- A value: a leaf (own: its spare room is nobody else's), or a struct's leaves. -/
inductive TV where
  | leaf (l : Leaf A) (own : Bool)
  | agg (ls : List (Leaf A))

/-- What is known of a slot, or of a variable in memory. -/
inductive RV where
  | any
  | und
  | kn (b : Bool)
  | v (x : TV A)
  | tup (g : Bool) (xs : List (TV A))
  | eptr (i : Nat) (xs : List (A i)) (j : Nat) (off : Nat)
  | blk (ty : TypeId) (cells : List (Leaf A × Bool))
end

/-- The state: the newest entry counts. -/
abbrev St (A : Nat → Type) := List (Nat × RV A)
def get {A : Nat → Type} : St A → Nat → RV A
  | [], _ => .any
  | (k, v) :: s, r => bif Nat.beq k r then v else get s r
def bk (b : Nat) : Nat := 1000000 + b

/-! Decision trees. -/
inductive Tree (α : Type) where
  | leaf (a : α)
  | ite (b : Bool) (t e : Tree α)
  | req (p : Prop) (t : Tree α)
  | fail
namespace Tree
variable {α β : Type}
def bind : Tree α → (α → Tree β) → Tree β
  | .leaf a, k => k a
  | .ite b t e, k => .ite b (t.bind k) (e.bind k)
  | .req p t, k => .req p (t.bind k)
  | .fail, _ => .fail
def holds : Tree α → (α → Prop) → Prop
  | .leaf a, Q => Q a
  | .ite b t e, Q => (b = true → t.holds Q) ∧ (b = false → e.holds Q)
  | .req p t, Q => p ∧ (p → t.holds Q)
  | .fail, _ => False
def reach : Tree α → α → Prop
  | .leaf a, x => x = a
  | .ite b t e, x => (b = true ∧ t.reach x) ∨ (b = false ∧ e.reach x)
  | .req p t, x => p ∧ t.reach x
  | .fail, _ => False
theorem holds_mono : ∀ {t : Tree α} {Q Q' : α → Prop}, (∀ x, Q x → Q' x) → t.holds Q → t.holds Q'
  | .leaf _, _, _, h, hq => h _ hq
  | .ite _ _ _, _, _, h, hq => ⟨fun e => holds_mono h (hq.1 e), fun e => holds_mono h (hq.2 e)⟩
  | .req _ _, _, _, h, hq => ⟨hq.1, fun e => holds_mono h (hq.2 e)⟩
  | .fail, _, _, _, hq => hq
theorem holds_bind : ∀ {t : Tree α} {k : α → Tree β} {Q : β → Prop}, (t.bind k).holds Q ↔ t.holds (fun a => (k a).holds Q)
  | .leaf _, _, _ => Iff.rfl
  | .ite _ t e, k, Q => by simp only [bind, holds, holds_bind]
  | .req _ t, k, Q => by simp only [bind, holds, holds_bind]
  | .fail, _, _ => Iff.rfl
theorem reach_of_holds : ∀ {t : Tree α} {Q : α → Prop}, t.holds Q → ∃ x, t.reach x ∧ Q x
  | .leaf a, _, h => ⟨a, rfl, h⟩
  | .ite b t e, _, h => by
    cases b with
    | true => obtain ⟨x, hx, hq⟩ := reach_of_holds (h.1 rfl); exact ⟨x, .inl ⟨rfl, hx⟩, hq⟩
    | false => obtain ⟨x, hx, hq⟩ := reach_of_holds (h.2 rfl); exact ⟨x, .inr ⟨rfl, hx⟩, hq⟩
  | .req p t, _, h => by obtain ⟨x, hx, hq⟩ := reach_of_holds (h.2 h.1); exact ⟨x, ⟨h.1, hx⟩, hq⟩
  | .fail, _, h => h.elim
theorem holds_of_reach : ∀ {t : Tree α} {x : α}, t.reach x → t.holds (fun y => y = x)
  | .leaf a, _, h => h.symm
  | .ite b t e, x, h => by
    rcases h with ⟨rfl, h⟩ | ⟨rfl, h⟩
    · exact ⟨fun _ => holds_of_reach h, fun e => absurd e (by simp)⟩
    · exact ⟨fun e => absurd e (by simp), fun _ => holds_of_reach h⟩
  | .req p t, x, h => ⟨h.1, fun _ => holds_of_reach h.2⟩
  | .fail, _, h => h.elim
theorem reach_bind : ∀ {t : Tree α} {k : α → Tree β} {y : β}, (t.bind k).reach y ↔ ∃ x, t.reach x ∧ (k x).reach y
  | .leaf a, k, y => by simp [bind, reach]
  | .ite b t e, k, y => by
    simp only [bind, reach, reach_bind]
    constructor
    · rintro (⟨hb, x, hx, hy⟩ | ⟨hb, x, hx, hy⟩)
      · exact ⟨x, .inl ⟨hb, hx⟩, hy⟩
      · exact ⟨x, .inr ⟨hb, hx⟩, hy⟩
    · rintro ⟨x, ⟨hb, hx⟩ | ⟨hb, hx⟩, hy⟩
      · exact .inl ⟨hb, x, hx, hy⟩
      · exact .inr ⟨hb, x, hx, hy⟩
  | .req p t, k, y => by
    simp only [bind, reach, reach_bind]
    constructor
    · rintro ⟨hp, x, hx, hy⟩; exact ⟨x, ⟨hp, hx⟩, hy⟩
    · rintro ⟨x, ⟨hp, hx⟩, hy⟩; exact ⟨hp, x, hx, hy⟩
  | .fail, _, _ => by simp [bind, reach]
end Tree

/-! Readers. -/
inductive Rd (A : Nat → Type) (α : Type) where
  | pure (a : α)
  | read (r : Nat) (k : RV A → Rd A α)
  | fail
namespace Rd
variable {A : Nat → Type} {α β : Type}
def run : Rd A α → St A → Option α
  | .pure a, _ => some a
  | .read r k, σ => (k (get σ r)).run σ
  | .fail, _ => none
def reads : Rd A α → St A → List Nat
  | .pure _, _ => []
  | .read r k, σ => r :: (k (get σ r)).reads σ
  | .fail, _ => []
theorem run_congr : ∀ (x : Rd A α) (σ τ : St A), (∀ r ∈ x.reads σ, get τ r = get σ r) → x.run τ = x.run σ
  | .pure _, _, _, _ => rfl
  | .fail, _, _, _ => rfl
  | .read r k, σ, τ, h => by
    have h0 : get τ r = get σ r := h r List.mem_cons_self
    simp only [run, h0]
    exact run_congr (k (get σ r)) σ τ (fun r' hr' => h r' (List.mem_cons_of_mem _ hr'))
end Rd

/-! Types. -/
inductive Ty where
  | leaf (l : LT)
  | agg (ls : List LT) (fields : List (Nat × TypeId))
abbrev TT := List (TypeId × Ty)
def ttGet : TT → TypeId → Option Ty
  | [], _ => none
  | (k, v) :: s, r => bif Nat.beq k r then some v else ttGet s r

variable (E : Env)
def zeroLeaf : LT → Leaf E.A
  | .int k => ⟨.int k, (0 : Int)⟩
  | .bool => ⟨.bool, false⟩
  | .str => ⟨.str, []⟩
  | .nil => ⟨.nil, ()⟩
  | .sl i => ⟨.sl i, []⟩
  | .err => ⟨.err, false⟩
  | .fn => ⟨.fn, none⟩
  | .ptr => ⟨.ptr, none⟩
  | .self => ⟨.self, ()⟩
def zeroCell (t : LT) : Leaf E.A × Bool := (zeroLeaf E t, match t with | .sl _ => true | _ => false)

abbrev Upd := List (Nat × RV E.A)
/-- A called function, seen from outside: which arguments it takes as its own; what it answers of arguments and of the variables that they point to. -/
structure Spec where
  own : List Nat
  run : List (TV E.A) → List (RV E.A) → Tree (List (TV E.A) × List (RV E.A))
inductive Ex where
  | normal | exit (id : Nat) | ret
abbrev Out := Ex × St E.A
/-- A loop, seen from outside: the slots that count, and what it makes of them. -/
structure LoopSum where
  live : List Nat
  run : List (RV E.A) → Tree (Ex × List (RV E.A))
structure Ctx where
  tt : TT
  n : Nat
  np : Nat
  sp : List (Nat × Spec E)
  dyn : Nat → Spec E
  loops : List (Nat × LoopSum E)
  lit : Bool
def noSpec : Spec E := ⟨[], fun _ _ => .fail⟩
def look {α : Type} : List (Nat × α) → Nat → Option α
  | [], _ => none
  | (k, v) :: s, r => bif Nat.beq k r then some v else look s r

variable {E}
def constLeaf : Value → Option (Leaf E.A)
  | .bool b => some ⟨.bool, b⟩
  | .int k n => some ⟨.int k, n⟩
  | .string s => some ⟨.str, s.data.toList⟩
  | .slice none 0 0 => some ⟨.nil, ()⟩
  | .nilIface => some ⟨.err, false⟩
  | .nilFunc => some ⟨.fn, none⟩
  | .pointer none => some ⟨.ptr, none⟩
  | _ => none
def constLeaves : List Value → Option (List (Leaf E.A))
  | [] => some []
  | v :: vs => match constLeaf v, constLeaves vs with
    | some l, some ls => some (l :: ls)
    | _, _ => none
def constRV : Value → Option (RV E.A)
  | .bool b => some (.kn b)
  | .agg cs => (constLeaves cs.toList).map (fun ls => .v (.agg ls))
  | v => (constLeaf v).map (fun l => .v (.leaf l false))
def rdO {α : Type} (x : Operand) (k : RV E.A → Rd E.A α) : Rd E.A α :=
  match x with
  | .tmp t => bif Nat.blt t 1000000 then .read t k else .fail
  | .const v => match constRV v with | some rv => k rv | none => .fail
  | .func f => k (.v (.leaf ⟨.fn, some f⟩ false))
  | .global _ => .fail
def RV.tv : RV E.A → Option (TV E.A)
  | .v x => some x
  | .kn b => some (.leaf ⟨.bool, b⟩ false)
  | _ => none
def rdT {α : Type} (x : Operand) (k : TV E.A → Rd E.A α) : Rd E.A α :=
  rdO x fun rv => match rv.tv with | some tv => k tv | none => .fail
/-- nil, read as a slice of the type that is wanted. -/
def coLeaf (want : LT) (l : Leaf E.A) : Option (Leaf E.A) :=
  match want, l with
  | .sl i, ⟨.nil, _⟩ => some ⟨.sl i, []⟩
  | t, ⟨t', x⟩ => if t = t' then some ⟨t', x⟩ else none
def coLeaves : List LT → List (Leaf E.A) → Option (List (Leaf E.A))
  | [], [] => some []
  | t :: ts, l :: ls => match coLeaf t l, coLeaves ts ls with
    | some l', some ls' => some (l' :: ls')
    | _, _ => none
  | _, _ => none
def TV.un : TV E.A → TV E.A
  | .leaf l _ => .leaf l false
  | .agg ls => .agg ls
def TV.leaves : TV E.A → List (Leaf E.A)
  | .leaf l _ => [l]
  | .agg ls => ls
/-- A value as a type's own. -/
def coTV (ty : Ty) (x : TV E.A) : Option (TV E.A) :=
  match ty, x with
  | .leaf t, .leaf l o => match coLeaf t l with
    | some l' => some (.leaf l' (match l.t with | .nil => true | _ => o))
    | none => none
  | .agg ts _, .agg ls => (coLeaves ts ls).map .agg
  | _, _ => none
def Ty.size : Ty → Nat
  | .leaf _ => 1
  | .agg ls _ => ls.length
def Ty.shape : Ty → List LT
  | .leaf l => [l]
  | .agg ls _ => ls
/-- Leaves as a value of a type. -/
def asTV (ty : Ty) (ls : List (Leaf E.A)) : Option (TV E.A) :=
  match ty, ls with
  | .leaf _, [l] => some (.leaf l false)
  | .agg ts _, ls => if ts.length = ls.length then some (.agg ls) else none
  | _, _ => none
abbrev Res := Tree (Upd E)
def one (dst : Option Tmp) (x : RV E.A) : Rd E.A (Tree (Upd E)) :=
  match dst with
  | some d => .pure (.leaf [(d, x)])
  | none => .fail
def oneB (dst : Option Tmp) (b : Bool) : Rd E.A (Tree (Upd E)) := one dst (.v (.leaf ⟨.bool, b⟩ false))
def oneI (dst : Option Tmp) (k : IntKind) (x : Int) : Rd E.A (Tree (Upd E)) := one dst (.v (.leaf ⟨.int k, x⟩ false))
def need (p : Prop) (x : Rd E.A (Tree (Upd E))) : Rd E.A (Tree (Upd E)) :=
  match x with
  | .pure t => .pure (.req p t)
  | _ => .fail
def bitsOp (op : BinOp) (k : IntKind) (x y : Int) : Int :=
  let a := BitVec.ofInt k.bits x
  let b := BitVec.ofInt k.bits y
  match op with
  | .and => k.wrap (a &&& b).toNat
  | .or => k.wrap (a ||| b).toNat
  | .xor => k.wrap (a ^^^ b).toNat
  | _ => k.wrap (a &&& ~~~b).toNat
def leafEq : Leaf E.A → Leaf E.A → Option Bool
  | ⟨.int k, a⟩, ⟨.int k', b⟩ => if k = k' then some (a == b) else none
  | ⟨.bool, a⟩, ⟨.bool, b⟩ => some (a == b)
  | ⟨.str, a⟩, ⟨.str, b⟩ => some (a == b)
  | _, _ => none
def leavesEq : List (Leaf E.A) → List (Leaf E.A) → Option Bool
  | [], [] => some true
  | a :: as, b :: bs => match leafEq a b, leavesEq as bs with
    | some x, some y => some (x && y)
    | _, _ => none
  | _, _ => none
/-- What an operation answers, and what it asks for. -/
abbrev Ans (E : Env) := Option (Option Prop × Leaf E.A)
def emit (dst : Option Tmp) : Ans E → Rd E.A (Tree (Upd E))
  | none => .fail
  | some (none, l) => one dst (.v (.leaf l false))
  | some (some p, l) => need p (one dst (.v (.leaf l false)))
def intBin (op : BinOp) (k : IntKind) (a b : Int) : Ans E :=
  match op with
  | .add => some (none, ⟨.int k, k.wrap (a + b)⟩)
  | .sub => some (none, ⟨.int k, k.wrap (a - b)⟩)
  | .mul => some (none, ⟨.int k, k.wrap (a * b)⟩)
  | .quo => some (some (b ≠ 0), ⟨.int k, k.wrap (a.tdiv b)⟩)
  | .rem => some (some (b ≠ 0), ⟨.int k, a.tmod b⟩)
  | .eql => some (none, ⟨.bool, a == b⟩)
  | .neq => some (none, ⟨.bool, a != b⟩)
  | .lss => some (none, ⟨.bool, decide (a < b)⟩)
  | .leq => some (none, ⟨.bool, decide (a ≤ b)⟩)
  | .gtr => some (none, ⟨.bool, decide (a > b)⟩)
  | .geq => some (none, ⟨.bool, decide (a ≥ b)⟩)
  | .and => some (none, ⟨.int k, bitsOp .and k a b⟩)
  | .or => some (none, ⟨.int k, bitsOp .or k a b⟩)
  | .xor => some (none, ⟨.int k, bitsOp .xor k a b⟩)
  | .andNot => some (none, ⟨.int k, bitsOp .andNot k a b⟩)
  | .shl => none
  | .shr => none
def shiftBin (op : BinOp) (k : IntKind) (a b : Int) : Ans E :=
  match op with
  | .shl => some (some (0 ≤ b), ⟨.int k, k.wrap (a * 2 ^ (min b.toNat k.bits))⟩)
  | .shr => some (some (0 ≤ b), ⟨.int k, a.fdiv (2 ^ (min b.toNat k.bits))⟩)
  | _ => none
def strBin (op : BinOp) (a b : List UInt8) : Ans E :=
  match op with
  | .add => some (some (a.length + b.length ≤ 9223372036854775807), ⟨.str, a ++ b⟩)
  | .eql => some (none, ⟨.bool, a == b⟩)
  | .neq => some (none, ⟨.bool, !(a == b)⟩)
  | .lss => some (none, ⟨.bool, Op.bytesLess a b⟩)
  | .leq => some (none, ⟨.bool, Op.bytesLess a b || a == b⟩)
  | .gtr => some (none, ⟨.bool, !(Op.bytesLess a b || a == b)⟩)
  | .geq => some (none, ⟨.bool, !(Op.bytesLess a b)⟩)
  | _ => none
def eqBin (op : BinOp) (r : Bool) : Ans E :=
  match op with
  | .eql => some (none, ⟨.bool, r⟩)
  | .neq => some (none, ⟨.bool, !r⟩)
  | _ => none
def isShift : BinOp → Bool
  | .shl | .shr => true
  | _ => false
def leafBin (op : BinOp) (ty : Ty) (x y : Leaf E.A) : Ans E :=
  match x, y with
  | ⟨.int k, a⟩, ⟨.int k', b⟩ => bif isShift op then shiftBin op k a b else if k = k' then intBin op k a b else none
  | ⟨.str, a⟩, ⟨.str, b⟩ => strBin op a b
  | ⟨.bool, a⟩, ⟨.bool, b⟩ => match ty with | .leaf .bool => eqBin op (a == b) | _ => none
  | ⟨.ptr, some _⟩, ⟨.ptr, none⟩ => match ty with | .leaf .ptr => eqBin op false | _ => none
  | _, _ => none
/-- May '==' of this type be told leaf by leaf? -/
def tiles (tt : TT) : Nat → List (Nat × TypeId) → List LT → Bool
  | _, [], ls => ls.isEmpty
  | off, (o, ft) :: rest, ls => match ttGet tt ft with
    | some ty => Nat.beq o off && (ls.take ty.size == ty.shape) && tiles tt (off + ty.size) rest (ls.drop ty.size)
    | none => false
def eqPlan (tt : TT) : Nat → TypeId → Bool
  | 0, _ => false
  | k + 1, t => match ttGet tt t with
    | some (.leaf (.int _)) => true
    | some (.leaf .bool) => true
    | some (.leaf .str) => true
    | some (.agg ls fs) => tiles tt 0 fs ls && fs.all (fun p => eqPlan tt k p.2)
    | _ => false
def fieldOf (ty : Ty) (f : Nat) : Option (Nat × TypeId) :=
  match ty with
  | .agg _ fs => fs[f]?
  | _ => none
/-- Is this slot's value about to be appended to, or handed to one who takes it as its own, in this region? -/
def taken (ctx : Ctx E) (ops : List Oper) (t : Tmp) : Bool :=
  ops.any fun o => match o.op with
    | .call { callee := .builtin .append, args, .. } => match (args[0]? : Option Operand) with | some (.tmp u) => Nat.beq u t | _ => false
    | .call { callee := .value (.func f), args, .. } =>
      match look ctx.sp f with
      | some s => s.own.any fun j => match (args[j]? : Option Operand) with | some (.tmp u) => Nat.beq u t | _ => false
      | none => false
    | _ => false
def rdL {α : Type} : List Operand → (List (RV E.A) → Rd E.A α) → Rd E.A α
  | [], k => k []
  | x :: xs, k => rdO x fun v => rdL xs fun vs => k (v :: vs)
def tvs : List (RV E.A) → Option (List (TV E.A))
  | [] => some []
  | x :: xs => match x.tv, tvs xs with
    | some a, some as => some (a :: as)
    | _, _ => none
/-- A pointer is handed over as it is (a method's receiver may be told by its own type). -/
def argTy (tt : TT) (t : TypeId) (x : TV E.A) : Option Ty :=
  match x with
  | .leaf ⟨.ptr, some _⟩ _ => some (.leaf .ptr)
  | _ => ttGet tt t
def coArgs (tt : TT) : List TypeId → List (TV E.A) → Option (List (TV E.A))
  | [], [] => some []
  | t :: ts, x :: xs => match (argTy tt t x).bind (fun ty => coTV ty x), coArgs tt ts xs with
    | some a, some as => some (a :: as)
    | _, _ => none
  | _, _ => none
/-- The parts of a literal: all of them, in order. -/
def elemsOf (i : Nat) : List (List (Leaf E.A)) → Option (List (E.A i) × Prop)
  | [] => some ([], True)
  | ls :: rest => match (coLeaves (E.shape i) ls).bind (E.mkE i), elemsOf i rest with
    | some (x, p), some (xs, q) => some (x :: xs, p ∧ q)
    | _, _ => none
def splice {α : Type} (off : Nat) (new cells : List α) : List α := cells.take off ++ new ++ cells.drop (off + new.length)
def fillAgg (tt : TT) (fs : List (Nat × TypeId)) : List (Nat × TV E.A) → List (Leaf E.A) → Option (List (Leaf E.A))
  | [], ls => some ls
  | (f, x) :: rest, ls => match fs[f]? with
    | some (off, t) => match (ttGet tt t).bind (fun ty => coTV ty x) with
      | some y => if off + y.leaves.length ≤ ls.length then fillAgg tt fs rest (splice off y.leaves ls) else none
      | none => none
    | none => none
def pairUp : List Nat → List (TV E.A) → List (Nat × TV E.A)
  | i :: is, x :: xs => (i, x) :: pairUp is xs
  | _, _ => []
def intIx (x : Operand) (k : Int → Rd E.A (Tree (Upd E))) : Rd E.A (Tree (Upd E)) :=
  rdT x fun tv => match tv with | .leaf ⟨.int _, i⟩ _ => k i | _ => .fail
def optIx (x : Option Operand) (d : Int) (k : Int → Rd E.A (Tree (Upd E))) : Rd E.A (Tree (Upd E)) :=
  match x with
  | none => k d
  | some o => intIx o k
/-! The blocks that are named. -/
/-- The blocks that a leaf names. -/
def Leaf.names (l : Leaf E.A) : Option Nat :=
  match l with
  | ⟨.ptr, some (b, _)⟩ => some b
  | _ => none
def TV.names : TV E.A → List Nat
  | .leaf l _ => l.names.toList
  | .agg ls => ls.filterMap Leaf.names
def RV.names : RV E.A → List Nat
  | .v x => x.names
  | .tup _ xs => xs.flatMap TV.names
  | .blk _ cells => cells.filterMap (fun p => p.1.names)
  | _ => []
def TV.plain (x : TV E.A) : Bool := match x.names with | [] => true | _ => false
def RV.plain (x : RV E.A) : Bool := match x.names with | [] => true | _ => false
def nodupB : List Nat → Bool
  | [] => true
  | x :: xs => !(xs.any (Nat.beq x)) && nodupB xs
def isB (b : Nat) : Option Nat → Bool
  | some c => Nat.beq b c
  | none => false
/-- A call's pointers: the blocks that they name, and the arguments with each pointer named by its own place. -/
def ptrArgs : Nat → List (TV E.A) → Option (List (TV E.A) × List (Option Nat))
  | _, [] => some ([], [])
  | j, x :: xs => match ptrArgs (j + 1) xs with
    | none => none
    | some (ys, bs) => match x with
      | .leaf ⟨.ptr, some (b, o)⟩ _ => bif Nat.beq o 0 && !(bs.any (isB b)) then some (.leaf ⟨.ptr, some (j, 0)⟩ false :: ys, some b :: bs) else none
      | x => bif x.plain then some (x :: ys, none :: bs) else none
def rdB {α : Type} : List (Option Nat) → (List (RV E.A) → Rd E.A α) → Rd E.A α
  | [], k => k []
  | some b :: bs, k => .read (bk b) fun v => rdB bs fun vs => k (v :: vs)
  | none :: bs, k => rdB bs fun vs => k (.any :: vs)
def backB : List (Option Nat) → List (RV E.A) → Upd E
  | some b :: bs, v :: vs => (bk b, v) :: backB bs vs
  | none :: bs, _ :: vs => backB bs vs
  | _, _ => []
/-- Arguments: those that are not taken are not owned. -/
def lend (own : List Nat) : Nat → List (TV E.A) → List (TV E.A)
  | _, [] => []
  | j, x :: xs => (if own.any (Nat.beq j) then x else x.un) :: lend own (j + 1) xs
/-- The slots whose rows are taken. -/
def given (own : List Nat) : Nat → List Operand → List (TV E.A) → Upd E
  | _, [], _ => []
  | _, _, [] => []
  | j, o :: os, x :: xs =>
    match o, x with
    | .tmp t, .leaf l true => if own.any (Nat.beq j) then (t, .v (.leaf l false)) :: given own (j + 1) os xs else given own (j + 1) os xs
    | _, _ => given own (j + 1) os xs
/-- What a call gives back: of each block that it was lent, its cells. -/
def backOk : List (Option Nat) → List (RV E.A) → Bool
  | [], [] => true
  | some _ :: bs, .blk t cells :: vs => RV.plain (.blk t cells) && backOk bs vs
  | none :: bs, _ :: vs => backOk bs vs
  | _, _ => false
def sCall (ctx : Ctx E) (dst : Option Tmp) (s : Spec E) (c : Call) : Rd E.A (Tree (Upd E)) :=
  rdL c.args.toList fun rvs =>
    match tvs rvs with
    | none => .fail
    | some xs0 => match coArgs ctx.tt c.argTypes.toList xs0 with
      | none => .fail
      | some xs => match ptrArgs 0 (lend s.own 0 xs) with
        | none => .fail
        | some (ys, bs) => bif !(nodupB ((given s.own 0 c.args.toList xs0).map (·.1)) && Nat.ble c.args.size 1000000) then .fail else rdB bs fun vs => bif !(vs.all RV.plain) then .fail else
          .pure ((s.run ys vs).bind fun p => bif !(backOk bs p.2 && p.1.all TV.plain) then .fail else
            let put : Upd E := match dst with
              | none => []
              | some d => match p.1 with
                | [r] => [(d, .v r)]
                | rs => [(d, .tup false rs)]
            .leaf (put ++ (backB bs p.2 ++ given s.own 0 c.args.toList xs0)))
def sLen (ctx : Ctx E) (dst : Option Tmp) (c : Call) : Rd E.A (Tree (Upd E)) :=
  match c.args.toList, c.argTypes.toList with
  | [x], [t] => rdT x fun tv => match ttGet ctx.tt t, tv with
    | some (.leaf .str), .leaf ⟨.str, s⟩ _ => oneI dst .i64 (s.length : Int)
    | some (.leaf (.sl _)), .leaf ⟨.sl _, xs⟩ _ => oneI dst .i64 (xs.length : Int)
    | _, _ => .fail
  | _, _ => .fail
def sMinMax (mx : Bool) (dst : Option Tmp) (c : Call) : Rd E.A (Tree (Upd E)) :=
  match c.args.toList with
  | [x, y] => rdT x fun a => rdT y fun b => match a, b with
    | .leaf ⟨.int k, a⟩ _, .leaf ⟨.int _, b⟩ _ => oneI dst k (if mx then (if b > a then b else a) else (if b < a then b else a))
    | _, _ => .fail
  | _ => .fail
def backS (x : Operand) (own : Bool) (tv : TV E.A) : Upd E := match x with
  | .tmp s => bif own then [(s, .v tv.un)] else []
  | _ => []
/-- append: what is appended to must be owned; it is not, behind. -/
def sAppend (ctx : Ctx E) (dst : Option Tmp) (c : Call) : Rd E.A (Tree (Upd E)) :=
  match c.args.toList, c.argTypes.toList, dst with
  | [x, y], [t, u], some d => rdT x fun a0 => rdT y fun b0 =>
    match (ttGet ctx.tt t).bind (fun ty => coTV ty a0), (ttGet ctx.tt u).bind (fun ty => coTV ty b0) with
    | some (.leaf ⟨.sl i, xs⟩ true), some (.leaf ⟨t2, ys⟩ _) =>
      let back : Upd E := backS x true a0
      match t2, ys with
      | .sl j, ys => if h : j = i then .pure (.req ((xs.length + ys.length) * E.bytes i ≤ 140737488355328)
          (.leaf ((d, .v (.leaf ⟨.sl i, xs ++ (h ▸ ys)⟩ true)) :: back))) else .fail
      | .str, ys => if h : 0 = i then .pure (.req ((xs.length + ys.length) * E.bytes i ≤ 140737488355328)
          (.leaf ((d, .v (.leaf ⟨.sl i, xs ++ (h ▸ E.fbs ys)⟩ true)) :: back))) else .fail
      | _, _ => .fail
    | _, _ => .fail
  | _, _, _ => .fail

def sMove (ctx : Ctx E) (hold guards : Bool) (o : Oper) (x : Operand) : Rd E.A (Tree (Upd E)) :=
  match o.dst with
  | none => .fail
  | some d => rdO x fun rv => match rv with
    | .kn b => .pure (.leaf [(d, .kn b)])
    | .v (.leaf l own) =>
      match l with
      | ⟨.bool, b⟩ => bif guards then .pure (.ite b (.leaf [(d, .kn true)]) (.leaf [(d, .kn false)])) else .pure (.leaf [(d, .v (.leaf ⟨.bool, b⟩ false))])
      | ⟨.nil, _⟩ => match ttGet ctx.tt o.type with
        | some (.leaf (.sl i)) => .pure (.leaf [(d, .v (.leaf ⟨.sl i, []⟩ true))])
        | _ => .fail
      | ⟨.sl i, xs⟩ => match x with
        | .tmp s => bif own && hold && !(Nat.beq s d) then .pure (.leaf [(d, .v (.leaf ⟨.sl i, xs⟩ true)), (s, .v (.leaf ⟨.sl i, xs⟩ false))]) else .pure (.leaf [(d, .v (.leaf ⟨.sl i, xs⟩ false))])
        | _ => .pure (.leaf [(d, .v (.leaf ⟨.sl i, xs⟩ false))])
      | l => .pure (.leaf [(d, .v (.leaf l false))])
    | .v (.agg ls) => .pure (.leaf [(d, .v (.agg ls))])
    | .eptr i xs j off => .pure (.leaf [(d, .eptr i xs j off)])
    | .tup g ts => match x with
      | .tmp s => bif Nat.beq s d then .fail else .pure (.leaf [(d, .tup g ts), (s, .tup g (ts.map TV.un))])
      | _ => .fail
    | _ => .fail
/-- What a choice comes to; a truth that stands in the text stays known. -/
def pickOne (lit : Bool) (dst : Option Tmp) (a : Operand) : Rd E.A (Tree (Upd E)) :=
  match lit, a with
  | true, .const (.bool x) => one dst (.kn x)
  | _, a => rdT a fun tv => one dst (.v tv.un)
def sPick (lit : Bool) (dst : Option Tmp) (c a b : Operand) : Rd E.A (Tree (Upd E)) :=
  rdO c fun cv => match cv with
    | .kn true => pickOne lit dst a
    | .kn false => pickOne lit dst b
    | .v (.leaf ⟨.bool, c⟩ _) => rdT a fun x => rdT b fun y => match x, y with
      | .leaf ⟨.bool, x⟩ _, .leaf ⟨.bool, y⟩ _ => oneB dst (bif c then x else y)
      | _, _ => .fail
    | _ => .fail
def sAlloc (ctx : Ctx E) (dst : Option Tmp) (t : TypeId) : Rd E.A (Tree (Upd E)) :=
  match dst, ttGet ctx.tt t with
    | some d, some i => bif Nat.ble ctx.np d then .read (bk d) fun old => match old with
      | .any => .pure (.leaf [(d, .v (.leaf ⟨.ptr, some (d, 0)⟩ false)), (bk d, .blk t (i.shape.map (zeroCell E)))])
      | _ => .fail
      else .fail
    | _, _ => .fail
def sBox (ctx : Ctx E) (dst : Option Tmp) (t : TypeId) (x : Operand) : Rd E.A (Tree (Upd E)) :=
  match dst, ttGet ctx.tt t with
    | some d, some i => rdT x fun tv => match coTV i tv with
      | some tv => bif Nat.ble ctx.np d then .read (bk d) fun old => match old with
        | .any => .pure (.leaf [(d, .v (.leaf ⟨.ptr, some (d, 0)⟩ false)), (bk d, .blk t (tv.leaves.map fun l => (l, false)))])
        | _ => .fail
        else .fail
      | none => .fail
    | _, _ => .fail
/-- Is none of these a pointer to its own variable? -/
def noSelf (cells : List (Leaf E.A × Bool)) : Bool := cells.all fun p => match p.1.t with | .self => false | _ => true
/-- A part that is not given. -/
def zl (nz : Bool) (t : LT) : Leaf E.A := match nz, t with
  | true, .sl _ => ⟨.nil, ()⟩
  | _, t => zeroLeaf E t
/-- Is this slot's value about to be stored in this region? -/
def storedB (ops : List Oper) (d : Nat) : Bool := ops.any fun o => match o.op with
  | .store _ _ (.tmp u) => Nat.beq u d
  | _ => false
def sBuild (ctx : Ctx E) (nz : Bool) (dst : Option Tmp) (t : TypeId) (parts : Array (Nat × Operand)) : Rd E.A (Tree (Upd E)) :=
  match ttGet ctx.tt t with
    | some (.agg ls fs) => bif !(noSelf (ls.map (zeroCell E))) then .fail else rdL (parts.toList.map (·.2)) fun rvs => match tvs rvs with
      | some xs => match fillAgg ctx.tt fs (pairUp (parts.toList.map (·.1)) xs) (ls.map (zl nz)) with
        | some r => one dst (.v (.agg r))
        | none => .fail
      | none => .fail
    | _ => .fail
/-- Is this slot's value about to be boxed in this region? -/
def boxed (ops : List Oper) (d : Nat) : Bool := ops.any fun o => match o.op with
  | .box _ (.tmp u) => Nat.beq u d
  | _ => false
def isLeafB : TV E.A → Bool
  | .leaf _ _ => true
  | .agg _ => false
def leafOf : TV E.A → Leaf E.A × Bool
  | .leaf l o => (l, o)
  | .agg _ => (⟨.nil, ()⟩, false)
/-- A struct of one part, its first; it keeps what it owns, till it is boxed. -/
def sBuildO (ctx : Ctx E) (d : Tmp) (t : TypeId) (s : Tmp) (i : Nat) (xs : List (E.A i)) : Rd E.A (Tree (Upd E)) :=
  match ttGet ctx.tt t with
    | some (.agg (.sl i' :: lr) ((0, ft) :: fr)) => match ttGet ctx.tt ft with
      | some (.leaf (.sl i'')) => bif Nat.beq i i' && Nat.beq i i'' && noSelf (lr.map (zeroCell E)) && !(Nat.beq s d) then
          .pure (.leaf [(d, .tup true (.leaf ⟨.sl i, xs⟩ true :: lr.map fun l => .leaf (zeroLeaf E l) false)), (s, .v (.leaf ⟨.sl i, xs⟩ false))]) else .fail
      | _ => .fail
    | _ => .fail
def sBoxO (ctx : Ctx E) (dst : Option Tmp) (t : TypeId) (s : Tmp) (ts : List (TV E.A)) : Rd E.A (Tree (Upd E)) :=
  match dst with
    | some d => bif Nat.ble ctx.np d && !(Nat.beq s d) && ts.all isLeafB then .read (bk d) fun old => match old with
        | .any => .pure (.leaf [(d, .v (.leaf ⟨.ptr, some (d, 0)⟩ false)), (bk d, .blk t (ts.map leafOf)), (s, .tup true (ts.map TV.un))])
        | _ => .fail
      else .fail
    | none => .fail
def sBoxAny (ctx : Ctx E) (dst : Option Tmp) (t : TypeId) (x : Operand) : Rd E.A (Tree (Upd E)) :=
  rdO x fun rv => match rv with
    | .tup true ts => match x with
      | .tmp s => sBoxO ctx dst t s ts
      | _ => .fail
    | _ => sBox ctx dst t x
def sBuildAny (ctx : Ctx E) (ops : List Oper) (dst : Option Tmp) (t : TypeId) (parts : Array (Nat × Operand)) : Rd E.A (Tree (Upd E)) :=
  match parts.toList, dst with
    | [(0, .tmp s)], some d => bif boxed ops d then (rdO (.tmp s) fun rv => match rv with
      | .v (.leaf ⟨.sl i, xs⟩ true) => sBuildO ctx d t s i xs
      | _ => sBuild ctx false dst t parts) else sBuild ctx (storedB ops d) dst t parts
    | _, some d => sBuild ctx (storedB ops d) dst t parts
    | _, none => sBuild ctx false dst t parts
def sBuildSlice (ctx : Ctx E) (dst : Option Tmp) (t : TypeId) (len : Nat) (parts : Array (Nat × Operand)) : Rd E.A (Tree (Upd E)) :=
  match ttGet ctx.tt t with
    | some (.leaf (.sl i)) => rdL (parts.toList.map (·.2)) fun rvs => match tvs rvs with
      | some xs => match elemsOf i (xs.map TV.leaves) with
        | some (es, p) => if parts.toList.map (·.1) = List.range len ∧ 0 < len ∧ len * (E.shape i).length ≤ 16777216 then need p (one dst (.v (.leaf ⟨.sl i, es⟩ true))) else .fail
        | none => .fail
      | none => .fail
    | _ => .fail
def sLoad (ctx : Ctx E) (ops : List Oper) (dst : Option Tmp) (t : TypeId) (a : Operand) : Rd E.A (Tree (Upd E)) :=
  match ttGet ctx.tt t with
    | none => .fail
    | some i => rdO a fun rv => match rv with
      | .v (.leaf ⟨.ptr, some (b, off)⟩ _) => .read (bk b) fun bv => match bv with
        | .blk bt cells =>
          bif !(noSelf ((cells.drop off).take i.size)) then .fail else
          match i, (cells.drop off).take i.size with
          | .leaf _, [(l, own)] => match dst with
            | some d => match l with
              | ⟨.sl i, xs⟩ => bif own && taken ctx ops d then .pure (.leaf [(d, .v (.leaf ⟨.sl i, xs⟩ true)), (bk b, .blk bt (cells.set off (⟨.sl i, xs⟩, false)))]) else .pure (.leaf [(d, .v (.leaf ⟨.sl i, xs⟩ false))])
              | l => .pure (.leaf [(d, .v (.leaf l false))])
            | none => .fail
          | .agg ts _, cs => if ts.length = cs.length then one dst (.v (.agg (cs.map (·.1)))) else .fail
          | _, _ => .fail
        | _ => .fail
      | .eptr e xs j off => match asTV i (((E.leaves e (xs.getD j (E.dflt e))).drop off).take i.size) with
        | some tv => one dst (.v tv)
        | none => .fail
      | _ => .fail
/-- Slices that are surely nil are their variable's own. -/
def nilFlags : List (Leaf E.A) → List (Leaf E.A) → List (Leaf E.A × Bool)
  | l0 :: r0, l :: r => (l, match l0.t with | .nil => true | _ => false) :: nilFlags r0 r
  | _, _ => []
def sStore (ctx : Ctx E) (t : TypeId) (a x : Operand) : Rd E.A (Tree (Upd E)) :=
  match ttGet ctx.tt t with
    | none => .fail
    | some i => rdO a fun rv => match rv with
      | .v (.leaf ⟨.ptr, some (b, off)⟩ _) => .read (bk b) fun bv => match bv with
        | .blk bt cells => rdT x fun tv0 => match coTV i tv0 with
          | none => .fail
          | some tv =>
            if off + tv.leaves.length ≤ cells.length then
              match tv with
              | .leaf l own => match l with
                | ⟨.sl i, xs⟩ =>
                  .pure (.leaf ((bk b, .blk bt (splice off [(⟨.sl i, xs⟩, own)] cells)) :: backS x own tv0))
                | l => .pure (.leaf [(bk b, .blk bt (splice off [(l, false)] cells))])
              | .agg ls => .pure (.leaf [(bk b, .blk bt (splice off (nilFlags tv0.leaves ls) cells))])
            else .fail
        | _ => .fail
      | _ => .fail
def sNilCheck (dst : Option Tmp) (x : Operand) : Rd E.A (Tree (Upd E)) :=
  rdO x fun rv => match rv with
    | .v (.leaf ⟨.ptr, some p⟩ _) => one dst (.v (.leaf ⟨.ptr, some p⟩ false))
    | .v (.leaf ⟨.fn, some p⟩ _) => one dst (.v (.leaf ⟨.fn, some p⟩ false))
    | .eptr i xs j off => one dst (.eptr i xs j off)
    | _ => .fail
def isConst : Operand → Bool
  | .const _ => true
  | _ => false
def sBin (ctx : Ctx E) (op : BinOp) (dst : Option Tmp) (xt : TypeId) (x y : Operand) : Rd E.A (Tree (Upd E)) :=
  rdT x fun a => rdT y fun b =>
    match a, b with
    | .leaf ⟨.err, a⟩ _, .leaf ⟨.err, b⟩ _ =>
      match ttGet ctx.tt xt with
      | some (.leaf .err) => bif isConst x && !a then emit dst (eqBin op (!b)) else bif isConst y && !b then emit dst (eqBin op (!a)) else .fail
      | _ => .fail
    | .leaf a _, .leaf b _ => match ttGet ctx.tt xt with
      | some ty => emit dst (leafBin op ty a b)
      | none => .fail
    | .agg as, .agg bs => match ttGet ctx.tt xt, leavesEq as bs with
      | some (.agg ls _), some r => if as.map (·.t) = ls ∧ eqPlan ctx.tt 6 xt = true then emit dst (eqBin op r) else .fail
      | _, _ => .fail
    | _, _ => .fail
def sUn (op : UnOp) (dst : Option Tmp) (x : Operand) : Rd E.A (Tree (Upd E)) :=
  match op with
  | .not => rdO x fun rv => match rv with
    | .kn b => one dst (.kn (!b))
    | .v (.leaf ⟨.bool, b⟩ _) => oneB dst (!b)
    | _ => .fail
  | .neg => rdT x fun tv => match tv with
    | .leaf ⟨.int k, n⟩ _ => oneI dst k (k.wrap (0 - n))
    | _ => .fail
  | _ => .fail
def sConvert (ctx : Ctx E) (dst : Option Tmp) (src t : TypeId) (x : Operand) : Rd E.A (Tree (Upd E)) :=
  match ttGet ctx.tt src with
  | none => .fail
  | some sty => rdT x fun tv => match ttGet ctx.tt t, tv with
    | some (.leaf (.int k)), .leaf ⟨.int _, n⟩ _ => oneI dst k (k.wrap n)
    | some (.leaf .str), .leaf ⟨.str, s⟩ _ => one dst (.v (.leaf ⟨.str, s⟩ false))
    | some (.leaf .str), .leaf ⟨.int _, n⟩ _ => need (0 ≤ n ∧ n < 128) (one dst (.v (.leaf ⟨.str, [UInt8.ofNat n.toNat]⟩ false)))
    | some (.leaf .str), .leaf ⟨.sl 0, xs⟩ _ => match sty with
      | .leaf (.sl 0) => one dst (.v (.leaf ⟨.str, E.tbs xs⟩ false))
      | _ => .fail
    | _, _ => .fail
def sSlice (ctx : Ctx E) (dst : Option Tmp) (t : TypeId) (x : Operand) (lo hi : Option Operand) : Rd E.A (Tree (Upd E)) :=
  rdT x fun tv => match ttGet ctx.tt t, tv with
    | some (.leaf .str), .leaf ⟨.str, s⟩ _ => optIx lo 0 fun l => optIx hi (s.length : Int) fun h =>
      need (0 ≤ l ∧ l ≤ h ∧ h ≤ (s.length : Int)) (one dst (.v (.leaf ⟨.str, (s.take h.toNat).drop l.toNat⟩ false)))
    | some (.leaf (.sl i0)), .leaf ⟨.sl i, xs⟩ _ => if i0 = i then optIx lo 0 fun l => optIx hi (xs.length : Int) fun h =>
      need (0 ≤ l ∧ l ≤ h ∧ h ≤ (xs.length : Int)) (one dst (.v (.leaf ⟨.sl i, (xs.take h.toNat).drop l.toNat⟩ false))) else .fail
    | _, _ => .fail
def sFieldAddr (ctx : Ctx E) (dst : Option Tmp) (t : TypeId) (x : Operand) (f : Nat) : Rd E.A (Tree (Upd E)) :=
  match (ttGet ctx.tt t).bind (fieldOf · f) with
    | none => .fail
    | some (fo, _) => rdO x fun rv => match rv with
      | .v (.leaf ⟨.ptr, some (b, off)⟩ _) => one dst (.v (.leaf ⟨.ptr, some (b, off + fo)⟩ false))
      | .eptr i xs j off => one dst (.eptr i xs j (off + fo))
      | _ => .fail
def sField (ctx : Ctx E) (dst : Option Tmp) (t : TypeId) (x : Operand) (f : Nat) : Rd E.A (Tree (Upd E)) :=
  match (ttGet ctx.tt t).bind (fieldOf · f) with
    | none => .fail
    | some (fo, ft) => match ttGet ctx.tt ft with
      | none => .fail
      | some i => rdT x fun tv => match tv with
        | .agg ls => match asTV i ((ls.drop fo).take i.size) with
          | some r => one dst (.v r)
          | none => .fail
        | _ => .fail
def sIndexAddr (ctx : Ctx E) (dst : Option Tmp) (t : TypeId) (x ix : Operand) : Rd E.A (Tree (Upd E)) :=
  match ttGet ctx.tt t with
    | some (.leaf (.sl i0)) => rdT x fun tv => match tv with
      | .leaf ⟨.sl i, xs⟩ _ => if i0 = i then intIx ix fun j => need (0 ≤ j ∧ j < (xs.length : Int)) (one dst (.eptr i xs j.toNat 0)) else .fail
      | _ => .fail
    | _ => .fail
def sIndex (ctx : Ctx E) (dst : Option Tmp) (t : TypeId) (x ix : Operand) : Rd E.A (Tree (Upd E)) :=
  match ttGet ctx.tt t with
    | some (.leaf .str) => rdT x fun tv => match tv with
      | .leaf ⟨.str, s⟩ _ => intIx ix fun j => need (0 ≤ j ∧ j < (s.length : Int)) (oneI dst .u8 ((s.getD j.toNat 0).toNat : Int))
      | _ => .fail
    | _ => .fail
def sExtract (dst : Option Tmp) (x : Operand) (k : Nat) : Rd E.A (Tree (Upd E)) :=
  match x with
    | .tmp s => bif Nat.blt s 1000000 then .read s fun rv => match rv, dst with
      | .tup false ts, some d => match ts[k]? with
        | some tv => match tv with
          | .leaf ⟨.sl i, xs⟩ own => bif Nat.beq s d then .fail else .pure (.leaf [(d, .v (.leaf ⟨.sl i, xs⟩ own)), (s, .tup false (ts.set k (.leaf ⟨.sl i, xs⟩ false)))])
          | tv => .pure (.leaf [(d, .v tv.un)])
        | none => .fail
      | _, _ => .fail
      else .fail
    | _ => .fail
def sCallAny (ctx : Ctx E) (dst : Option Tmp) (c : Call) : Rd E.A (Tree (Upd E)) :=
  match c.callee with
    | .builtin b => match b with
      | .len => sLen ctx dst c
      | .append => sAppend ctx dst c
      | .min => sMinMax false dst c
      | .max => sMinMax true dst c
      | _ => .fail
    | .value f => match f with
      | .func f => match look ctx.sp f with
        | some s => sCall ctx dst s c
        | none => .fail
      | x => rdT x fun tv => match tv with
        | .leaf ⟨.fn, some f⟩ _ => sCall ctx dst (ctx.dyn f) c
        | _ => .fail
    | _ => .fail
def step (ctx : Ctx E) (ops : List Oper) (guards : Bool) (o : Oper) : Rd E.A (Tree (Upd E)) :=
  match o.op with
  | .move x => sMove ctx (match o.dst with | some d => taken ctx ops d | none => false) guards o x
  | .assign x => sMove ctx true guards o x
  | .pick c a b => sPick ctx.lit o.dst c a b
  | .alloc t => sAlloc ctx o.dst t
  | .box t x => sBoxAny ctx o.dst t x
  | .build t parts => sBuildAny ctx ops o.dst t parts
  | .buildSlice t len parts => sBuildSlice ctx o.dst t len parts
  | .load t a => sLoad ctx ops o.dst t a
  | .store t a x => match o.dst with
    | none => sStore ctx t a x
    | some _ => .fail
  | .nilCheck x => sNilCheck o.dst x
  | .binOp op xt x y _ => sBin ctx op o.dst xt x y
  | .unOp op _ x => sUn op o.dst x
  | .convert s t x => sConvert ctx o.dst s t x
  | .makeInterface xt _ => match ttGet ctx.tt xt with
    | some (.leaf .err) => .fail
    | some _ => one o.dst (.v (.leaf ⟨.err, true⟩ false))
    | none => .fail
  | .slice t x lo hi none => sSlice ctx o.dst t x lo hi
  | .fieldAddr t x f => sFieldAddr ctx o.dst t x f
  | .field t x f => sField ctx o.dst t x f
  | .indexAddr t x ix => sIndexAddr ctx o.dst t x ix
  | .index t x ix => sIndex ctx o.dst t x ix
  | .extract x k => sExtract o.dst x k
  | .call c => sCallAny ctx o.dst c
  | _ => .fail
/-! Regions. -/
def isGuard (ops : List Oper) (i : Nat) : Bool := ops.any fun o => match o.guard with | some (j, _) => Nat.beq j i | none => false
/-- An operation with its guard. -/
def dstOk (n : Nat) (o : Oper) : Bool := match o.dst with | some d => Nat.blt d n | none => true
def gstep (ctx : Ctx E) (ops : List Oper) (i : Nat) (o : Oper) : Rd E.A (Tree (Upd E)) :=
  bif !(dstOk ctx.n o) then .fail else
  match o.guard with
  | none => step ctx ops (isGuard ops i) o
  | some (j, want) => match (ops[j]?).bind (·.dst) with
    | none => .fail
    | some g => bif !(Nat.blt g ctx.n) then .fail else .read g fun rv => match rv with
      | .kn b => bif b == want then step ctx ops (isGuard ops i) o else .pure (.leaf (match o.dst with | some d => [(d, .und)] | none => []))
      | .und => .pure (.leaf (match o.dst with | some d => [(d, .und)] | none => []))
      | _ => .fail
/-- What is kept of an operation that was carried out: its number, what it read and wrote. -/
structure Foot where
  i : Nat
  r : List Nat
  w : List Nat
def inL (x : Nat) (l : List Nat) : Bool := l.any (Nat.beq x)
def meet (a b : List Nat) : Bool := a.any (inL · b)
def clash (a b : Foot) : Bool := meet a.w b.r || meet a.w b.w || meet a.r b.w
/-- Those that must stand ahead, as bits. -/
def bits (acc : List Nat) : List Edge → Nat
  | [] => 0
  | e :: es => bif Region.binds .any e then (2 ^ e.on ||| acc.getD e.on 0) ||| bits acc es else bits acc es
def befs : List Oper → List Nat → List Nat
  | [], acc => acc
  | o :: os, acc => befs os (acc ++ [bits acc o.after.toList])
def befores (ops : List Oper) : List Nat := befs ops []
/-- The operations in the text's order; draw: each two that have to do with each other stand in a fixed order (bef: those that stand ahead of each). -/
def runOps (ctx : Ctx E) (ops : List Oper) (draw : Bool) (bef : List Nat) : Nat → List Oper → List Foot → St E.A → Tree (St E.A)
  | _, [], _, σ => .leaf σ
  | i, o :: rest, fs, σ =>
    match (gstep ctx ops i o).run σ with
    | none => .fail
    | some t => t.bind fun u =>
      let f : Foot := ⟨i, (gstep ctx ops i o).reads σ, u.map (·.1)⟩
      bif draw && !(o.after.toList.all (fun e => Nat.blt e.on i) && fs.all fun g => !(clash g f) || (bef.getD i 0).testBit g.i) then .fail
      else runOps ctx ops draw bef (i + 1) rest (f :: fs) (u ++ σ)
/-- A test, decided or not. -/
def sCond (c : Operand) (σ : St E.A) (t e : Tree (Out E)) : Tree (Out E) :=
  match (rdO c fun rv => .pure rv : Rd E.A (RV E.A)).run σ with
  | some (.kn true) => t
  | some (.kn false) => e
  | some (.v (.leaf ⟨.bool, b⟩ _)) => .ite b t e
  | _ => .fail
/-- Are the variables that are named among those that are kept? -/
def namesIn (live : List Nat) (vs : List (RV E.A)) : Bool := vs.all fun v => v.names.all fun b => inL (bk b) live
def run (ctx : Ctx E) : Code → St E.A → Tree (Out E)
  | .skip, σ => .leaf (.normal, σ)
  | .region _ ops draw, σ => (runOps ctx ops.toList draw (befores ops.toList) 0 ops.toList [] σ).bind fun τ => .leaf (.normal, τ)
  | .seq a b, σ => (run ctx a σ).bind fun r => match r.1 with
    | .normal => run ctx b r.2
    | e => .leaf (e, r.2)
  | .cond c t e, σ => sCond c σ (run ctx t σ) (run ctx e σ)
  | .block id c, σ => match c with
    | .loop _ => match look ctx.loops id with
      | some s => bif !(namesIn s.live (s.live.map (get σ))) then .fail else (s.run (s.live.map (get σ))).bind fun r => .leaf (r.1, s.live.zip r.2)
      | none => .fail
    | c => (run ctx c σ).bind fun r => match r.1 with
      | .exit id' => bif Nat.beq id' id then .leaf (.normal, r.2) else .leaf (.exit id', r.2)
      | e => .leaf (e, r.2)
  | .exit id, σ => .leaf (.exit id, σ)
  | .ret, σ => .leaf (.ret, σ)
  | _, _ => .fail
/-! Functions. -/
def resOf (tt : TT) (σ : St E.A) : ResultVar → Option (TV E.A)
  | .tmp t => (get σ t).tv
  | .cell a t => match get σ a, ttGet tt t with
    | .v (.leaf ⟨.ptr, some (b, off)⟩ _), some i => match get σ (bk b) with
      | .blk _ cells => bif !(noSelf ((cells.drop off).take i.size)) then none else asTV i (((cells.drop off).take i.size).map (·.1))
      | _ => none
    | _, _ => none
def ressOf (tt : TT) (σ : St E.A) : List ResultVar → Option (List (TV E.A))
  | [] => some []
  | r :: rs => match resOf tt σ r, ressOf tt σ rs with
    | some a, some as => some (a :: as)
    | _, _ => none
def RV.isBlk : RV E.A → Bool
  | .any => true
  | .blk _ _ => true
  | _ => false
def numbered {α : Type} : Nat → List α → List (Nat × α)
  | _, [] => []
  | j, x :: xs => (j, x) :: numbered (j + 1) xs
/-- The state in which a function begins. -/
def begin_ (xs : List (TV E.A)) (vs : List (RV E.A)) : St E.A := numbered 0 (xs.map RV.v) ++ (numbered 1000000 vs)
def resKeys : List ResultVar → List Nat
  | [] => []
  | .tmp t :: rs => t :: resKeys rs
  | .cell _ _ :: rs => resKeys rs
def resIn (n : Nat) : ResultVar → Bool
  | .tmp t => Nat.blt t n
  | .cell t _ => Nat.blt t n
def leave (ctx : Ctx E) (fn : Func) (k : Nat) (r : Out E) : Tree (List (TV E.A) × List (RV E.A)) :=
  match r.1 with
  | .exit _ => .fail
  | _ => match ressOf ctx.tt r.2 fn.results.toList with
    | some rs =>
      let vs := (List.range k).map fun j => get r.2 (bk j)
      bif nodupB (resKeys fn.results.toList) && fn.results.toList.all (resIn ctx.n) && rs.all TV.plain && vs.all RV.plain && vs.all RV.isBlk then .leaf (rs, vs) else .fail
    | none => .fail
def fnRun (ctx : Ctx E) (fn : Func) (c : Code) (xs : List (TV E.A)) (vs : List (RV E.A)) : Tree (List (TV E.A) × List (RV E.A)) :=
  (run ctx c (begin_ xs vs)).bind (leave ctx fn vs.length)
/-- One round of a loop's body. -/
def bodyRun (ctx : Ctx E) (live : List Nat) (c : Code) (vs : List (RV E.A)) : Tree (Ex × List (RV E.A)) :=
  (run ctx c (live.zip vs)).bind fun r => bif !(namesIn live (live.map (get r.2))) then .fail else .leaf (r.1, live.map (get r.2))
end Go.Rf
end
section
namespace Go.Rf

def All2 {α β : Type} (R : α → β → Prop) : List α → List β → Prop
  | [], [] => True
  | a :: as, b :: bs => R a b ∧ All2 R as bs
  | _, _ => False
namespace All2
variable {α β : Type} {R S : α → β → Prop}
theorem len : ∀ {as : List α} {bs : List β}, All2 R as bs → as.length = bs.length
  | [], [], _ => rfl
  | _ :: as, _ :: bs, h => by simp [len h.2]
theorem mono (h : ∀ a b, R a b → S a b) : ∀ {as : List α} {bs : List β}, All2 R as bs → All2 S as bs
  | [], [], _ => trivial
  | _ :: _, _ :: _, h' => ⟨h _ _ h'.1, mono h h'.2⟩
theorem mono_mem : ∀ {as : List α} {bs : List β}, (∀ a, a ∈ as → ∀ b, R a b → S a b) → All2 R as bs → All2 S as bs
  | [], [], _, _ => trivial
  | _ :: _, _ :: _, h, h' => ⟨h _ List.mem_cons_self _ h'.1, mono_mem (fun a ha => h a (List.mem_cons_of_mem _ ha)) h'.2⟩
theorem app : ∀ {as : List α} {bs : List β} {cs : List α} {ds : List β}, All2 R as bs → All2 R cs ds → All2 R (as ++ cs) (bs ++ ds)
  | [], [], _, _, _, h => h
  | _ :: _, _ :: _, _, _, h, h' => ⟨h.1, app h.2 h'⟩
theorem at_ : ∀ {as : List α} {bs : List β}, All2 R as bs → ∀ {j : Nat} {a : α} {b : β}, as[j]? = some a → bs[j]? = some b → R a b
  | _ :: _, _ :: _, h, 0, a, b, ha, hb => by simp at ha hb; subst ha; subst hb; exact h.1
  | _ :: _, _ :: _, h, j + 1, a, b, ha, hb => at_ h.2 (j := j) (by simpa using ha) (by simpa using hb)
theorem get : ∀ {as : List α} {bs : List β}, All2 R as bs → ∀ {j : Nat} {a : α}, as[j]? = some a → ∃ b, bs[j]? = some b ∧ R a b
  | _ :: _, b :: _, h, 0, a, ha => ⟨b, rfl, by simp at ha; subst ha; exact h.1⟩
  | _ :: _, _ :: _, h, j + 1, a, ha => by
    obtain ⟨b, hb, hr⟩ := get h.2 (j := j) (by simpa using ha)
    exact ⟨b, by simpa using hb, hr⟩
theorem getR : ∀ {as : List α} {bs : List β}, All2 R as bs → ∀ {j : Nat} {b : β}, bs[j]? = some b → ∃ a, as[j]? = some a ∧ R a b
  | [], [], _, _, _, hb => by simp at hb
  | a :: _, _ :: _, h, 0, b, hb => ⟨a, rfl, by simp at hb; subst hb; exact h.1⟩
  | _ :: _, _ :: _, h, j + 1, b, hb => by
    obtain ⟨a, ha, hr⟩ := getR h.2 (j := j) (by simpa using hb)
    exact ⟨a, by simpa using ha, hr⟩
theorem drop : ∀ {as : List α} {bs : List β} (n : Nat), All2 R as bs → All2 R (as.drop n) (bs.drop n)
  | [], [], n, _ => by simp [All2]
  | _ :: _, _ :: _, 0, h => h
  | _ :: _, _ :: _, n + 1, h => by simpa using drop n h.2
theorem take : ∀ {as : List α} {bs : List β} (n : Nat), All2 R as bs → All2 R (as.take n) (bs.take n)
  | [], [], n, _ => by simp [All2]
  | _ :: _, _ :: _, 0, _ => by simp [All2]
  | _ :: _, _ :: _, n + 1, h => by simpa [All2] using ⟨h.1, take n h.2⟩
theorem set : ∀ {as : List α} {bs : List β} (n : Nat) {a : α} {b : β}, All2 R as bs → R a b → All2 R (as.set n a) (bs.set n b)
  | [], [], _, _, _, _, _ => by simp [All2]
  | _ :: _, _ :: _, 0, _, _, h, h' => ⟨h', h.2⟩
  | _ :: _, _ :: _, n + 1, _, _, h, h' => ⟨h.1, set n h.2 h'⟩
theorem cast_left {α' : Type} {f : α → α'} {T : α' → β → Prop} : ∀ {as : List α} {bs : List β}, All2 (fun a b => T (f a) b) as bs → All2 T (as.map f) bs
  | [], [], _ => trivial
  | _ :: _, _ :: _, h => ⟨h.1, cast_left h.2⟩
theorem un_left {α' : Type} {f : α → α'} {T : α' → β → Prop} : ∀ {as : List α} {bs : List β}, All2 T (as.map f) bs → All2 (fun a b => T (f a) b) as bs
  | [], [], _ => trivial
  | _ :: _, _ :: _, h => ⟨h.1, un_left h.2⟩
end All2

section
variable (E : Env)
def sz (i : Nat) : Nat := (E.shape i).length
def flat (i : Nat) (xs : List (E.A i)) : List (Leaf E.A) := xs.flatMap (E.leaves i)
theorem leaves_len (i : Nat) (x : E.A i) : (E.leaves i x).length = sz E i := by
  have := congrArg List.length (E.leaves_shape i x)
  simpa [sz] using this
theorem flat_len (i : Nat) (xs : List (E.A i)) : (flat E i xs).length = xs.length * sz E i := by
  induction xs with
  | nil => simp [flat]
  | cons x xs ih =>
    have : flat E i (x :: xs) = E.leaves i x ++ flat E i xs := by simp [flat]
    rw [this, List.length_append, ih, leaves_len, List.length_cons, Nat.add_mul]; omega
theorem flat_app (i : Nat) (xs ys : List (E.A i)) : flat E i (xs ++ ys) = flat E i xs ++ flat E i ys := by simp [flat]
theorem flat_drop (i : Nat) (xs : List (E.A i)) (n : Nat) : flat E i (xs.drop n) = (flat E i xs).drop (n * sz E i) := by
  induction n generalizing xs with
  | zero => simp
  | succ n ih =>
    cases xs with
    | nil => simp [flat]
    | cons x xs =>
      have e : flat E i (x :: xs) = E.leaves i x ++ flat E i xs := by simp [flat]
      have el := leaves_len E i x
      rw [List.drop_succ_cons, ih, e, show (n + 1) * sz E i = (E.leaves i x).length + n * sz E i by rw [el, Nat.add_mul]; omega, List.drop_length_add_append]
theorem flat_take (i : Nat) (xs : List (E.A i)) (n : Nat) : flat E i (xs.take n) = (flat E i xs).take (n * sz E i) := by
  induction n generalizing xs with
  | zero => simp [flat]
  | succ n ih =>
    cases xs with
    | nil => simp [flat]
    | cons x xs =>
      have e : flat E i (x :: xs) = E.leaves i x ++ flat E i xs := by simp [flat]
      have e2 : flat E i (x :: xs.take n) = E.leaves i x ++ flat E i (xs.take n) := by simp [flat]
      have el := leaves_len E i x
      rw [List.take_succ_cons, e2, ih, e, show (n + 1) * sz E i = (E.leaves i x).length + n * sz E i by rw [el, Nat.add_mul]; omega, List.take_length_add_append]
theorem flat_at (i : Nat) (xs : List (E.A i)) (j : Nat) (x : E.A i) (h : xs[j]? = some x) : ((flat E i xs).drop (j * sz E i)).take (sz E i) = E.leaves i x := by
  rw [← flat_drop]
  have hd : xs.drop j = x :: xs.drop (j + 1) := by
    obtain ⟨hj, e⟩ := List.getElem?_eq_some_iff.1 h
    rw [← e]; exact List.drop_eq_getElem_cons hj
  rw [hd]
  have e : flat E i (x :: xs.drop (j + 1)) = E.leaves i x ++ flat E i (xs.drop (j + 1)) := by simp [flat]
  rw [e, ← leaves_len E i x, List.take_left]

/-! What a leaf's cell holds. F: the cells that nobody reads through it. -/
def VR (F : Nat → Nat → Prop) (w : World) : Nat → Leaf E.A → Value → Prop
  | 0, _, _ => False
  | _ + 1, ⟨.int k, x⟩, v => v = .int k x
  | _ + 1, ⟨.bool, x⟩, v => v = .bool x
  | _ + 1, ⟨.str, x⟩, v => v = .string ⟨x.toArray⟩
  | _ + 1, ⟨.nil, _⟩, v => v = .slice none 0 0
  | _ + 1, ⟨.err, x⟩, v => bif x then (∃ t u, v = .iface t u) else v = .nilIface
  | _ + 1, ⟨.fn, x⟩, v => v = match x with | none => .nilFunc | some f => .func (.func f) #[] #[]
  | _ + 1, ⟨.ptr, x⟩, v => match x with | none => v = .pointer none | some _ => False
  | _ + 1, ⟨.self, _⟩, _ => False
  | n + 1, ⟨.sl i, xs⟩, v => ∃ a c us, v = .slice a xs.length c ∧ xs.length ≤ c ∧ All2 (VR F w n) (flat E i xs) us ∧
      ∀ k u, us[k]? = some u → ∃ ad : Addr, a = some ad ∧ ad.spot = none ∧ w.cell? ⟨ad.block, ad.off + k, none⟩ = some u ∧ ¬ F ad.block (ad.off + k)
end
variable {E : Env} {F F' : Nat → Nat → Prop} {w w' : World}
theorem VR_fuel : ∀ {n m : Nat} {l : Leaf E.A} {v : Value}, n ≤ m → VR E F w n l v → VR E F w m l v
  | 0, _, _, _, _, h => by simp [VR] at h
  | n + 1, 0, _, _, hnm, _ => absurd hnm (by omega)
  | n + 1, m + 1, ⟨t, x⟩, v, hnm, h => by
    cases t with
    | sl i =>
      obtain ⟨a, c, us, h1, h2, h3, h4⟩ := h
      exact ⟨a, c, us, h1, h2, h3.mono (fun _ _ hx => VR_fuel (by omega) hx), h4⟩
    | _ => exact h
/-- What is read lies as it lay, and is still not forbidden. -/
def Mv (F : Nat → Nat → Prop) (w : World) (F' : Nat → Nat → Prop) (w' : World) : Prop :=
  ∀ g o u, ¬ F g o → w.cell? ⟨g, o, none⟩ = some u → w'.cell? ⟨g, o, none⟩ = some u ∧ ¬ F' g o
theorem Mv.refl : Mv F w F w := fun _ _ _ h h' => ⟨h', h⟩
theorem Mv.trans {F'' : Nat → Nat → Prop} {w'' : World} (h : Mv F w F' w') (h' : Mv F' w' F'' w'') : Mv F w F'' w'' := fun g o u hf hc =>
  h' g o u (h g o u hf hc).2 (h g o u hf hc).1
theorem VR_mv (hm : Mv F w F' w') : ∀ {n : Nat} {l : Leaf E.A} {v : Value}, VR E F w n l v → VR E F' w' n l v
  | 0, _, _, h => by simp [VR] at h
  | n + 1, ⟨t, x⟩, v, h => by
    cases t with
    | sl i =>
      obtain ⟨a, c, us, h1, h2, h3, h4⟩ := h
      refine ⟨a, c, us, h1, h2, h3.mono (fun _ _ hx => VR_mv hm hx), fun k u hk => ?_⟩
      obtain ⟨ad, e, hs, hc, hf⟩ := h4 k u hk
      obtain ⟨hc', hf'⟩ := hm _ _ _ hf hc
      exact ⟨ad, e, hs, hc', hf'⟩
    | _ => exact h
theorem VR_one : ∀ {n : Nat} {l : Leaf E.A} {v : Value}, VR E F w n l v → v.oneCell' = true
  | 0, _, _, h => by simp [VR] at h
  | n + 1, ⟨t, x⟩, v, h => by
    cases t with
    | sl i => obtain ⟨a, c, us, rfl, _⟩ := h; rfl
    | int k => simp [VR] at h; subst h; rfl
    | bool => simp [VR] at h; subst h; rfl
    | str => simp [VR] at h; subst h; rfl
    | nil => simp [VR] at h; subst h; rfl
    | err => cases x with
      | true => simp [VR] at h; obtain ⟨_, _, rfl⟩ := h; rfl
      | false => simp [VR] at h; subst h; rfl
    | fn => cases x with
      | none => simp [VR] at h; subst h; rfl
      | some f => simp [VR] at h; subst h; rfl
    | ptr => cases x with
      | none => simp [VR] at h; subst h; rfl
      | some f => simp [VR] at h
    | self => simp [VR] at h
/-- A leaf in a slot or a variable: it may point to a variable. -/
def LV (loc : Nat → Nat) (F : Nat → Nat → Prop) (w : World) (l : Leaf E.A) (v : Value) : Prop :=
  match l with
  | ⟨.ptr, some (b, o)⟩ => v = .pointer (some ⟨loc b, o, none⟩)
  | l => ∃ n, VR E F w n l v
theorem LV_of {loc : Nat → Nat} {l : Leaf E.A} {v : Value} {n : Nat} (h : VR E F w n l v) : LV loc F w l v := by
  obtain ⟨t, x⟩ := l
  cases t with
  | ptr => cases x with
    | none => exact ⟨n, h⟩
    | some p => cases n <;> simp [VR] at h
  | _ => exact ⟨n, h⟩
theorem LV_one {loc : Nat → Nat} {l : Leaf E.A} {v : Value} (h : LV loc F w l v) : v.oneCell' = true := by
  obtain ⟨t, x⟩ := l
  cases t with
  | ptr => cases x with
    | none => obtain ⟨n, h⟩ := h; exact VR_one h
    | some p => simp only [LV] at h; subst h; rfl
  | _ => obtain ⟨n, h⟩ := h; exact VR_one h
theorem LV_mv {loc loc' : Nat → Nat} (hm : Mv F w F' w') {l : Leaf E.A} {v : Value} (hl : ∀ b, l.names = some b → loc' b = loc b) (h : LV loc F w l v) : LV loc' F' w' l v := by
  obtain ⟨t, x⟩ := l
  cases t with
  | ptr => cases x with
    | none => obtain ⟨n, h⟩ := h; exact ⟨n, VR_mv hm h⟩
    | some p =>
      have := hl p.1 rfl
      simp only [LV] at h ⊢
      rw [this]; exact h
  | _ => obtain ⟨n, h⟩ := h; exact ⟨n, VR_mv hm h⟩
/-- A leaf in a variable's cell: it may be a pointer to that variable, or nil. -/
def CV (me : Nat) (loc : Nat → Nat) (F : Nat → Nat → Prop) (w : World) (l : Leaf E.A) (v : Value) : Prop :=
  match l with
  | ⟨.self, _⟩ => v = .pointer none ∨ v = .pointer (some ⟨me, 0, none⟩)
  | l => LV loc F w l v
theorem CV_of {me : Nat} {loc : Nat → Nat} {l : Leaf E.A} {v : Value} (h : LV loc F w l v) : CV me loc F w l v := by
  obtain ⟨t, x⟩ := l
  cases t with
  | self => obtain ⟨n, h⟩ := h; cases n <;> simp [VR] at h
  | _ => exact h
theorem LV_of_CV {me : Nat} {loc : Nat → Nat} {l : Leaf E.A} {v : Value} (hs : l.t ≠ .self) (h : CV me loc F w l v) : LV loc F w l v := by
  obtain ⟨t, x⟩ := l
  cases t with
  | self => exact absurd rfl hs
  | _ => exact h
theorem CV_mv {me : Nat} {loc loc' : Nat → Nat} (hm : Mv F w F' w') {l : Leaf E.A} {v : Value} (hl : ∀ b, l.names = some b → loc' b = loc b) (h : CV me loc F w l v) : CV me loc' F' w' l v := by
  obtain ⟨t, x⟩ := l
  cases t with
  | self => exact h
  | _ => exact LV_mv (l := ⟨_, x⟩) hm hl h
theorem CV_one {me : Nat} {loc : Nat → Nat} {l : Leaf E.A} {v : Value} (h : CV me loc F w l v) : v.oneCell' = true := by
  obtain ⟨t, x⟩ := l
  cases t with
  | self => rcases h with rfl | rfl <;> rfl
  | _ => exact LV_one (loc := loc) (l := ⟨_, x⟩) h
theorem LVs_of_CVs {me : Nat} {loc : Nat → Nat} : ∀ {ls : List (Leaf E.A × Bool)} {vs : List Value}, noSelf ls = true → All2 (CV me loc F w) (ls.map (·.1)) vs → All2 (LV loc F w) (ls.map (·.1)) vs
  | [], [], _, _ => trivial
  | p :: ls, v :: vs, hn, h => by
    simp only [noSelf, List.all_cons, Bool.and_eq_true] at hn
    refine ⟨LV_of_CV (fun e => ?_) h.1, LVs_of_CVs hn.2 h.2⟩
    have h1 := hn.1
    rw [e] at h1; cases h1
def TVR (loc : Nat → Nat) (F : Nat → Nat → Prop) (w : World) : TV E.A → Value → Prop
  | .leaf l _, v => LV loc F w l v
  | .agg ls, v => ∃ cs : Array Value, v = .agg cs ∧ All2 (LV loc F w) ls cs.toList
/-- A tuple, or a struct's cells. -/
abbrev tupV (g : Bool) (us : Array Value) : Value := match g with
  | true => .agg us
  | false => .tuple us
theorem tupV_inj {g : Bool} {us us' : Array Value} (h : tupV g us = tupV g us') : us = us' := by
  cases g <;> (injection h)
def RVR (loc : Nat → Nat) (F : Nat → Nat → Prop) (w : World) : RV E.A → Value → Prop
  | .any, _ => True
  | .und, v => v = undef
  | .kn b, v => v = .bool b
  | .v x, v => TVR loc F w x v
  | .tup g xs, v => ∃ us : Array Value, v = tupV g us ∧ All2 (TVR loc F w) xs us.toList
  | .eptr i xs j off, v => ∃ (a : Addr) (c n : Nat), VR E F w n ⟨.sl i, xs⟩ (.slice (some a) xs.length c) ∧ j < xs.length ∧ v = .pointer (some ⟨a.block, a.off + (j * sz E i + off), none⟩)
  | .blk _ _, _ => False
theorem TVR_mv {loc loc' : Nat → Nat} (hm : Mv F w F' w') {x : TV E.A} {v : Value} (hl : ∀ b ∈ x.names, loc' b = loc b) (h : TVR loc F w x v) : TVR loc' F' w' x v := by
  cases x with
  | leaf l o => exact LV_mv hm (fun b hb => hl b (by simp [TV.names, hb])) h
  | agg ls =>
    obtain ⟨cs, rfl, h⟩ := h
    exact ⟨cs, rfl, h.mono_mem (fun l hl' v hv => LV_mv hm (fun b hb => hl b (by simp only [TV.names, List.mem_filterMap]; exact ⟨l, hl', hb⟩)) hv)⟩
theorem RVR_mv {loc loc' : Nat → Nat} (hm : Mv F w F' w') {x : RV E.A} {v : Value} (hl : ∀ b ∈ x.names, loc' b = loc b) (h : RVR loc F w x v) : RVR loc' F' w' x v := by
  cases x with
  | any => trivial
  | und => exact h
  | kn b => exact h
  | v x => exact TVR_mv hm hl h
  | tup g xs =>
    obtain ⟨us, rfl, h⟩ := h
    exact ⟨us, rfl, h.mono_mem (fun x hx v hv => TVR_mv hm (fun b hb => hl b (by simp only [RV.names, List.mem_flatMap]; exact ⟨x, hx, hb⟩)) hv)⟩
  | eptr i xs j off =>
    obtain ⟨a, c, n, h1, h2, h3⟩ := h
    exact ⟨a, c, n, VR_mv hm h1, h2, h3⟩
  | blk _ _ => exact h
theorem TVR_un {loc : Nat → Nat} {x : TV E.A} {v : Value} (h : TVR loc F w x v) : TVR loc F w x.un v := by cases x <;> exact h
theorem get_cons (d : Nat) (x : RV E.A) (σ : St E.A) (r : Nat) : get ((d, x) :: σ) r = if d = r then x else get σ r := by
  simp only [get]
  by_cases h : d = r
  · subst h; simp
  · rw [if_neg h]
    have : Nat.beq d r = false := by
      cases hb : Nat.beq d r with
      | true => exact absurd (Nat.eq_of_beq_eq_true hb) h
      | false => rfl
    simp [this]
end Go.Rf
end
section
namespace Go.Rf
open Go.RowKit
variable {E : Env}

/-- But for the cells of Wr all is as it was. -/
structure Keep (Wr : Nat → Nat → Prop) (w w' : World) : Prop where
  os : w'.os = w.os
  tape : w'.tape = w.tape
  output : w'.output = w.output
  size : w.heap.size ≤ w'.heap.size
  blk : ∀ k, k < w.heap.size → w'.heap[k]? = w.heap[k]? ∨ ∃ c c' t fr fr', w.heap[k]? = some (.cells c t fr) ∧ w'.heap[k]? = some (.cells c' t fr') ∧ c'.size = c.size ∧ (∀ o, ¬ Wr k o → c'[o]? = c[o]?) ∧ (fr' = fr ∨ ∃ o, Wr k o)
theorem Keep.refl (Wr : Nat → Nat → Prop) (w : World) : Keep Wr w w := ⟨rfl, rfl, rfl, Nat.le_refl _, fun _ _ => .inl rfl⟩
theorem Keep.trans {Wr Wr1 : Nat → Nat → Prop} {w w1 w2 : World} (h : Keep Wr w w1) (h1 : Keep Wr1 w1 w2) (hs : ∀ g o, g < w.heap.size → Wr1 g o → Wr g o) : Keep Wr w w2 := by
  refine ⟨h1.os.trans h.os, h1.tape.trans h.tape, h1.output.trans h.output, Nat.le_trans h.size h1.size, fun k hk => ?_⟩
  rcases h.blk k hk with e | ⟨c, c', t, fr, fr', e, e', hc, ho, hf⟩
  · rcases h1.blk k (Nat.lt_of_lt_of_le hk h.size) with e1 | ⟨c, c', t, fr, fr', e1, e1', hc, ho, hf⟩
    · exact .inl (e1.trans e)
    · exact .inr ⟨c, c', t, fr, fr', e ▸ e1, e1', hc, fun o hn => ho o (fun hw => hn (hs k o hk hw)), hf.imp id fun ⟨o, hw⟩ => ⟨o, hs k o hk hw⟩⟩
  · rcases h1.blk k (Nat.lt_of_lt_of_le hk h.size) with e1 | ⟨c1, c1', t1, fr1, fr1', e1, e1', hc1, ho1, hf1⟩
    · exact .inr ⟨c, c', t, fr, fr', e, e1.trans e', hc, ho, hf⟩
    · rw [e'] at e1
      obtain ⟨rfl, rfl, rfl⟩ : c' = c1 ∧ t = t1 ∧ fr' = fr1 := by injection e1 with e1; injection e1 with a b c; exact ⟨a, b, c⟩
      refine .inr ⟨c, c1', t, fr, fr1', e, e1', hc1.trans hc, fun o hn => (ho1 o (fun hw => hn (hs k o hk hw))).trans (ho o hn), ?_⟩
      rcases hf1 with rfl | ⟨o, hw⟩
      · exact hf
      · exact .inr ⟨o, hs k o hk hw⟩
theorem Keep.cell {Wr : Nat → Nat → Prop} {w w' : World} (h : Keep Wr w w') {g o : Nat} {u : Value} (hn : ¬ Wr g o) (hc : w.cell? ⟨g, o, none⟩ = some u) : w'.cell? ⟨g, o, none⟩ = some u := by
  have hg : g < w.heap.size := World.block_lt_of_cell? w ⟨g, o, none⟩ hc
  rcases h.blk g hg with e | ⟨c, c', t, fr, fr', e, e', hs, ho, _⟩
  · simpa [World.cell?, e] using hc
  · simp only [World.cell?, e, e'] at hc ⊢
    simpa [ho o hn] using hc
theorem Keep.same {Wr : Nat → Nat → Prop} {w w' : World} (h : Keep Wr w w') {g : Nat} (hg : g < w.heap.size) (hn : ∀ o, ¬ Wr g o) : w'.heap[g]? = w.heap[g]? := by
  rcases h.blk g hg with e | ⟨c, c', t, fr, fr', e, e', hs, ho, hf⟩
  · exact e
  · obtain rfl : fr' = fr := hf.resolve_right fun ⟨o, hw⟩ => hn o hw
    rw [e, e']
    have : c' = c := by
      apply Array.ext hs
      intro j h1 h2
      have := ho j (hn j)
      rw [Array.getElem?_eq_getElem h1, Array.getElem?_eq_getElem h2] at this
      injection this
    rw [this]
theorem Keep.below {Wr : Nat → Nat → Prop} {w w' : World} (h : Below w.heap.size w w') : Keep Wr w w' := ⟨h.os, h.tape, h.output, h.size, fun k hk => .inl (h.block k hk)⟩
theorem Keep.to_below {w w' : World} (h : Keep (fun _ _ => False) w w') : Below w.heap.size w w' :=
  ⟨h.os, h.tape, h.output, h.size, fun k hk => h.same hk (fun _ f => f)⟩
theorem Keep.set {Wr : Nat → Nat → Prop} (w : World) (g o : Nat) (u : Value) (hw : Wr g o) : Keep Wr w (w.setCell ⟨g, o, none⟩ u) := by
  refine ⟨rfl, rfl, rfl, by simp [World.setCell], fun k hk => ?_⟩
  by_cases hkg : k = g
  · subst hkg
    cases hc : w.heap[k]? with
    | none => left; simp [World.setCell, Array.getElem?_modify, hc]
    | some ob =>
      cases ob with
      | cells c t fr =>
        right
        refine ⟨c, c.setIfInBounds o u, t, fr, fr, rfl, by simp [World.setCell, Array.getElem?_modify, hc], by simp, fun o' ho' => ?_, .inl rfl⟩
        have : o ≠ o' := fun e => ho' (e ▸ hw)
        simp [Array.getElem?_setIfInBounds_ne this]
      | _ => left; simp [World.setCell, Array.getElem?_modify, hc]
  · left; exact Below.heap_setCell _ _ _ _ hkg

/-- Where the function began: the world, and where the variables lay that were handed to it. -/
structure Base extends World where
  np : Nat
  pins : Nat → Nat
instance : CoeOut Base World := ⟨Base.toWorld⟩
/-- Who owns a row: a slot, a part of a tuple, a cell of a variable. -/
inductive Hold (loc : Nat → Nat) (n : Nat) (σ : St E.A) (a : Act) (w : World) : Nat → Nat → (i : Nat) → List (E.A i) → Value → Prop
  | slot (t i : Nat) (xs : List (E.A i)) (ht : t < n) (h : get σ t = .v (.leaf ⟨.sl i, xs⟩ true)) : Hold loc n σ a w t 0 i xs (a.tmps.getD t undef)
  | tup {g : Bool} (t k i : Nat) (xs : List (E.A i)) (ts : List (TV E.A)) (us : Array Value) (u : Value) (ht : t < n) (h : get σ t = .tup g ts) (hk : ts[k]? = some (.leaf ⟨.sl i, xs⟩ true))
      (hv : a.tmps.getD t undef = tupV g us) (hu : us[k]? = some u) : Hold loc n σ a w t k i xs u
  | blk (b k i : Nat) (xs : List (E.A i)) (ty : TypeId) (cells : List (Leaf E.A × Bool)) (u : Value) (h : get σ (bk b) = .blk ty cells) (hk : cells[k]? = some (⟨.sl i, xs⟩, true))
      (hu : w.cell? ⟨loc b, k, none⟩ = some u) : Hold loc n σ a w (bk b) k i xs u

structure Rel (n : Nat) (F0 Wr : Nat → Nat → Prop) (w0 : Base) (loc : Nat → Nat) (F : Nat → Nat → Prop) (σ : St E.A) (a : Act) (w : World) : Prop where
  size : a.tmps.size = n
  n_le : n ≤ 1000000
  defers : a.defers = []
  hi : ∀ t, n ≤ t → t < 1000000 → get σ t = .any
  slot : ∀ t, t < n → RVR loc F w (get σ t) (a.tmps.getD t undef)
  blk : ∀ b ty cells, get σ (bk b) = .blk ty cells → ∃ cs, w.heap[loc b]? = some (.cells cs ty (0, 0)) ∧ All2 (CV (loc b) loc F w) (cells.map (·.1)) cs.toList ∧ ∀ o, F (loc b) o ∧ (loc b < w0.heap.size → Wr (loc b) o)
  inj : ∀ b b' ty cells ty' cells', get σ (bk b) = .blk ty cells → get σ (bk b') = .blk ty' cells' → loc b = loc b' → b = b'
  live : ∀ r, (r < n ∨ 1000000 ≤ r) → ∀ b ∈ (get σ r).names, ∃ ty cells, get σ (bk b) = .blk ty cells
  own : ∀ r k i xs u, Hold loc n σ a w r k i xs u → (∃ us, w.ownsRow 0 (E.elem i) (sz E i) u xs.length us) ∧ ∀ g, u.ownBlock = some g → ∀ o, xs.length * sz E i ≤ o → F g o ∧ (g < w0.heap.size → Wr g o)
  sep : ∀ r k i xs u r' k' i' xs' u' g, Hold loc n σ a w r k i xs u → Hold loc n σ a w r' k' i' xs' u' → u.ownBlock = some g → u'.ownBlock = some g → r = r' ∧ k = k'
  apart : ∀ r k i xs u g b ty cells, Hold loc n σ a w r k i xs u → u.ownBlock = some g → get σ (bk b) = .blk ty cells → loc b ≠ g
  keep : Keep Wr w0 w
  dom : ∀ g o, F g o → g < w.heap.size
  old : ∀ g o, g < w0.heap.size → F g o → F0 g o
  still : ∀ g o, g < w0.heap.size → F0 g o → ¬ Wr g o → F g o
  pin : ∀ b, b < w0.np → loc b = w0.pins b

theorem bk_ne_slot {n t b : Nat} (hn : n ≤ 1000000) (ht : t < n) : bk b ≠ t := by unfold bk; omega
theorem bk_inj {b c : Nat} (h : bk b = bk c) : b = c := by unfold bk at h; omega
theorem put_get (a : Act) (d t : Nat) (v : Value) (hd : d < a.tmps.size) : (a.put (some d) v).tmps.getD t undef = if d = t then v else a.tmps.getD t undef := by
  simp only [Act.put, Array.getD_eq_getD_getElem?, Array.getElem?_setIfInBounds]
  by_cases h : d = t
  · subst h; simp [hd]
  · simp [h]
/-- Has this nothing that is owned? -/
def RV.free : RV E.A → Prop
  | .v (.leaf _ o) => o = false
  | .tup _ xs => ∀ x ∈ xs, match x with | .leaf _ o => o = false | .agg _ => True
  | .blk _ cells => ∀ p ∈ cells, p.2 = false
  | _ => True

/-- Where the holders are but moved. -/
theorem Rel.move {n : Nat} {F0 Wr : Nat → Nat → Prop} {w0 : Base} {loc : Nat → Nat} {F : Nat → Nat → Prop} {σ σ' : St E.A} {a a' : Act} {w w' : World}
    (h : Rel n F0 Wr w0 loc F σ a w) (hsize : a'.tmps.size = n) (hdef : a'.defers = []) (hi : ∀ t, n ≤ t → t < 1000000 → get σ' t = .any)
    (slot : ∀ t, t < n → RVR loc F w' (get σ' t) (a'.tmps.getD t undef))
    (blk : ∀ b ty cells, get σ' (bk b) = .blk ty cells → ∃ cells0, get σ (bk b) = .blk ty cells0 ∧ ∃ cs, w'.heap[loc b]? = some (.cells cs ty (0, 0)) ∧ All2 (CV (loc b) loc F w') (cells.map (·.1)) cs.toList)
    (live : ∀ r, (r < n ∨ 1000000 ≤ r) → ∀ b ∈ (get σ' r).names, ∃ ty cells, get σ' (bk b) = .blk ty cells)
    (M : Nat → Nat → Nat → Nat → Prop) (hM : ∀ r k r' k' x y, M r k x y → M r' k' x y → r = r' ∧ k = k')
    (hold : ∀ r k i xs u, Hold loc n σ' a' w' r k i xs u → (u = .slice none 0 0 ∧ xs = []) ∨ ∃ x y, M r k x y ∧ Hold loc n σ a w x y i xs u)
    (hw : ∀ r k i xs u g, Hold loc n σ a w r k i xs u → u.ownBlock = some g → w'.heap[g]? = w.heap[g]?)
    (keep : Keep Wr w0 w') (hsz : w.heap.size ≤ w'.heap.size) : Rel n F0 Wr w0 loc F σ' a' w' := by
  refine ⟨hsize, h.n_le, hdef, hi, slot, fun b ty cells hb => ?_, fun b b' ty cells ty' cells' hb hb' e => ?_, live, fun r k i xs u hh => ?_, fun r k i xs u r' k' i' xs' u' g hh hh' e e' => ?_, fun r k i xs u g b ty cells hh e hb => ?_, keep, fun g o hf => Nat.lt_of_lt_of_le (h.dom g o hf) hsz, h.old, h.still, h.pin⟩
  · obtain ⟨cells0, h0, cs, h1, h2⟩ := blk b ty cells hb
    exact ⟨cs, h1, h2, (h.blk b ty cells0 h0).choose_spec.2.2⟩
  · obtain ⟨_, h0, _⟩ := blk b ty cells hb
    obtain ⟨_, h0', _⟩ := blk b' ty' cells' hb'
    exact h.inj _ _ _ _ _ _ h0 h0' e
  · rcases hold r k i xs u hh with ⟨rfl, rfl⟩ | ⟨x, y, _, h0⟩
    · exact ⟨⟨[], World.ownsRow_nil ..⟩, fun g hg => by simp [Value.ownBlock] at hg⟩
    obtain ⟨⟨us, ho⟩, ht⟩ := h.own x y i xs u h0
    refine ⟨⟨us, ho.1, ?_⟩, ht⟩
    rcases ho.2 with hn | ⟨g, cap, cur, rfl, hb, hg, rest⟩
    · exact .inl hn
    · exact .inr ⟨g, cap, cur, rfl, hb, (hw x y i xs _ g h0 rfl).trans hg, rest⟩
  · rcases hold r k i xs u hh with ⟨rfl, rfl⟩ | ⟨x, y, m, h0⟩
    · simp [Value.ownBlock] at e
    rcases hold r' k' i' xs' u' hh' with ⟨rfl, rfl⟩ | ⟨x', y', m', h0'⟩
    · simp [Value.ownBlock] at e'
    obtain ⟨rfl, rfl⟩ := h.sep x y i xs u x' y' i' xs' u' g h0 h0' e e'
    exact hM _ _ _ _ _ _ m m'
  · rcases hold r k i xs u hh with ⟨rfl, rfl⟩ | ⟨x, y, _, h0⟩
    · simp [Value.ownBlock] at e
    obtain ⟨_, hb0, _⟩ := blk b ty cells hb
    exact h.apart x y i xs u g b _ _ h0 e hb0

/-- A slot is set to what owns nothing. -/
theorem Rel.put {n : Nat} {F0 Wr : Nat → Nat → Prop} {w0 : Base} {loc : Nat → Nat} {F : Nat → Nat → Prop} {σ : St E.A} {a : Act} {w : World}
    (h : Rel n F0 Wr w0 loc F σ a w) {d : Nat} (hd : d < n) {x : RV E.A} {v : Value} (hx : RVR loc F w x v) (hf : x.free)
    (hl : ∀ b ∈ x.names, ∃ ty cells, get σ (bk b) = .blk ty cells) : Rel n F0 Wr w0 loc F ((d, x) :: σ) (a.put (some d) v) w := by
  have hds : d < a.tmps.size := by rw [h.size]; exact hd
  have hb : ∀ b, get ((d, x) :: σ) (bk b) = get σ (bk b) := fun b => by rw [get_cons, if_neg (fun e => bk_ne_slot h.n_le hd e.symm)]
  refine h.move (M := fun r k x y => r = x ∧ k = y) (by simp [Act.put, h.size]) h.defers (fun t ht ht' => by rw [get_cons, if_neg (by omega)]; exact h.hi t ht ht') (fun t ht => ?_) (fun b ty cells hc => ?_) (fun r hr b hbn => ?_)
    (fun r k r' k' x y m m' => ⟨m.1.trans m'.1.symm, m.2.trans m'.2.symm⟩) (fun r k i xs u hh => .inr ⟨r, k, ⟨rfl, rfl⟩, ?_⟩) (fun _ _ _ _ _ _ _ _ => rfl) h.keep (Nat.le_refl _)
  · rw [get_cons, put_get a d t v hds]
    by_cases e : d = t
    · rw [if_pos e, if_pos e]; exact hx
    · rw [if_neg e, if_neg e]; exact h.slot t ht
  · rw [hb] at hc
    obtain ⟨cs, h1, h2, _⟩ := h.blk b ty cells hc
    exact ⟨cells, hc, cs, h1, h2⟩
  · rw [hb]
    rw [get_cons] at hbn
    by_cases e : d = r
    · rw [if_pos e] at hbn; exact hl b hbn
    · rw [if_neg e] at hbn; exact h.live r hr b hbn
  · cases hh with
    | slot t i xs ht hg =>
      rw [get_cons] at hg
      by_cases e : d = r
      · rw [if_pos e] at hg; subst hg; simp [RV.free] at hf
      · rw [if_neg e] at hg; rw [put_get a d r v hds, if_neg e]; exact .slot _ _ _ ht hg
    | tup t k i xs ts us u ht hg hk hv hu =>
      rw [get_cons] at hg
      by_cases e : d = r
      · rw [if_pos e] at hg; subst hg
        have := hf _ (List.mem_of_getElem? hk)
        simp at this
      · rw [if_neg e] at hg; rw [put_get a d r v hds, if_neg e] at hv; exact .tup _ _ _ _ _ _ _ ht hg hk hv hu
    | blk b k i xs ty cells u hg hk hu => rw [hb] at hg; exact .blk _ _ _ _ _ _ _ hg hk hu
end Go.Rf
end
section
namespace Go.Rf
open Go.RowKit
variable {E : Env} {P : Program}

def zeroOk : LT → Value → Prop
  | .int k, v => v = .int k 0
  | .bool, v => v = .bool false
  | .str, v => v = .string ⟨#[]⟩
  | .nil, _ => False
  | .sl _, v => v = .slice none 0 0
  | .err, v => v = .nilIface
  | .fn, v => v = .nilFunc
  | .ptr, v => v = .pointer none
  | .self, v => v = .pointer none
def ElemOk (P : Program) (E : Env) (i : Nat) : Prop :=
  ∃ info z, P.info? (E.elem i) = some info ∧ info.size = sz E i ∧ info.bytes = E.bytes i ∧ info.zero = some z ∧ z.cells.size = sz E i ∧ 0 < E.bytes i
def descOk (P : Program) (E : Env) : LT → TypeDesc → Prop
  | .int k, d => d = .int k
  | .bool, d => d = .bool
  | .str, d => d = .string
  | .nil, _ => False
  | .sl i, d => d = .slice (E.elem i) ∧ ElemOk P E i ∧ (i = 0 → P.underlying (E.elem 0) = some (.int .u8))
  | .err, d => ∃ ms, d = .interface ms
  | .fn, d => ∃ a b c, d = .func a b c
  | .ptr, d => ∃ e, d = .pointer e
  | .self, _ => False
def TyOk (P : Program) (E : Env) (t : TypeId) : Ty → Prop
  | .leaf l => ∃ d info z, P.underlying t = some d ∧ descOk P E l d ∧ P.info? t = some info ∧ info.size = 1 ∧ info.zero = some z ∧ zeroOk l z
  | .agg ls fs => ∃ flds info zs, P.underlying t = some (.struct flds) ∧ P.info? t = some info ∧ info.size = ls.length ∧ info.zero = some (.agg zs) ∧ All2 zeroOk ls zs.toList ∧
      flds.toList.map (fun f => (f.offset, f.type)) = fs ∧ (∀ f ∈ flds.toList, ∃ fi, P.info? f.type = some fi ∧ fi.size ≠ 0) ∧ P.stoodInHeld t = false ∧ P.eqGuardType P.depth t = false ∧ ∀ f ∈ flds.toList, f.name ≠ "_"
def TTOk (P : Program) (E : Env) (tt : TT) : Prop := ∀ t ty, ttGet tt t = some ty → TyOk P E t ty

section
variable {n : Nat} {F0 Wr : Nat → Nat → Prop} {w0 : Base} {loc : Nat → Nat} {F : Nat → Nat → Prop} {σ : St E.A} {a : Act} {w : World}
/-- What the next operations find. -/
def Goal (n : Nat) (F0 Wr : Nat → Nat → Prop) (w0 : Base) (σ : St E.A) (a : Act) (w : World) : Prop := ∃ loc F, Rel n F0 Wr w0 loc F σ a w
def Live (σ : St E.A) (x : RV E.A) : Prop := ∀ b ∈ x.names, ∃ ty cells, get σ (bk b) = .blk ty cells

theorem constLeaf_ok {v : Value} {l : Leaf E.A} (h : constLeaf v = some l) : LV loc F w l v ∧ l.names = none := by
  unfold constLeaf at h
  split at h <;> first
    | (injection h with h; subst h; exact ⟨⟨1, by simp [VR]⟩, rfl⟩)
    | cases h
theorem constLeaves_ok : ∀ {vs : List Value} {ls : List (Leaf E.A)}, constLeaves vs = some ls → All2 (LV loc F w) ls vs ∧ ∀ l ∈ ls, l.names = none
  | [], ls, h => by simp [constLeaves] at h; subst h; exact ⟨trivial, by simp⟩
  | v :: vs, ls, h => by
    simp only [constLeaves] at h
    split at h
    · rename_i l ls' h1 h2
      injection h with h; subst h
      obtain ⟨a1, a2⟩ := constLeaf_ok (loc := loc) (F := F) (w := w) h1
      obtain ⟨b1, b2⟩ := constLeaves_ok (vs := vs) h2
      exact ⟨⟨a1, b1⟩, by intro l' hl; rcases List.mem_cons.1 hl with rfl | hl; exact a2; exact b2 _ hl⟩
    · cases h
theorem constRV_ok {v : Value} {x : RV E.A} (h : constRV v = some x) : RVR loc F w x v ∧ x.names = [] ∧ x.free := by
  have key : ∀ v, (constLeaf v).map (fun l => RV.v (.leaf l false)) = some x → RVR loc F w x v ∧ x.names = [] ∧ x.free := by
    intro v h
    obtain ⟨l, hl, rfl⟩ := Option.map_eq_some_iff.1 h
    obtain ⟨h1, h2⟩ := constLeaf_ok (loc := loc) (F := F) (w := w) hl
    exact ⟨h1, by simp [RV.names, TV.names, h2], rfl⟩
  unfold constRV at h
  split at h
  · injection h with h; subst h; exact ⟨rfl, rfl, trivial⟩
  · rename_i cs
    obtain ⟨ls, hl, rfl⟩ := Option.map_eq_some_iff.1 h
    obtain ⟨h1, h2⟩ := constLeaves_ok (loc := loc) (F := F) (w := w) hl
    refine ⟨⟨cs, rfl, h1⟩, ?_, trivial⟩
    simp only [RV.names, TV.names]
    rw [List.filterMap_eq_nil_iff]
    exact h2
  · exact key _ h

/-- An operand is read. -/
theorem rdO_ok (h : Rel n F0 Wr w0 loc F σ a w) {α : Type} {x : Operand} {k : RV E.A → Rd E.A α} {t : α} (hr : (rdO x k).run σ = some t) :
    ∃ rv, RVR loc F w rv (a.eval x) ∧ Live σ rv ∧ (k rv).run σ = some t ∧ (∀ s, x = .tmp s → rv = get σ s ∧ (s < n ∨ rv = .any)) ∧ ((∀ s, x ≠ .tmp s) → rv.free) := by
  cases x with
  | tmp s =>
    simp only [rdO] at hr
    cases hb : Nat.blt s 1000000 with
    | false => rw [hb] at hr; simp [Rd.run] at hr
    | true =>
      rw [hb] at hr
      simp only [cond_true, Rd.run] at hr
      have hs : Nat.lt s 1000000 := Nat.le_of_ble_eq_true hb
      by_cases hn : s < n
      · exact ⟨get σ s, h.slot s hn, h.live s (.inl hn), hr, (by intro s' e; injection e with e; subst e; exact ⟨rfl, .inl hn⟩), fun e => absurd rfl (e s)⟩
      · have ha : get σ s = .any := h.hi s (Nat.le_of_not_lt hn) hs
        refine ⟨get σ s, (by rw [ha]; trivial), (by rw [ha]; intro b hb; simp [RV.names] at hb), hr, (by intro s' e; injection e with e; subst e; exact ⟨rfl, .inr ha⟩), fun e => absurd rfl (e s)⟩
  | const v =>
    simp only [rdO] at hr
    cases hc : (constRV v : Option (RV E.A)) with
    | none => rw [hc] at hr; simp [Rd.run] at hr
    | some rv =>
      rw [hc] at hr
      obtain ⟨h1, h2, h3⟩ := constRV_ok (loc := loc) (F := F) (w := w) hc
      exact ⟨rv, h1, (by intro b hb; rw [h2] at hb; simp at hb), hr, (by intro s e; injection e), fun _ => h3⟩
  | func f => exact ⟨.v (.leaf ⟨.fn, some f⟩ false), show LV loc F w (⟨.fn, some f⟩ : Leaf E.A) (.func (.func f) #[] #[]) from ⟨1, rfl⟩, (by intro b hb; simp [RV.names, TV.names, Leaf.names] at hb), hr, (by intro s e; injection e), fun _ => rfl⟩
  | global g => simp [rdO, Rd.run] at hr
theorem tv_ok {rv : RV E.A} {tv : TV E.A} {v : Value} (h : rv.tv = some tv) (hr : RVR loc F w rv v) (hl : Live σ rv) : TVR loc F w tv v ∧ Live σ (.v tv) := by
  cases rv with
  | kn b => simp only [RV.tv] at h; injection h with h; subst h; exact ⟨⟨1, by simpa [VR, RVR] using hr⟩, by intro b hb; simp [RV.names, TV.names, Leaf.names] at hb⟩
  | v x => simp only [RV.tv] at h; injection h with h; subst h; exact ⟨hr, hl⟩
  | _ => cases h
theorem rdT_ok (h : Rel n F0 Wr w0 loc F σ a w) {α : Type} {x : Operand} {k : TV E.A → Rd E.A α} {t : α} (hr : (rdT x k).run σ = some t) :
    ∃ tv, TVR loc F w tv (a.eval x) ∧ Live σ (.v tv) ∧ (k tv).run σ = some t ∧ (∀ s, x = .tmp s → (get σ s).tv = some tv ∧ s < n) ∧ ((∀ s, x ≠ .tmp s) → (RV.v tv).free) := by
  obtain ⟨rv, h1, h2, h3, h4, h5⟩ := rdO_ok h hr
  cases htv : rv.tv with
  | none => rw [htv] at h3; simp [Rd.run] at h3
  | some tv =>
    rw [htv] at h3
    obtain ⟨a1, a2⟩ := tv_ok htv h1 h2
    refine ⟨tv, a1, a2, h3, fun s e => ?_, fun e => ?_⟩
    · obtain ⟨e1, e2⟩ := h4 s e
      refine ⟨e1 ▸ htv, ?_⟩
      rcases e2 with e2 | e2
      · exact e2
      · rw [e2] at htv; cases htv
    · have := h5 e
      cases rv with
      | kn b => simp only [RV.tv] at htv; injection htv with htv; subst htv; rfl
      | v x => simp only [RV.tv] at htv; injection htv with htv; subst htv; exact this
      | _ => cases htv
theorem one_run {dst : Option Tmp} {x : RV E.A} {t : Tree (Upd E)} (h : (one dst x).run σ = some t) : ∃ d, dst = some d ∧ t = .leaf [(d, x)] := by
  cases dst with
  | none => simp [one, Rd.run] at h
  | some d => simp [one, Rd.run] at h; exact ⟨d, rfl, h.symm⟩
theorem need_run {p : Prop} {x : Rd E.A (Tree (Upd E))} {t : Tree (Upd E)} (h : (need p x).run σ = some t) : ∃ t', x.run σ = some t' ∧ t = .req p t' := by
  cases x with
  | pure t' => simp [need, Rd.run] at h; exact ⟨t', rfl, h.symm⟩
  | _ => simp [need, Rd.run] at h
theorem wp_val {o : Oper} {K : Act → World → Prop} {Q : Exit → Act → World → Prop} {v : Value} {w' : World} (hr : (execOp a.eval o).run P w = .ok (.value v) w') (hk : K (a.put o.dst v) w') : o.wp P a w K Q := by
  unfold Oper.wp; rw [hr]; exact hk
/-- An operation that computes: one slot is set. -/
theorem wp_one (h : Rel n F0 Wr w0 loc F σ a w) {o : Oper} {Q : Exit → Act → World → Prop} {v : Value} {d : Nat} {x : RV E.A} (hd : o.dst = some d) (hn : d < n)
    (hr : (execOp a.eval o).run P w = .ok (.value v) w) (hx : RVR loc F w x v) (hf : x.free) (hl : Live σ x) : o.wp P a w (Goal n F0 Wr w0 ([(d, x)] ++ σ)) Q :=
  wp_val hr (by rw [hd]; exact ⟨loc, F, h.put hn hx hf hl⟩)
theorem live_nil {x : RV E.A} (h : x.names = []) : Live σ x := by intro b hb; rw [h] at hb; simp at hb
theorem VRint {k : IntKind} {m : Nat} {x : Int} {v : Value} (h : VR E F w m ⟨.int k, x⟩ v) : v = .int k x := by cases m with | zero => simp [VR] at h | succ m => exact h
theorem VRbool {m : Nat} {x : Bool} {v : Value} (h : VR E F w m ⟨.bool, x⟩ v) : v = .bool x := by cases m with | zero => simp [VR] at h | succ m => exact h
theorem VRstr {m : Nat} {x : List UInt8} {v : Value} (h : VR E F w m ⟨.str, x⟩ v) : v = .string ⟨x.toArray⟩ := by cases m with | zero => simp [VR] at h | succ m => exact h
theorem VRerr {m : Nat} {x : Bool} {v : Value} (h : VR E F w m ⟨.err, x⟩ v) : bif x then (∃ t u, v = .iface t u) else v = .nilIface := by cases m with | zero => simp [VR] at h | succ m => exact h
theorem VRnil {m : Nat} {x : Unit} {v : Value} (h : VR E F w m ⟨.nil, x⟩ v) : v = .slice none 0 0 := by cases m with | zero => simp [VR] at h | succ m => exact h
theorem VRfn {m : Nat} {f : Nat} {v : Value} (h : VR E F w m ⟨.fn, some f⟩ v) : v = .func (.func f) #[] #[] := by cases m with | zero => simp [VR] at h | succ m => exact h
theorem VRsl {m i : Nat} {xs : List (E.A i)} {v : Value} (h : VR E F w m ⟨.sl i, xs⟩ v) : ∃ k a c us, m = k + 1 ∧ v = .slice a xs.length c ∧ xs.length ≤ c ∧ All2 (VR E F w k) (flat E i xs) us ∧
      ∀ j u, us[j]? = some u → ∃ ad : Addr, a = some ad ∧ ad.spot = none ∧ w.cell? ⟨ad.block, ad.off + j, none⟩ = some u ∧ ¬ F ad.block (ad.off + j) := by
  cases m with
  | zero => simp [VR] at h
  | succ m => obtain ⟨a, c, us, h⟩ := h; exact ⟨m, a, c, us, rfl, h⟩
theorem LVint {k : IntKind} {x : Int} {v : Value} (h : LV (E := E) loc F w ⟨.int k, x⟩ v) : v = .int k x := by obtain ⟨m, h⟩ := h; exact VRint h
theorem LVbool {x : Bool} {v : Value} (h : LV (E := E) loc F w ⟨.bool, x⟩ v) : v = .bool x := by obtain ⟨m, h⟩ := h; exact VRbool h
theorem LVstr {x : List UInt8} {v : Value} (h : LV (E := E) loc F w ⟨.str, x⟩ v) : v = .string ⟨x.toArray⟩ := by obtain ⟨m, h⟩ := h; exact VRstr h
theorem LVnil {x : Unit} {v : Value} (h : LV (E := E) loc F w ⟨.nil, x⟩ v) : v = .slice none 0 0 := by obtain ⟨m, h⟩ := h; exact VRnil h
theorem LVerr {x : Bool} {v : Value} (h : LV (E := E) loc F w ⟨.err, x⟩ v) : bif x then (∃ t u, v = .iface t u) else v = .nilIface := by obtain ⟨m, h⟩ := h; exact VRerr h
theorem LVfn {f : Nat} {v : Value} (h : LV (E := E) loc F w ⟨.fn, some f⟩ v) : v = .func (.func f) #[] #[] := by obtain ⟨m, h⟩ := h; exact VRfn h
theorem LVptrN {v : Value} (h : LV (E := E) loc F w ⟨.ptr, none⟩ v) : v = .pointer none := by
  obtain ⟨m, h⟩ := h
  cases m with | zero => simp [VR] at h | succ m => exact h
theorem LV1 {l : Leaf E.A} {v : Value} (h : VR E F w 1 l v) : LV loc F w l v := LV_of h
theorem mkInt (k : IntKind) (x : Int) : RVR (E := E) loc F w (.v (.leaf ⟨.int k, x⟩ false)) (.int k x) := ⟨1, rfl⟩
theorem mkBool (x : Bool) : RVR (E := E) loc F w (.v (.leaf ⟨.bool, x⟩ false)) (.bool x) := ⟨1, rfl⟩
theorem mkStr (x : List UInt8) : RVR (E := E) loc F w (.v (.leaf ⟨.str, x⟩ false)) (.string ⟨x.toArray⟩) := ⟨1, rfl⟩
/-- What the op lemmas conclude. -/
theorem wp_of_one (h : Rel n F0 Wr w0 loc F σ a w) {o : Oper} {Q : Exit → Act → World → Prop} {t : Tree (Upd E)} {u : Upd E} {x : RV E.A} {v : Value} (hr : (one o.dst x).run σ = some t) (hu : t.reach u) (hn : ∀ d, o.dst = some d → d < n)
    (he : (execOp a.eval o).run P w = .ok (.value v) w) (hx : RVR loc F w x v) (hf : x.free) (hl : Live σ x) : o.wp P a w (Goal n F0 Wr w0 (u ++ σ)) Q := by
  obtain ⟨d, hd, rfl⟩ := one_run hr
  simp only [Tree.reach] at hu; subst hu
  exact wp_one h hd (hn d hd) he hx hf hl
theorem wp_of_bool (h : Rel n F0 Wr w0 loc F σ a w) {o : Oper} {Q : Exit → Act → World → Prop} {t : Tree (Upd E)} {u : Upd E} {b : Bool} (hr : (oneB o.dst b).run σ = some t) (hu : t.reach u) (hn : ∀ d, o.dst = some d → d < n)
    (he : (execOp a.eval o).run P w = .ok (.value (.bool b)) w) : o.wp P a w (Goal n F0 Wr w0 (u ++ σ)) Q := wp_of_one h hr hu hn he (mkBool b) rfl (live_nil rfl)
theorem wp_of_int (h : Rel n F0 Wr w0 loc F σ a w) {o : Oper} {Q : Exit → Act → World → Prop} {t : Tree (Upd E)} {u : Upd E} {k : IntKind} {x : Int} (hr : (oneI o.dst k x).run σ = some t) (hu : t.reach u) (hn : ∀ d, o.dst = some d → d < n)
    (he : (execOp a.eval o).run P w = .ok (.value (.int k x)) w) : o.wp P a w (Goal n F0 Wr w0 (u ++ σ)) Q := wp_of_one h hr hu hn he (mkInt k x) rfl (live_nil rfl)
end
end Go.Rf
end
section
set_option linter.unusedSimpArgs false
set_option linter.unusedVariables false
namespace Go.Rf
open Go.RowKit
variable {E : Env} {P : Program}
section
variable {n : Nat} {F0 Wr : Nat → Nat → Prop} {w0 : Base} {loc : Nat → Nat} {F : Nat → Nat → Prop} {σ : St E.A} {a : Act} {w : World} {Q : Exit → Act → World → Prop}
/-- What an answer asks for holds, and the machine gives it. -/
theorem wp_emit (h : Rel n F0 Wr w0 loc F σ a w) {o : Oper} {t : Tree (Upd E)} {u : Upd E} {r : Ans E} (hr : (emit o.dst r).run σ = some t) (hu : t.reach u) (hn : ∀ d, o.dst = some d → d < n)
    (he : ∀ q l, r = some (q, l) → (∀ p, q = some p → p) → l.names = none ∧ ∃ v, LV loc F w l v ∧ (execOp a.eval o).run P w = .ok (.value v) w) : o.wp P a w (Goal n F0 Wr w0 (u ++ σ)) Q := by
  match r, hr with
  | none, hr => simp [emit, Rd.run] at hr
  | some (none, l), hr =>
    obtain ⟨hnm, v, h1, h2⟩ := he none l rfl (by simp)
    exact wp_of_one h hr hu hn h2 h1 rfl (live_nil (by simp [RV.names, TV.names, hnm]))
  | some (some p, l), hr =>
    obtain ⟨t', h1', rfl⟩ := need_run hr
    obtain ⟨hnm, v, h1, h2⟩ := he (some p) l rfl (by rintro _ ⟨rfl⟩; exact hu.1)
    exact wp_of_one h h1' hu.2 hn h2 h1 rfl (live_nil (by simp [RV.names, TV.names, hnm]))
theorem run_bin {o : Oper} {op : BinOp} {xt yt : TypeId} {x y : Operand} (ho : o.op = .binOp op xt x y yt) {v : Value}
    (hv : (do eqGuard op xt x y (a.eval x) (a.eval y); binOp op xt (a.eval x) (a.eval y) : Sem Value).run P w = .ok v w) : (execOp a.eval o).run P w = .ok (.value v) w := by
  unfold execOp; rw [ho]; simp only [Sem.run_bind] at hv ⊢
  simp only [hv, Result.andThen_ok, Sem.run_pure]
theorem int_run {op : BinOp} {k : IntKind} {m l : Int} {xt : TypeId} {x y : Operand} {q : Option Prop} {r : Leaf E.A} (hr : intBin op k m l = some (q, r)) (hq : ∀ p, q = some p → p) :
    r.names = none ∧ ∃ v, LV loc F w r v ∧ (do eqGuard op xt x y (.int k m) (.int k l); binOp op xt (.int k m) (.int k l) : Sem Value).run P w = .ok v w := by
  cases op <;> simp only [intBin, Option.some.injEq, Prod.mk.injEq, reduceCtorEq] at hr <;> obtain ⟨rfl, rfl⟩ := hr
  case quo => exact ⟨rfl, _, ⟨1, rfl⟩, by have := hq _ rfl; simp [eqGuard, binOp, Op.intDiv, this]⟩
  case rem => exact ⟨rfl, _, ⟨1, rfl⟩, by have := hq _ rfl; simp [eqGuard, binOp, Op.intDiv, this]⟩
  all_goals exact ⟨rfl, _, ⟨1, rfl⟩, by simp [eqGuard, binOp, Op.intArith, Op.intCmp, Op.intBits, bitsOp]⟩
theorem shift_run {op : BinOp} {k k' : IntKind} {m l : Int} {xt : TypeId} {x y : Operand} {q : Option Prop} {r : Leaf E.A} (hr : shiftBin op k m l = some (q, r)) (hq : ∀ p, q = some p → p) :
    r.names = none ∧ ∃ v, LV loc F w r v ∧ (do eqGuard op xt x y (.int k m) (.int k' l); binOp op xt (.int k m) (.int k' l) : Sem Value).run P w = .ok v w := by
  cases op <;> simp only [shiftBin, Option.some.injEq, Prod.mk.injEq, reduceCtorEq] at hr <;> obtain ⟨rfl, rfl⟩ := hr
  all_goals
    have hl := hq _ rfl
    have hl' : ¬ l < 0 := by omega
    exact ⟨rfl, _, ⟨1, rfl⟩, by simp [eqGuard, binOp, Op.shift, hl']⟩
theorem toList_mk (l : List UInt8) : (ByteArray.mk l.toArray).toList = l := by rw [ByteArray.toList_eq]
theorem size_mk (l : List UInt8) : (ByteArray.mk l.toArray).size = l.length := by simp [ByteArray.size]
theorem append_mk (l m : List UInt8) : ByteArray.mk l.toArray ++ ByteArray.mk m.toArray = ByteArray.mk (l ++ m).toArray := by
  apply ByteArray.ext
  simp [ByteArray.data_append]
theorem str_run {op : BinOp} {m l : List UInt8} {xt : TypeId} {x y : Operand} {q : Option Prop} {r : Leaf E.A} (hr : strBin op m l = some (q, r)) (hq : ∀ p, q = some p → p) :
    r.names = none ∧ ∃ v, LV loc F w r v ∧ (do eqGuard op xt x y (.string ⟨m.toArray⟩) (.string ⟨l.toArray⟩); binOp op xt (.string ⟨m.toArray⟩) (.string ⟨l.toArray⟩) : Sem Value).run P w = .ok v w := by
  cases op <;> simp only [strBin, Option.some.injEq, Prod.mk.injEq, reduceCtorEq] at hr <;> obtain ⟨rfl, rfl⟩ := hr
  case add =>
    have hl := hq _ rfl
    refine ⟨rfl, .string ⟨(m ++ l).toArray⟩, ⟨1, rfl⟩, ?_⟩
    have h1 : ¬ (((ByteArray.mk m.toArray).size + (ByteArray.mk l.toArray).size : Nat) : Int) > IntKind.i64.max := by
      rw [size_mk, size_mk, IntKind.max_i64]; omega
    simp only [eqGuard, binOp, Op.stringOp, if_neg h1, append_mk]
    simp
  all_goals exact ⟨rfl, _, ⟨1, rfl⟩, by simp [eqGuard, binOp, Op.stringOp, toList_mk]⟩
theorem eq_run {op : BinOp} {b : Bool} {xt : TypeId} {x y : Operand} {v1 v2 : Value} {q : Option Prop} {r : Leaf E.A} (hr : eqBin op b = some (q, r))
    (hg : (eqGuard op xt x y v1 v2).run P w = .ok () w) (he : (Op.equal xt v1 v2).run P w = .ok b w) (hne : ∀ op, op = .eql ∨ op = .neq → binOp op xt v1 v2 = (match op with | .eql => (do pure (.bool (← Op.equal xt v1 v2)) : Sem Value) | _ => (do pure (.bool (!(← Op.equal xt v1 v2))) : Sem Value))) :
    r.names = none ∧ ∃ v, LV loc F w r v ∧ (do eqGuard op xt x y v1 v2; binOp op xt v1 v2 : Sem Value).run P w = .ok v w := by
  cases op <;> simp only [eqBin, Option.some.injEq, Prod.mk.injEq, reduceCtorEq] at hr <;> obtain ⟨rfl, rfl⟩ := hr
  · refine ⟨rfl, .bool b, ⟨1, rfl⟩, ?_⟩
    rw [hne .eql (.inl rfl)]
    simp [hg, he]
  · refine ⟨rfl, .bool (!b), ⟨1, rfl⟩, ?_⟩
    rw [hne .neq (.inr rfl)]
    simp [hg, he]
theorem equal_step (xt : TypeId) (v1 v2 : Value) : Op.equal xt v1 v2 = Op.equalIn (9999 + 1) xt v1 v2 := rfl
theorem eq_bool {xt : TypeId} (hx : P.underlying xt = some .bool) (b c : Bool) : (Op.equal xt (.bool b) (.bool c)).run P w = .ok (b == c) w := by
  rw [equal_step, Op.equalIn]; simp [run_underlying hx]
theorem eq_ptr {xt e : TypeId} (hx : P.underlying xt = some (.pointer e)) (ad : Addr) : (Op.equal xt (.pointer (some ad)) (.pointer none)).run P w = .ok false w := by
  rw [equal_step, Op.equalIn]; simp [run_underlying hx]
theorem eq_if1 {xt : TypeId} {ms} (hx : P.underlying xt = some (.interface ms)) : (Op.equal xt .nilIface .nilIface).run P w = .ok true w := by
  rw [equal_step, Op.equalIn]; simp [run_underlying hx]
theorem eq_if2 {xt : TypeId} {ms} (hx : P.underlying xt = some (.interface ms)) (t : TypeId) (u : Value) : (Op.equal xt .nilIface (.iface t u)).run P w = .ok false w := by
  rw [equal_step, Op.equalIn]; simp [run_underlying hx]
theorem eq_if3 {xt : TypeId} {ms} (hx : P.underlying xt = some (.interface ms)) (t : TypeId) (u : Value) : (Op.equal xt (.iface t u) .nilIface).run P w = .ok false w := by
  rw [equal_step, Op.equalIn]; simp [run_underlying hx]
theorem leaf_run {op : BinOp} {ty : Ty} {xt : TypeId} {x y : Operand} {l1 l2 : Leaf E.A} {v1 v2 : Value} {q : Option Prop} {r : Leaf E.A} (hty : TyOk P E xt ty) (h1 : LV loc F w l1 v1) (h2 : LV loc F w l2 v2)
    (hr : leafBin op ty l1 l2 = some (q, r)) (hq : ∀ p, q = some p → p) :
    r.names = none ∧ ∃ v, LV loc F w r v ∧ (do eqGuard op xt x y v1 v2; binOp op xt v1 v2 : Sem Value).run P w = .ok v w := by
  unfold leafBin at hr
  split at hr
  · have e1 := LVint h1; have e2 := LVint h2; subst e1; subst e2
    rename_i k m k' l
    cases hs : isShift op with
    | true => rw [hs] at hr; exact shift_run hr hq
    | false =>
      rw [hs] at hr
      simp only [cond_false] at hr
      split at hr
      · rename_i e; subst e; exact int_run hr hq
      · cases hr
  · have e1 := LVstr h1; have e2 := LVstr h2; subst e1; subst e2; exact str_run hr hq
  · have e1 := LVbool h1; have e2 := LVbool h2; subst e1; subst e2
    split at hr
    · obtain ⟨d, info, z, hu, hd, _⟩ := hty
      simp only [descOk] at hd; subst hd
      exact eq_run hr (by cases op <;> rfl) (eq_bool hu _ _) (by rintro op (rfl | rfl) <;> rfl)
    · cases hr
  · rename_i p
    have e1 : v1 = .pointer (some ⟨loc p.1, p.2, none⟩) := h1
    have e2 := LVptrN h2; subst e1; subst e2
    split at hr
    · obtain ⟨d, info, z, hu, hd, _⟩ := hty
      simp only [descOk] at hd; obtain ⟨e, rfl⟩ := hd
      exact eq_run hr (by cases op <;> rfl) (eq_ptr hu _) (by rintro op (rfl | rfl) <;> rfl)
    · cases hr
  · cases hr
theorem err_run {op : BinOp} {xt : TypeId} {x y : Operand} {b c r0 : Bool} {v1 v2 : Value} {q : Option Prop} {r : Leaf E.A} (hty : TyOk P E xt (.leaf .err)) (h1 : LV (E := E) loc F w ⟨.err, b⟩ v1) (h2 : LV (E := E) loc F w ⟨.err, c⟩ v2)
    (hc : (v1 = .nilIface ∧ isConst x = true ∧ r0 = !c) ∨ (v2 = .nilIface ∧ isConst y = true ∧ r0 = !b))
    (hr : eqBin op r0 = some (q, r)) :
    r.names = none ∧ ∃ v, LV loc F w r v ∧ (do eqGuard op xt x y v1 v2; binOp op xt v1 v2 : Sem Value).run P w = .ok v w := by
  obtain ⟨d, info, z, hu, hd, _⟩ := hty
  simp only [descOk] at hd; obtain ⟨ms, rfl⟩ := hd
  have e1 := LVerr h1; have e2 := LVerr h2
  rcases hc with ⟨rfl, hx, rfl⟩ | ⟨rfl, hy, rfl⟩
  · obtain ⟨cv, rfl⟩ : ∃ cv, x = .const cv := by cases x <;> simp [isConst] at hx; exact ⟨_, rfl⟩
    cases c with
    | true => simp at e2; obtain ⟨t, u, rfl⟩ := e2; exact eq_run hr (by cases op <;> rfl) (eq_if2 hu t u) (by rintro op (rfl | rfl) <;> rfl)
    | false => simp at e2; subst e2; exact eq_run hr (by cases op <;> rfl) (eq_if1 hu) (by rintro op (rfl | rfl) <;> rfl)
  · obtain ⟨cv, rfl⟩ : ∃ cv, y = .const cv := by cases y <;> simp [isConst] at hy; exact ⟨_, rfl⟩
    cases b with
    | true => simp at e1; obtain ⟨t, u, rfl⟩ := e1; exact eq_run hr (by cases op <;> rfl) (eq_if3 hu t u) (by rintro op (rfl | rfl) <;> rfl)
    | false => simp at e1; subst e1; exact eq_run hr (by cases op <;> cases x <;> rfl) (eq_if1 hu) (by rintro op (rfl | rfl) <;> rfl)
end
end Go.Rf
end
section
set_option linter.unusedSimpArgs false
set_option linter.unusedVariables false
namespace Go.Rf
open Go.RowKit
variable {E : Env} {P : Program}
section
variable {n : Nat} {F0 Wr : Nat → Nat → Prop} {w0 : Base} {loc : Nat → Nat} {F : Nat → Nat → Prop} {σ : St E.A} {a : Act} {w : World} {Q : Exit → Act → World → Prop}
variable {o : Oper} {t : Tree (Upd E)} {u : Upd E} {ctx : Ctx E}
theorem ex_unOp {op : UnOp} {xt : TypeId} {x : Operand} {v : Value} {w' : World} (ho : o.op = .unOp op xt x) (hv : (Op.unary op (a.eval x)).run P w = .ok v w') : (execOp a.eval o).run P w = .ok (.value v) w' := by
  unfold execOp; rw [ho]; simp only [Sem.run_bind, hv, Result.andThen_ok, Sem.run_pure]
theorem ex_index {xt : TypeId} {x i : Operand} {v : Value} {w' : World} (ho : o.op = .index xt x i) (hv : (Instr.index xt (a.eval x) (a.eval i)).run P w = .ok v w') : (execOp a.eval o).run P w = .ok (.value v) w' := by
  unfold execOp; rw [ho]; simp only [Sem.run_bind, hv, Result.andThen_ok, Sem.run_pure]
theorem ex_makeInterface {xt : TypeId} {x : Operand} {v : Value} {w' : World} (ho : o.op = .makeInterface xt x) (hv : (Instr.makeInterface xt (a.eval x)).run P w = .ok v w') : (execOp a.eval o).run P w = .ok (.value v) w' := by
  unfold execOp; rw [ho]; simp only [Sem.run_bind, hv, Result.andThen_ok, Sem.run_pure]
theorem ex_convert {s d : TypeId} {x : Operand} {v : Value} {w' : World} (ho : o.op = .convert s d x) (hv : (Go.convert s d (a.eval x)).run P w = .ok v w') : (execOp a.eval o).run P w = .ok (.value v) w' := by
  unfold execOp; rw [ho]; simp only [Sem.run_bind, hv, Result.andThen_ok, Sem.run_pure]
theorem ex_alloc {e : TypeId} {v : Value} {w' : World} (ho : o.op = .alloc e) (hv : (Instr.alloc e true (.tuple #[])).run P w = .ok v w') : (execOp a.eval o).run P w = .ok (.value v) w' := by
  unfold execOp; rw [ho]; simp only [Sem.run_bind, hv, Result.andThen_ok, Sem.run_pure]
theorem ex_box {e : TypeId} {x : Operand} {v : Value} {w' : World} (ho : o.op = .box e x) (hv : (Instr.box e (a.eval x)).run P w = .ok v w') : (execOp a.eval o).run P w = .ok (.value v) w' := by
  unfold execOp; rw [ho]; simp only [Sem.run_bind, hv, Result.andThen_ok, Sem.run_pure]
theorem ex_build {s : TypeId} {parts : Array (Nat × Operand)} {v : Value} {w' : World} (ho : o.op = .build s parts) (hv : (Instr.build s (parts.map fun (i, x) => (i, a.eval x))).run P w = .ok v w') : (execOp a.eval o).run P w = .ok (.value v) w' := by
  unfold execOp; rw [ho]; simp only [Sem.run_bind, hv, Result.andThen_ok, Sem.run_pure]
theorem ex_buildSlice {s : TypeId} {l : Nat} {parts : Array (Nat × Operand)} {v : Value} {w' : World} (ho : o.op = .buildSlice s l parts) (hv : (Instr.buildSlice s l (parts.map fun (i, x) => (i, a.eval x))).run P w = .ok v w') : (execOp a.eval o).run P w = .ok (.value v) w' := by
  unfold execOp; rw [ho]; simp only [Sem.run_bind, hv, Result.andThen_ok, Sem.run_pure]
theorem ex_load {s : TypeId} {x : Operand} {v : Value} {w' : World} (ho : o.op = .load s x) (hv : (Instr.loadAt s (a.eval x)).run P w = .ok v w') : (execOp a.eval o).run P w = .ok (.value v) w' := by
  unfold execOp; rw [ho]; simp only [Sem.run_bind, hv, Result.andThen_ok, Sem.run_pure]
theorem ex_slice {s : TypeId} {x : Operand} {lo hi mx : Option Operand} {v : Value} {w' : World} (ho : o.op = .slice s x lo hi mx) (hv : (Instr.sliceAt s (a.eval x) (lo.map a.eval) (hi.map a.eval) (mx.map a.eval)).run P w = .ok v w') : (execOp a.eval o).run P w = .ok (.value v) w' := by
  unfold execOp; rw [ho]; simp only [Sem.run_bind, hv, Result.andThen_ok, Sem.run_pure]
theorem ex_fieldAddr {s : TypeId} {x : Operand} {f : Nat} {v : Value} {w' : World} (ho : o.op = .fieldAddr s x f) (hv : (Instr.fieldAt s (a.eval x) f).run P w = .ok v w') : (execOp a.eval o).run P w = .ok (.value v) w' := by
  unfold execOp; rw [ho]; simp only [Sem.run_bind, hv, Result.andThen_ok, Sem.run_pure]
theorem ex_field {s : TypeId} {x : Operand} {f : Nat} {v : Value} {w' : World} (ho : o.op = .field s x f) (hv : (Instr.field s (a.eval x) f).run P w = .ok v w') : (execOp a.eval o).run P w = .ok (.value v) w' := by
  unfold execOp; rw [ho]; simp only [Sem.run_bind, hv, Result.andThen_ok, Sem.run_pure]
theorem ex_indexAddr {s : TypeId} {x i : Operand} {v : Value} {w' : World} (ho : o.op = .indexAddr s x i) (hv : (Instr.indexAt s (a.eval x) (a.eval i)).run P w = .ok v w') : (execOp a.eval o).run P w = .ok (.value v) w' := by
  unfold execOp; rw [ho]; simp only [Sem.run_bind, hv, Result.andThen_ok, Sem.run_pure]
theorem ex_extract {x : Operand} {i : Nat} {v : Value} {w' : World} (ho : o.op = .extract x i) (hv : (Instr.extract (a.eval x) i).run P w = .ok v w') : (execOp a.eval o).run P w = .ok (.value v) w' := by
  unfold execOp; rw [ho]; simp only [Sem.run_bind, hv, Result.andThen_ok, Sem.run_pure]
theorem ex_store {s : TypeId} {x y : Operand} {w' : World} (ho : o.op = .store s x y) (hv : (Instr.storeAt s (a.eval x) (a.eval y)).run P w = .ok () w') : (execOp a.eval o).run P w = .ok .skip w' := by
  unfold execOp; rw [ho]; simp only [Sem.run_bind, hv, Result.andThen_ok, Sem.run_pure]
theorem ex_move {x : Operand} (ho : o.op = .move x) : (execOp a.eval o).run P w = .ok (.value (a.eval x)) w := by unfold execOp; rw [ho]; rfl
theorem ex_assign {x : Operand} (ho : o.op = .assign x) : (execOp a.eval o).run P w = .ok (.value (a.eval x)) w := by unfold execOp; rw [ho]; rfl
theorem ex_pick {c x y : Operand} {b : Bool} (ho : o.op = .pick c x y) (hc : a.eval c = .bool b) : (execOp a.eval o).run P w = .ok (.value (bif b then a.eval x else a.eval y)) w := by
  unfold execOp; rw [ho]; simp only [hc, asBool]; cases b <;> rfl
theorem ex_nilCheck {x : Operand} {v : Value} (ho : o.op = .nilCheck x) (hx : a.eval x = v) (hv : (∃ ad, v = .pointer (some ad)) ∨ ∃ f, v = .func (.func f) #[] #[]) : (execOp a.eval o).run P w = .ok (.value v) w := by
  unfold execOp; rw [ho]; simp only [hx]
  rcases hv with ⟨ad, rfl⟩ | ⟨f, rfl⟩ <;> rfl
theorem un_ok (h : Rel n F0 Wr w0 loc F σ a w) {op : UnOp} {xt : TypeId} {x : Operand} (ho : o.op = .unOp op xt x) (hr : (sUn op o.dst x).run σ = some t) (hu : t.reach u) (hn : ∀ d, o.dst = some d → d < n) :
    o.wp P a w (Goal n F0 Wr w0 (u ++ σ)) Q := by
  unfold sUn at hr
  split at hr
  · obtain ⟨rv, h1, h2, h3, hx4⟩ := rdO_ok h hr
    split at h3
    · exact wp_of_one h h3 hu hn (ex_unOp ho (by rw [show a.eval x = .bool _ from h1]; rfl)) rfl trivial (live_nil rfl)
    · have e := LVbool (loc := loc) h1
      exact wp_of_bool h h3 hu hn (ex_unOp ho (by rw [e]; rfl))
    · simp [Rd.run] at h3
  · obtain ⟨tv, h1, h2, h3, hx4⟩ := rdT_ok h hr
    split at h3
    · have e := LVint (loc := loc) h1
      exact wp_of_int h h3 hu hn (ex_unOp ho (by rw [e]; rfl))
    · simp [Rd.run] at h3
  · simp [Rd.run] at hr
theorem intIx_ok (h : Rel n F0 Wr w0 loc F σ a w) {x : Operand} {k : Int → Rd E.A (Tree (Upd E))} (hr : (intIx x k).run σ = some t) : ∃ kd i, a.eval x = .int kd i ∧ (k i).run σ = some t := by
  unfold intIx at hr
  obtain ⟨tv, h1, h2, h3, hx4⟩ := rdT_ok h hr
  split at h3
  · exact ⟨_, _, LVint (loc := loc) h1, h3⟩
  · simp [Rd.run] at h3
theorem optIx_ok (h : Rel n F0 Wr w0 loc F σ a w) {x : Option Operand} {d : Int} {k : Int → Rd E.A (Tree (Upd E))} (hr : (optIx x d k).run σ = some t) :
    (x = none ∧ (k d).run σ = some t) ∨ ∃ y kd i, x = some y ∧ a.eval y = .int kd i ∧ (k i).run σ = some t := by
  cases x with
  | none => exact .inl ⟨rfl, hr⟩
  | some y => obtain ⟨kd, i, h1, h2⟩ := intIx_ok h hr; exact .inr ⟨y, kd, i, rfl, h1, h2⟩
theorem index_ok (h : Rel n F0 Wr w0 loc F σ a w) (htt : TTOk P E ctx.tt) {xt : TypeId} {x ix : Operand} (ho : o.op = .index xt x ix) (hr : (sIndex ctx o.dst xt x ix).run σ = some t) (hu : t.reach u) (hn : ∀ d, o.dst = some d → d < n) :
    o.wp P a w (Goal n F0 Wr w0 (u ++ σ)) Q := by
  unfold sIndex at hr
  split at hr
  · rename_i hty
    obtain ⟨tv, h1, h2, h3, hx4⟩ := rdT_ok h hr
    split at h3
    · rename_i s ow
      obtain ⟨kd, i, e2, h4⟩ := intIx_ok h h3
      obtain ⟨t', h5, rfl⟩ := need_run h4
      obtain ⟨⟨hp1, hp2⟩, hu'⟩ := hu
      have e1 := LVstr (loc := loc) h1
      obtain ⟨d, info, z, hud, hd, _⟩ := htt _ _ hty
      simp only [descOk] at hd; subst hd
      refine wp_of_int h h5 hu' hn ?_
      refine ex_index ho ?_
      rw [e1, e2]
      have hg : (ByteArray.mk s.toArray)[i.toNat]? = some (s.getD i.toNat 0) := by
        have hlt : i.toNat < s.length := by omega
        have hs : i.toNat < (ByteArray.mk s.toArray).size := by rw [size_mk]; exact hlt
        rw [getElem?_pos (ByteArray.mk s.toArray) i.toNat hs]
        congr 1
        show (s.toArray)[i.toNat] = _
        simp [List.getD, List.getElem?_eq_getElem hlt]
      simp [Instr.index, asIntOf, run_underlying hud, hp1, hg]
    · simp [Rd.run] at h3
  · simp [Rd.run] at hr
theorem makeIface_ok (h : Rel n F0 Wr w0 loc F σ a w) (htt : TTOk P E ctx.tt) {xt : TypeId} {x : Operand} (ho : o.op = .makeInterface xt x) {ty : Ty} (hty : ttGet ctx.tt xt = some ty) (hne : ty ≠ .leaf .err)
    (hr : (one o.dst (.v (.leaf ⟨.err, true⟩ false))).run σ = some t) (hu : t.reach u) (hn : ∀ d, o.dst = some d → d < n) : o.wp P a w (Goal n F0 Wr w0 (u ++ σ)) Q := by
  have key : ∃ d, P.underlying xt = some d ∧ ∀ ms, d ≠ .interface ms := by
    have := htt _ _ hty
    cases ty with
    | leaf l =>
      obtain ⟨d, info, z, hud, hd, _⟩ := this
      refine ⟨d, hud, fun ms e => ?_⟩
      subst e
      cases l <;> simp [descOk] at hd hne
    | agg ls fs => obtain ⟨flds, info, zs, hud, _⟩ := this; exact ⟨_, hud, fun ms e => by cases e⟩
  obtain ⟨d, hud, hd⟩ := key
  refine wp_of_one h (x := .v (.leaf ⟨.err, true⟩ false)) (v := .iface xt (a.eval x)) hr hu hn ?_ ⟨1, by simp [VR]⟩ rfl (live_nil rfl)
  refine ex_makeInterface ho ?_
  simp only [Instr.makeInterface, Sem.run_bind, run_underlying hud, Result.andThen_ok]
  cases d <;> first | rfl | exact absurd rfl (hd _)
theorem names_leaf_nil {i : Nat} {xs : List (E.A i)} : (⟨.sl i, xs⟩ : Leaf E.A).names = none := rfl
theorem nilCheck_ok (h : Rel n F0 Wr w0 loc F σ a w) {x : Operand} (ho : o.op = .nilCheck x) (hr : (sNilCheck o.dst x).run σ = some t) (hu : t.reach u) (hn : ∀ d, o.dst = some d → d < n) :
    o.wp P a w (Goal n F0 Wr w0 (u ++ σ)) Q := by
  unfold sNilCheck at hr
  obtain ⟨rv, h1, h2, h3, hx4⟩ := rdO_ok h hr
  split at h3
  · rename_i p _
    have e : a.eval x = .pointer (some ⟨loc p.1, p.2, none⟩) := h1
    exact wp_of_one h h3 hu hn (ex_nilCheck ho e (.inl ⟨_, rfl⟩)) (show LV loc F w (⟨.ptr, some p⟩ : Leaf E.A) _ from rfl) rfl h2
  · rename_i p _
    have e := LVfn (loc := loc) h1
    exact wp_of_one h h3 hu hn (ex_nilCheck ho e (.inr ⟨_, rfl⟩)) (show LV loc F w (⟨.fn, some p⟩ : Leaf E.A) _ from ⟨1, rfl⟩) rfl (live_nil rfl)
  · have h1' := h1
    obtain ⟨ad, c, m, h4, h5, e⟩ := h1
    exact wp_of_one h h3 hu hn (ex_nilCheck ho e (.inl ⟨_, rfl⟩)) ⟨ad, c, m, h4, h5, rfl⟩ trivial (live_nil rfl)
  · simp [Rd.run] at h3
end
end Go.Rf
end
section
set_option linter.unusedSimpArgs false
set_option linter.unusedVariables false
namespace Go.Rf
open Go.RowKit
variable {E : Env} {P : Program}
section
variable {n : Nat} {F0 Wr : Nat → Nat → Prop} {w0 : Base} {loc : Nat → Nat} {F F' : Nat → Nat → Prop} {σ : St E.A} {a : Act} {w w' : World}
/-- The world has moved on; what is owned and the variables lie as they lay. -/
theorem Rel.world (h : Rel n F0 Wr w0 loc F σ a w) (hm : Mv F w F' w')
    (hown : ∀ r k i xs u g, Hold loc n σ a w r k i xs u → u.ownBlock = some g → w'.heap[g]? = w.heap[g]? ∧ ∀ o, xs.length * sz E i ≤ o → F' g o)
    (hblk : ∀ b ty cells, get σ (bk b) = .blk ty cells → w'.heap[loc b]? = w.heap[loc b]? ∧ ∀ o, F' (loc b) o)
    (keep : Keep Wr w0 w') (dom : ∀ g o, F' g o → g < w'.heap.size) (old : ∀ g o, g < w0.heap.size → F' g o → F0 g o) (still : ∀ g o, g < w0.heap.size → F0 g o → ¬ Wr g o → F' g o) :
    Rel n F0 Wr w0 loc F' σ a w' := by
  have hh : ∀ r k i xs u, Hold loc n σ a w' r k i xs u → Hold loc n σ a w r k i xs u := by
    intro r k i xs u hh
    cases hh with
    | slot t i xs ht hg => exact .slot _ _ _ ht hg
    | tup t k i xs ts us u ht hg hk hv hu => exact .tup _ _ _ _ _ _ _ ht hg hk hv hu
    | blk b k i xs ty cells u hg hk hu =>
      refine .blk _ _ _ _ _ _ _ hg hk ?_
      have := (hblk b ty cells hg).1
      simpa [World.cell?, this] using hu
  refine ⟨h.size, h.n_le, h.defers, h.hi, fun t ht => RVR_mv hm (fun _ _ => rfl) (h.slot t ht), fun b ty cells hb => ?_, h.inj, h.live, fun r k i xs u hd => ?_, fun r k i xs u r' k' i' xs' u' g h1 h2 => h.sep r k i xs u r' k' i' xs' u' g (hh _ _ _ _ _ h1) (hh _ _ _ _ _ h2),
    fun r k i xs u g b ty cells h1 => h.apart r k i xs u g b ty cells (hh _ _ _ _ _ h1), keep, dom, old, still, h.pin⟩
  · obtain ⟨cs, h1, h2, h3⟩ := h.blk b ty cells hb
    obtain ⟨e1, e2⟩ := hblk b ty cells hb
    exact ⟨cs, e1.trans h1, h2.mono (fun _ _ => CV_mv hm (fun _ _ => rfl)), fun o => ⟨e2 o, (h3 o).2⟩⟩
  · have h0 := hh _ _ _ _ _ hd
    obtain ⟨⟨us, ho⟩, ht⟩ := h.own r k i xs u h0
    refine ⟨⟨us, ho.1, ?_⟩, fun g hg o hlo => ⟨(hown r k i xs u g h0 hg).2 o hlo, (ht g hg o hlo).2⟩⟩
    rcases ho.2 with hn | ⟨g, cap, cur, rfl, hb, hg, rest⟩
    · exact .inl hn
    · exact .inr ⟨g, cap, cur, rfl, hb, (hown r k i xs _ g h0 rfl).1.trans hg, rest⟩
/-- The holders within one value. -/
def XHold (x : RV E.A) (v : Value) (k i : Nat) (xs : List (E.A i)) (u : Value) : Prop :=
  (x = .v (.leaf ⟨.sl i, xs⟩ true) ∧ k = 0 ∧ u = v) ∨ ∃ g ts us, x = .tup g ts ∧ ts[k]? = some (.leaf ⟨.sl i, xs⟩ true) ∧ v = tupV g us ∧ us[k]? = some u
/-- A slot is set. -/
theorem Rel.putX (h : Rel n F0 Wr w0 loc F σ a w) {d : Nat} (hd : d < n) {x : RV E.A} {v : Value} (hx : RVR loc F w x v)
    (hl : ∀ b ∈ x.names, ∃ ty cells, get σ (bk b) = .blk ty cells)
    (hown : ∀ k i xs u, XHold x v k i xs u → (∃ us, w.ownsRow 0 (E.elem i) (sz E i) u xs.length us) ∧ ∀ g, u.ownBlock = some g → ∀ o, xs.length * sz E i ≤ o → F g o ∧ (g < w0.heap.size → Wr g o))
    (hs1 : ∀ k i xs u k' i' xs' u' g, XHold x v k i xs u → XHold x v k' i' xs' u' → u.ownBlock = some g → u'.ownBlock = some g → k = k')
    (hs2 : ∀ k i xs u r k' i' xs' u' g, XHold x v k i xs u → Hold loc n σ a w r k' i' xs' u' → r ≠ d → u.ownBlock = some g → u'.ownBlock = some g → False)
    (hap : ∀ k i xs u g b ty cells, XHold x v k i xs u → u.ownBlock = some g → get σ (bk b) = .blk ty cells → loc b ≠ g) : Rel n F0 Wr w0 loc F ((d, x) :: σ) (a.put (some d) v) w := by
  have hds : d < a.tmps.size := by rw [h.size]; exact hd
  have hb : ∀ b, get ((d, x) :: σ) (bk b) = get σ (bk b) := fun b => by rw [get_cons, if_neg (fun e => bk_ne_slot h.n_le hd e.symm)]
  have hh : ∀ r k i xs u, Hold loc n ((d, x) :: σ) (a.put (some d) v) w r k i xs u → (r = d ∧ XHold x v k i xs u) ∨ (r ≠ d ∧ Hold loc n σ a w r k i xs u) := by
    intro r k i xs u hh
    cases hh with
    | slot t i xs ht hg =>
      rw [get_cons] at hg
      by_cases e : d = r
      · rw [if_pos e] at hg; rw [put_get a d r v hds, if_pos e]; exact .inl ⟨e.symm, .inl ⟨hg, rfl, rfl⟩⟩
      · rw [if_neg e] at hg; rw [put_get a d r v hds, if_neg e]; exact .inr ⟨Ne.symm e, .slot _ _ _ ht hg⟩
    | tup t k i xs ts us u ht hg hk hv hu =>
      rw [get_cons] at hg
      by_cases e : d = r
      · rw [if_pos e] at hg; rw [put_get a d r v hds, if_pos e] at hv; exact .inl ⟨e.symm, .inr ⟨_, ts, us, hg, hk, hv, hu⟩⟩
      · rw [if_neg e] at hg; rw [put_get a d r v hds, if_neg e] at hv; exact .inr ⟨Ne.symm e, .tup _ _ _ _ _ _ _ ht hg hk hv hu⟩
    | blk b k i xs ty cells u hg hk hu => rw [hb] at hg; exact .inr ⟨fun e => bk_ne_slot h.n_le hd e, .blk _ _ _ _ _ _ _ hg hk hu⟩
  refine ⟨by simp [Act.put, h.size], h.n_le, h.defers, fun t ht ht' => by rw [get_cons, if_neg (by omega)]; exact h.hi t ht ht', fun t ht => ?_, fun b ty cells hc => ?_, fun b b' ty cells ty' cells' h1 h2 => ?_, fun r hr b hbn => ?_, fun r k i xs u hd' => ?_, fun r k i xs u r' k' i' xs' u' g h1 h2 e1 e2 => ?_, fun r k i xs u g b ty cells h1 e hbb => ?_, h.keep, h.dom, h.old, h.still, h.pin⟩
  · rw [get_cons, put_get a d t v hds]
    by_cases e : d = t
    · rw [if_pos e, if_pos e]; exact hx
    · rw [if_neg e, if_neg e]; exact h.slot t ht
  · rw [hb] at hc; exact h.blk b ty cells hc
  · rw [hb] at h1; rw [hb] at h2; exact h.inj b b' ty cells ty' cells' h1 h2
  · rw [hb]
    rw [get_cons] at hbn
    by_cases e : d = r
    · rw [if_pos e] at hbn; exact hl b hbn
    · rw [if_neg e] at hbn; exact h.live r hr b hbn
  · rcases hh _ _ _ _ _ hd' with ⟨_, hx⟩ | ⟨_, hx⟩
    · exact hown _ _ _ _ hx
    · exact h.own _ _ _ _ _ hx
  · rcases hh _ _ _ _ _ h1 with ⟨f1, x1⟩ | ⟨f1, x1⟩ <;> rcases hh _ _ _ _ _ h2 with ⟨f2, x2⟩ | ⟨f2, x2⟩
    · exact ⟨f1.trans f2.symm, hs1 _ _ _ _ _ _ _ _ g x1 x2 e1 e2⟩
    · exact (hs2 _ _ _ _ _ _ _ _ _ g x1 x2 f2 e1 e2).elim
    · exact (hs2 _ _ _ _ _ _ _ _ _ g x2 x1 f1 e2 e1).elim
    · exact h.sep _ _ _ _ _ _ _ _ _ _ g x1 x2 e1 e2
  · rw [hb] at hbb
    rcases hh _ _ _ _ _ h1 with ⟨f1, x1⟩ | ⟨f1, x1⟩
    · exact hap _ _ _ _ g b ty cells x1 e hbb
    · exact h.apart _ _ _ _ _ g b ty cells x1 e hbb
/-- A slot's flag is taken away. -/
theorem Rel.clear (h : Rel n F0 Wr w0 loc F σ a w) {s : Nat} {x : TV E.A} (hs : get σ s = .v x) (hsn : s < n) : Rel n F0 Wr w0 loc F ((s, .v x.un) :: σ) a w := by
  have hb : ∀ b, get ((s, RV.v x.un) :: σ) (bk b) = get σ (bk b) := fun b => by rw [get_cons, if_neg (fun e => bk_ne_slot h.n_le hsn e.symm)]
  refine h.move (M := fun r k x y => r = x ∧ k = y) h.size h.defers (fun t ht ht' => by rw [get_cons, if_neg (by omega)]; exact h.hi t ht ht') (fun t ht => ?_) (fun b ty cells hc => ?_) (fun r hr b hbn => ?_)
    (fun r k r' k' x y m m' => ⟨m.1.trans m'.1.symm, m.2.trans m'.2.symm⟩) (fun r k i xs u hh => .inr ⟨r, k, ⟨rfl, rfl⟩, ?_⟩) (fun _ _ _ _ _ _ _ _ => rfl) h.keep (Nat.le_refl _)
  · rw [get_cons]
    by_cases e : s = t
    · subst e; rw [if_pos rfl]; have := h.slot s ht; rw [hs] at this; exact TVR_un this
    · rw [if_neg e]; exact h.slot t ht
  · rw [hb] at hc; obtain ⟨cs, h1, h2, _⟩ := h.blk b ty cells hc; exact ⟨cells, hc, cs, h1, h2⟩
  · rw [hb]; rw [get_cons] at hbn
    by_cases e : s = r
    · subst e; rw [if_pos rfl] at hbn; refine h.live s hr b ?_; rw [hs]; cases x <;> exact hbn
    · rw [if_neg e] at hbn; exact h.live r hr b hbn
  · cases hh with
    | slot t i xs ht hg =>
      rw [get_cons] at hg
      by_cases e : s = r
      · rw [if_pos e] at hg; injection hg with hg; cases x with
        | leaf l o => simp only [TV.un] at hg; injection hg with _ hg; cases hg
        | agg ls => cases hg
      · rw [if_neg e] at hg; exact .slot _ _ _ ht hg
    | tup t k i xs ts us u ht hg hk hv hu =>
      rw [get_cons] at hg
      by_cases e : s = r
      · rw [if_pos e] at hg; cases hg
      · rw [if_neg e] at hg; exact .tup _ _ _ _ _ _ _ ht hg hk hv hu
    | blk b k i xs ty cells u hg hk hu => rw [hb] at hg; exact .blk _ _ _ _ _ _ _ hg hk hu
theorem Rel.putNil (h : Rel n F0 Wr w0 loc F σ a w) {d : Nat} (hd : d < n) (i : Nat) : Rel n F0 Wr w0 loc F ((d, .v (.leaf ⟨.sl i, []⟩ true)) :: σ) (a.put (some d) (.slice none 0 0)) w := by
  have hx : ∀ {k i' xs u}, XHold (RV.v (.leaf (⟨.sl i, []⟩ : Leaf E.A) true)) (.slice none 0 0) k i' xs u → xs = [] ∧ u = .slice none 0 0 ∧ k = 0 := by
    rintro k i' xs u (⟨h1, h2, h3⟩ | ⟨_, ts, us, h1, _⟩)
    · injection h1 with h1; injection h1 with h1 _; injection h1 with e1 e2
      injection e1 with e1; subst e1
      obtain rfl := eq_of_heq e2
      exact ⟨rfl, h3, h2⟩
    · cases h1
  refine h.putX hd (⟨1, none, 0, [], rfl, Nat.le_refl _, trivial, by simp⟩ : LV loc F w (⟨.sl i, []⟩ : Leaf E.A) _) (by simp [RV.names, TV.names, Leaf.names]) (fun k i' xs u hh => ?_) (fun k i' xs u k' i2 xs' u' g h1 h2 e1 e2 => ?_) (fun k i' xs u r k' i2 xs' u' g h1 h2 _ e1 e2 => ?_) (fun k i' xs u g b ty cells h1 e1 => ?_)
  · obtain ⟨rfl, rfl, _⟩ := hx hh
    exact ⟨⟨[], World.ownsRow_nil ..⟩, fun g hg => by simp [Value.ownBlock] at hg⟩
  · exact (hx h1).2.2.trans (hx h2).2.2.symm
  · rw [(hx h1).2.1] at e1; simp [Value.ownBlock] at e1
  · rw [(hx h1).2.1] at e1; simp [Value.ownBlock] at e1
end
end Go.Rf
end
section
set_option linter.unusedSimpArgs false
set_option linter.unusedVariables false
namespace Go.Rf
open Go.RowKit
variable {E : Env} {P : Program}
section
variable {n : Nat} {F0 Wr : Nat → Nat → Prop} {w0 : Base} {loc : Nat → Nat} {F : Nat → Nat → Prop} {σ : St E.A} {a : Act} {w : World} {Q : Exit → Act → World → Prop}
variable {o : Oper} {t : Tree (Upd E)} {u : Upd E} {ctx : Ctx E}

/-- What was owned there is owned here. -/
theorem Rel.steal (h : Rel n F0 Wr w0 loc F σ a w) {d : Nat} (hd : d < n) {r k i : Nat} {xs : List (E.A i)} {v : Value} (hh : Hold loc n σ a w r k i xs v) (hrd : r ≠ d) {x' : RV E.A}
    (hv : LV loc F w (⟨.sl i, xs⟩ : Leaf E.A) v)
    (hslot : r < n → RVR loc F w x' (a.tmps.getD r undef)) (hblk : ∀ b, r = bk b → ∃ ty cells cells', get σ r = .blk ty cells ∧ x' = .blk ty cells' ∧ cells'.map (·.1) = cells.map (·.1))
    (hnob : r < n → ∀ ty cells, x' ≠ .blk ty cells)
    (hrr : r < n ∨ ∃ b, r = bk b)
    (hnames : ∀ b ∈ x'.names, b ∈ (get σ r).names)
    (hhold : ∀ k' i' xs' u', Hold loc n ((r, x') :: σ) a w r k' i' xs' u' → k' ≠ k ∧ Hold loc n σ a w r k' i' xs' u') :
    Rel n F0 Wr w0 loc F ((d, .v (.leaf ⟨.sl i, xs⟩ true)) :: (r, x') :: σ) (a.put (some d) v) w := by
  have hds : d < a.tmps.size := by rw [h.size]; exact hd
  have hg : ∀ r', get ((d, RV.v (.leaf (⟨.sl i, xs⟩ : Leaf E.A) true)) :: (r, x') :: σ) r' = if d = r' then .v (.leaf ⟨.sl i, xs⟩ true) else if r = r' then x' else get σ r' := fun r' => by rw [get_cons, get_cons]
  have hdb : ∀ b, d ≠ bk b := fun b e => bk_ne_slot h.n_le hd e.symm
  have hbx : ∀ b ty cells, get ((d, RV.v (.leaf (⟨.sl i, xs⟩ : Leaf E.A) true)) :: (r, x') :: σ) (bk b) = .blk ty cells → ∃ cells0, get σ (bk b) = .blk ty cells0 ∧ cells.map (·.1) = cells0.map (·.1) := by
    intro b ty cells hb
    rw [hg, if_neg (hdb b)] at hb
    by_cases e : r = bk b
    · rw [if_pos e] at hb
      obtain ⟨ty0, c0, c1, e1, e2, e3⟩ := hblk b e
      rw [e2] at hb; injection hb with ea eb; subst ea; subst eb
      exact ⟨c0, e ▸ e1, e3⟩
    · rw [if_neg e] at hb; exact ⟨cells, hb, rfl⟩
  have hlive : ∀ b, (∃ ty cells, get σ (bk b) = .blk ty cells) → ∃ ty cells, get ((d, RV.v (.leaf (⟨.sl i, xs⟩ : Leaf E.A) true)) :: (r, x') :: σ) (bk b) = .blk ty cells := by
    rintro b ⟨ty, cells, hb⟩
    rw [hg, if_neg (hdb b)]
    by_cases e : r = bk b
    · rw [if_pos e]
      obtain ⟨ty0, c0, c1, e1, e2, e3⟩ := hblk b e
      exact ⟨ty0, c1, e2⟩
    · rw [if_neg e]; exact ⟨ty, cells, hb⟩
  refine h.move (M := fun r' k' x y => (r' = d ∧ k' = 0 ∧ x = r ∧ y = k) ∨ (r' ≠ d ∧ r' = x ∧ k' = y ∧ ¬ (x = r ∧ y = k))) (by simp [Act.put, h.size]) h.defers (fun s hs hs' => ?_) (fun s hs => ?_) (fun b ty cells hb => ?_) (fun r' hr' b hb => ?_)
    ?_ (fun r' k' i' xs' u' hh' => .inr ?_) (fun _ _ _ _ _ _ _ _ => rfl) h.keep (Nat.le_refl _)
  · rw [hg, if_neg (by omega)]
    by_cases e : r = s
    · subst e
      rcases hrr with hrr | ⟨b, hrr⟩
      · exact absurd hrr (by omega)
      · rw [hrr] at hs'; unfold bk at hs'; omega
    · rw [if_neg e]; exact h.hi s hs hs'
  · rw [hg, put_get a d s v hds]
    by_cases e : d = s
    · rw [if_pos e, if_pos e]; exact hv
    · rw [if_neg e, if_neg e]
      by_cases e2 : r = s
      · subst e2; rw [if_pos rfl]; exact hslot hs
      · rw [if_neg e2]; exact h.slot s hs
  · obtain ⟨cells0, h0, h1⟩ := hbx b ty cells hb
    obtain ⟨cs, h2, h3, _⟩ := h.blk b ty cells0 h0
    exact ⟨cells0, h0, cs, h2, h1 ▸ h3⟩
  · rw [hg] at hb
    by_cases e : d = r'
    · rw [if_pos e] at hb; simp [RV.names, TV.names, Leaf.names] at hb
    · rw [if_neg e] at hb
      by_cases e2 : r = r'
      · subst e2; rw [if_pos rfl] at hb; exact hlive b (h.live r hr' b (hnames b hb))
      · rw [if_neg e2] at hb; exact hlive b (h.live r' hr' b hb)
  · rintro r1 k1 r2 k2 x y (⟨rfl, rfl, rfl, rfl⟩ | ⟨h1, h2, h3, h4⟩) (⟨rfl, rfl, h5, h6⟩ | ⟨h5, h6, h7, h8⟩)
    · exact ⟨rfl, rfl⟩
    · exact absurd ⟨rfl, rfl⟩ h8
    · exact absurd ⟨h5, h6⟩ h4
    · exact ⟨h2.trans h6.symm, h3.trans h7.symm⟩
  · cases hh' with
    | slot s i' xs' hs hgs =>
      rw [hg] at hgs
      by_cases e : d = r'
      · rw [if_pos e] at hgs
        injection hgs with hgs; injection hgs with hgs _; injection hgs with e1 e2
        injection e1 with e1; subst e1
        obtain rfl := eq_of_heq e2
        rw [put_get a d r' v hds, if_pos e]
        exact ⟨r, k, .inl ⟨e.symm, rfl, rfl, rfl⟩, hh⟩
      · rw [if_neg e] at hgs
        rw [put_get a d r' v hds, if_neg e]
        by_cases e2 : r = r'
        · subst e2; rw [if_pos rfl] at hgs
          obtain ⟨h1, h2⟩ := hhold 0 i' xs' _ (.slot r i' xs' hs (by rw [get_cons, if_pos rfl]; exact hgs))
          exact ⟨r, 0, .inr ⟨Ne.symm e, rfl, rfl, fun hc => h1 hc.2⟩, h2⟩
        · rw [if_neg e2] at hgs
          exact ⟨r', 0, .inr ⟨Ne.symm e, rfl, rfl, fun hc => e2 hc.1.symm⟩, .slot r' i' xs' hs hgs⟩
    | tup s k' i' xs' ts us u' hs hgs hk hvv hu =>
      rw [hg] at hgs
      by_cases e : d = r'
      · rw [if_pos e] at hgs; cases hgs
      · rw [if_neg e] at hgs
        rw [put_get a d r' v hds, if_neg e] at hvv
        by_cases e2 : r = r'
        · subst e2; rw [if_pos rfl] at hgs
          obtain ⟨h1, h2⟩ := hhold k' i' xs' _ (.tup r k' i' xs' ts us u' hs (by rw [get_cons, if_pos rfl]; exact hgs) hk hvv hu)
          exact ⟨r, k', .inr ⟨Ne.symm e, rfl, rfl, fun hc => h1 hc.2⟩, h2⟩
        · rw [if_neg e2] at hgs
          exact ⟨r', k', .inr ⟨Ne.symm e, rfl, rfl, fun hc => e2 hc.1.symm⟩, .tup r' k' i' xs' ts us u' hs hgs hk hvv hu⟩
    | blk b k' i' xs' ty cells u' hgs hk hu =>
      rw [hg, if_neg (hdb b)] at hgs
      by_cases e2 : r = bk b
      · rw [if_pos e2] at hgs
        obtain ⟨h1, h2⟩ := hhold k' i' xs' u' (by rw [e2]; exact .blk b k' i' xs' ty cells u' (by rw [get_cons, if_pos rfl]; exact hgs) hk hu)
        exact ⟨r, k', .inr ⟨fun e => hdb b e.symm, e2.symm, rfl, fun hc => h1 hc.2⟩, h2⟩
      · rw [if_neg e2] at hgs
        exact ⟨bk b, k', .inr ⟨fun e => hdb b e.symm, rfl, rfl, fun hc => e2 hc.1.symm⟩, .blk b k' i' xs' ty cells u' hgs hk hu⟩
/-- A tuple is moved, with what it owns. -/
theorem Rel.moveTup (h : Rel n F0 Wr w0 loc F σ a w) {d s : Nat} (hd : d < n) (hs : s < n) (hsd : s ≠ d) {g : Bool} {ts : List (TV E.A)} (hts : get σ s = .tup g ts) :
    Rel n F0 Wr w0 loc F ((d, .tup g ts) :: (s, .tup g (ts.map TV.un)) :: σ) (a.put (some d) (a.tmps.getD s undef)) w := by
  have hds : d < a.tmps.size := by rw [h.size]; exact hd
  have hg : ∀ r, get ((d, RV.tup g ts) :: (s, .tup g (ts.map TV.un)) :: σ) r = if d = r then .tup g ts else if s = r then .tup g (ts.map TV.un) else get σ r := fun r => by rw [get_cons, get_cons]
  have hb : ∀ b, get ((d, RV.tup g ts) :: (s, .tup g (ts.map TV.un)) :: σ) (bk b) = get σ (bk b) := fun b => by
    rw [hg, if_neg (fun e => bk_ne_slot h.n_le hd e.symm), if_neg (fun e => bk_ne_slot h.n_le hs e.symm)]
  have hsl := h.slot s hs
  rw [hts] at hsl
  have hun : RVR loc F w (.tup g (ts.map TV.un)) (a.tmps.getD s undef) := by
    obtain ⟨us, e, hall⟩ := hsl
    exact ⟨us, e, All2.cast_left (hall.mono (fun _ _ hx => TVR_un hx))⟩
  have hnun : ∀ x : TV E.A, x.un.names = x.names := fun x => by cases x <;> rfl
  refine h.move (M := fun r k x y => (r = d ∧ x = s ∧ k = y) ∨ (r = x ∧ k = y ∧ r ≠ d ∧ r ≠ s)) (by simp [Act.put, h.size]) h.defers (fun t ht ht' => by rw [hg, if_neg (by omega), if_neg (by omega)]; exact h.hi t ht ht') (fun t ht => ?_) (fun b ty cells hc => ?_) (fun r hr b hbn => ?_)
    (fun r k r' k' x y m m' => ?_) (fun r k i xs u hh => .inr ?_) (fun _ _ _ _ _ _ _ _ => rfl) h.keep (Nat.le_refl _)
  · rw [hg, put_get a d t _ hds]
    by_cases e : d = t
    · rw [if_pos e, if_pos e]; exact hsl
    · rw [if_neg e, if_neg e]
      by_cases e2 : s = t
      · rw [if_pos e2]; subst e2; exact hun
      · rw [if_neg e2]; exact h.slot t ht
  · rw [hb] at hc
    obtain ⟨cs, h1, h2, _⟩ := h.blk b ty cells hc
    exact ⟨cells, hc, cs, h1, h2⟩
  · rw [hb]
    rw [hg] at hbn
    by_cases e : d = r
    · rw [if_pos e] at hbn
      exact h.live s (.inl hs) b (by rw [hts]; exact hbn)
    · rw [if_neg e] at hbn
      by_cases e2 : s = r
      · rw [if_pos e2] at hbn
        refine h.live s (.inl hs) b ?_
        rw [hts]
        obtain ⟨x, hx, hxb⟩ := List.mem_flatMap.1 hbn
        obtain ⟨y, hy, rfl⟩ := List.mem_map.1 hx
        exact List.mem_flatMap.2 ⟨y, hy, by rw [← hnun]; exact hxb⟩
      · rw [if_neg e2] at hbn; exact h.live r hr b hbn
  · rcases m with ⟨rfl, rfl, rfl⟩ | ⟨rfl, rfl, m1, m2⟩ <;> rcases m' with ⟨rfl, e, rfl⟩ | ⟨rfl, rfl, m3, m4⟩
    · exact ⟨rfl, rfl⟩
    · exact absurd rfl m4
    · exact absurd e m2
    · exact ⟨rfl, rfl⟩
  · cases hh with
    | slot t i xs ht hgs =>
      rw [hg] at hgs
      by_cases e : d = r
      · rw [if_pos e] at hgs; cases hgs
      · rw [if_neg e] at hgs
        by_cases e2 : s = r
        · rw [if_pos e2] at hgs; cases hgs
        · rw [if_neg e2] at hgs
          rw [put_get a d r _ hds, if_neg e]
          exact ⟨r, 0, .inr ⟨rfl, rfl, Ne.symm e, Ne.symm e2⟩, .slot r i xs ht hgs⟩
    | tup t k i xs ts' us u ht hgs hk hv hu =>
      rw [hg] at hgs
      rw [put_get a d r _ hds] at hv
      by_cases e : d = r
      · rw [if_pos e] at hgs hv; injection hgs with hgs1 hgs2; subst hgs1; subst hgs2
        exact ⟨s, k, .inl ⟨e.symm, rfl, rfl⟩, .tup s k i xs ts us u hs hts hk hv hu⟩
      · rw [if_neg e] at hgs hv
        by_cases e2 : s = r
        · rw [if_pos e2] at hgs; injection hgs with hgs1 hgs2; subst hgs1; subst hgs2
          rw [List.getElem?_map] at hk
          obtain ⟨y, _, hy⟩ := Option.map_eq_some_iff.1 hk
          cases y with
          | leaf l o => simp only [TV.un] at hy; injection hy with _ hy; cases hy
          | agg ls => cases hy
        · rw [if_neg e2] at hgs
          exact ⟨r, k, .inr ⟨rfl, rfl, Ne.symm e, Ne.symm e2⟩, .tup r k i xs ts' us u ht hgs hk hv hu⟩
    | blk b k i xs ty cells u hgs hk hu =>
      rw [hb] at hgs
      exact ⟨bk b, k, .inr ⟨rfl, rfl, bk_ne_slot h.n_le hd, bk_ne_slot h.n_le hs⟩, .blk b k i xs ty cells u hgs hk hu⟩
/-- move, assign. -/
theorem move_ok (h : Rel n F0 Wr w0 loc F σ a w) (htt : TTOk P E ctx.tt) {hold guards : Bool} {x : Operand} (hx : (execOp a.eval o).run P w = .ok (.value (a.eval x)) w) (hr : (sMove ctx hold guards o x).run σ = some t) (hu : t.reach u) (hn : ∀ d, o.dst = some d → d < n) :
    o.wp P a w (Goal n F0 Wr w0 (u ++ σ)) Q := by
  unfold sMove at hr
  split at hr
  · simp [Rd.run] at hr
  · rename_i d hd
    have hdn := hn d hd
    have fin : ∀ {y : RV E.A}, t = .leaf [(d, y)] → RVR loc F w y (a.eval x) → y.free → Live σ y → o.wp P a w (Goal n F0 Wr w0 (u ++ σ)) Q := by
      intro y e1 e2 e3 e4
      subst e1; simp only [Tree.reach] at hu; subst hu
      exact wp_one h hd hdn hx e2 e3 e4
    obtain ⟨rv, h1, h2, h3, h4, h5⟩ := rdO_ok h hr
    split at h3
    · simp only [Rd.run, Option.some.injEq] at h3; exact fin h3.symm h1 trivial (live_nil rfl)
    · rename_i l own
      split at h3
      · rename_i b
        have e := LVbool (loc := loc) h1
        cases guards with
        | false => simp only [cond_false, Rd.run, Option.some.injEq] at h3; exact fin h3.symm h1 rfl (live_nil rfl)
        | true =>
          simp only [cond_true, Rd.run, Option.some.injEq] at h3
          subst h3
          have hone : u = [(d, .kn b)] := by
            rcases hu with ⟨hb, hu⟩ | ⟨hb, hu⟩ <;> simp only [Tree.reach] at hu <;> rw [hu, hb]
          subst hone
          exact wp_one h hd hdn hx e trivial (live_nil rfl)
      · have e := LVnil (loc := loc) h1
        split at h3
        · rename_i i hty
          simp only [Rd.run, Option.some.injEq] at h3
          subst h3; simp only [Tree.reach] at hu; subst hu
          refine wp_val hx ?_
          rw [hd, e]
          exact ⟨loc, F, h.putNil hdn i⟩
        · simp [Rd.run] at h3
      · rename_i i xs
        split at h3
        · rename_i s
          cases hc : own && hold && !(Nat.beq s d) with
          | false => rw [hc] at h3; simp only [cond_false, Rd.run, Option.some.injEq] at h3; exact fin h3.symm h1 rfl (live_nil rfl)
          | true =>
            rw [hc] at h3; simp only [cond_true, Rd.run, Option.some.injEq] at h3
            subst h3; simp only [Tree.reach] at hu; subst hu
            simp only [Bool.and_eq_true, Bool.not_eq_true'] at hc
            obtain ⟨⟨rfl, _⟩, hne⟩ := hc
            obtain ⟨e1, e2⟩ := h4 s rfl
            have hs : s < n := by rcases e2 with e2 | e2; exact e2; cases e2
            have hsd : s ≠ d := fun e => by subst e; simp at hne
            refine wp_val hx ?_
            rw [hd]
            refine ⟨loc, F, h.steal hdn (r := s) (k := 0) (.slot s i xs hs e1.symm) hsd (x' := .v (.leaf ⟨.sl i, xs⟩ false)) h1 (fun _ => h1) (fun b hb => ?_) (fun _ _ _ => by simp) (.inl hs) (by simp [RV.names, TV.names, Leaf.names]) ?_⟩
            · exact absurd hb.symm (bk_ne_slot h.n_le hs)
            · intro k' i' xs' u' hh
              cases hh with
              | slot _ _ _ ht hg => rw [get_cons, if_pos rfl] at hg; injection hg with hg; injection hg with _ hg; cases hg
              | tup _ _ _ _ ts us _ ht hg => rw [get_cons, if_pos rfl] at hg; cases hg
              | blk b _ _ _ ty cells _ hg => exact absurd rfl (bk_ne_slot h.n_le hs)
        · simp only [Rd.run, Option.some.injEq] at h3; exact fin h3.symm h1 rfl (live_nil rfl)
      · simp only [Rd.run, Option.some.injEq] at h3; exact fin h3.symm h1 rfl h2
    · simp only [Rd.run, Option.some.injEq] at h3; exact fin h3.symm h1 trivial h2
    · simp only [Rd.run, Option.some.injEq] at h3; exact fin h3.symm h1 trivial h2
    · rename_i ts
      split at h3
      · rename_i s
        cases hc : Nat.beq s d with
        | true => rw [hc] at h3; simp [Rd.run] at h3
        | false =>
          rw [hc] at h3; simp only [cond_false, Rd.run, Option.some.injEq] at h3
          subst h3; simp only [Tree.reach] at hu; subst hu
          obtain ⟨e1, e2⟩ := h4 s rfl
          have hs : s < n := by rcases e2 with e2 | e2; exact e2; cases e2
          have hsd : s ≠ d := fun e => by subst e; simp at hc
          refine wp_val hx ?_
          rw [hd]
          exact ⟨loc, F, h.moveTup hdn hs hsd e1.symm⟩
      · simp [Rd.run] at h3
    · simp [Rd.run] at h3
end
end Go.Rf
end
section
set_option linter.unusedSimpArgs false
set_option linter.unusedVariables false
namespace Go.Rf
open Go.RowKit
variable {E : Env} {P : Program}
section
variable {n : Nat} {F0 Wr : Nat → Nat → Prop} {w0 : Base} {loc : Nat → Nat} {F : Nat → Nat → Prop} {σ : St E.A} {a : Act} {w : World} {Q : Exit → Act → World → Prop}
variable {o : Oper} {t : Tree (Upd E)} {u : Upd E} {ctx : Ctx E}
theorem un_free (x : TV E.A) : (RV.v x.un).free := by cases x <;> simp [TV.un, RV.free]
theorem un_names (x : TV E.A) : x.un.names = x.names := by cases x <;> rfl
theorem pickOne_ok (h : Rel n F0 Wr w0 loc F σ a w) {lit : Bool} {x : Operand} (hex : (execOp a.eval o).run P w = .ok (.value (a.eval x)) w) (hr : (pickOne lit o.dst x).run σ = some t) (hu : t.reach u) (hn : ∀ d, o.dst = some d → d < n) :
    o.wp P a w (Goal n F0 Wr w0 (u ++ σ)) Q := by
  unfold pickOne at hr
  split at hr
  · rename_i b
    exact wp_of_one h hr hu hn (v := .bool b) hex (by show Value.bool b = _; rfl) trivial (fun b hb => by simp [RV.names] at hb)
  · obtain ⟨tv, g1, g2, g3, g4⟩ := rdT_ok h hr
    exact wp_of_one h g3 hu hn hex (TVR_un g1) (un_free _) (fun b hb => g2 b (by simpa [RV.names, un_names] using hb))
theorem pick_ok (h : Rel n F0 Wr w0 loc F σ a w) {lit : Bool} {c x y : Operand} (ho : o.op = .pick c x y) (hr : (sPick lit o.dst c x y).run σ = some t) (hu : t.reach u) (hn : ∀ d, o.dst = some d → d < n) :
    o.wp P a w (Goal n F0 Wr w0 (u ++ σ)) Q := by
  unfold sPick at hr
  obtain ⟨rv, h1, h2, h3, hx4⟩ := rdO_ok h hr
  split at h3
  · exact pickOne_ok h (ex_pick ho (b := true) h1) h3 hu hn
  · exact pickOne_ok h (ex_pick ho (b := false) h1) h3 hu hn
  · rename_i c0 _
    have e := LVbool (loc := loc) h1
    obtain ⟨tv, g1, g2, g3, g4⟩ := rdT_ok h h3
    obtain ⟨tv', k1, k2, k3, k4⟩ := rdT_ok h g3
    split at k3
    · have e1 := LVbool (loc := loc) g1
      have e2 := LVbool (loc := loc) k1
      refine wp_of_bool h k3 hu hn ?_
      have := ex_pick (P := P) (w := w) ho e
      rw [e1, e2] at this
      rw [this]; cases c0 <;> rfl
    · simp [Rd.run] at k3
  · simp [Rd.run] at h3

theorem flds_at {flds : Array Field} {fs : List (Nat × TypeId)} (he : flds.toList.map (fun f => (f.offset, f.type)) = fs) {f : Nat} {p : Nat × TypeId} (hf : fs[f]? = some p) : ∃ fld, flds[f]? = some fld ∧ fld.offset = p.1 ∧ fld.type = p.2 ∧ fld ∈ flds.toList := by
  subst he
  rw [List.getElem?_map] at hf
  obtain ⟨fld, h1, h2⟩ := Option.map_eq_some_iff.1 hf
  refine ⟨fld, by simpa using h1, by rw [← h2], by rw [← h2], List.mem_of_getElem? h1⟩
theorem fieldPlace_run {fld : Field} (hz : ∃ fi, P.info? fld.type = some fi ∧ fi.size ≠ 0) (ad : Addr) : (fieldPlace ad fld).run P w = .ok (ad.add fld.offset) w := by
  obtain ⟨fi, h1, h2⟩ := hz
  simp [fieldPlace, sizeOf, typeInfo, h1, h2]
theorem addr_add (b off m : Nat) : (⟨b, off, none⟩ : Addr).add m = ⟨b, off + m, none⟩ := by unfold Addr.add; split <;> simp_all
theorem fieldAddr_ok (h : Rel n F0 Wr w0 loc F σ a w) (htt : TTOk P E ctx.tt) {s : TypeId} {x : Operand} {f : Nat} (ho : o.op = .fieldAddr s x f) (hr : (sFieldAddr ctx o.dst s x f).run σ = some t) (hu : t.reach u) (hn : ∀ d, o.dst = some d → d < n) :
    o.wp P a w (Goal n F0 Wr w0 (u ++ σ)) Q := by
  unfold sFieldAddr at hr
  split at hr
  · simp [Rd.run] at hr
  · rename_i fo ft hf
    obtain ⟨ty, hty, hf2⟩ := Option.bind_eq_some_iff.1 hf
    cases ty with
    | leaf l => simp [fieldOf] at hf2
    | agg ls fs =>
      simp only [fieldOf] at hf2
      obtain ⟨flds, info, zs, hud, hi, hsz, hz, hzo, hfs, hnz, _⟩ := htt _ _ hty
      obtain ⟨fld, hfl, e1, e2, hmem⟩ := flds_at hfs hf2
      obtain ⟨rv, h1, h2, h3, hx4⟩ := rdO_ok h hr
      have run : ∀ b off, a.eval x = .pointer (some ⟨b, off, none⟩) → (Instr.fieldAt s (a.eval x) f).run P w = .ok (.pointer (some ⟨b, off + fo, none⟩)) w := by
        intro b off e
        rw [e]
        simp only [Instr.fieldAt, Sem.run_bind, run_underlying hud, Result.andThen_ok, hfl, Instr.sureAddr, Sem.run_pure, fieldPlace_run (hnz fld hmem), addr_add, e1]
      split at h3
      · rename_i b off _
        have e : a.eval x = .pointer (some ⟨loc b, off, none⟩) := h1
        exact wp_of_one h h3 hu hn (ex_fieldAddr ho (run _ _ e)) (show LV loc F w (⟨.ptr, some (b, off + fo)⟩ : Leaf E.A) _ from rfl) rfl (fun b' hb' => h2 b' (by simpa [RV.names, TV.names, Leaf.names] using hb'))
      · rename_i i xs j off
        obtain ⟨ad, c, m, g1, g2, e⟩ := h1
        refine wp_of_one h h3 hu hn (ex_fieldAddr ho (run _ _ e)) (x := .eptr i xs j (off + fo)) ⟨ad, c, m, g1, g2, ?_⟩ trivial (live_nil rfl)
        congr 3; omega
      · simp [Rd.run] at h3
theorem isAgg_leaf {t : TypeId} {l : LT} (h : TyOk P E t (.leaf l)) : (isAgg t).run P w = .ok false w := by
  obtain ⟨d, info, z, hud, hd, _⟩ := h
  simp only [isAgg, Sem.run_bind, run_underlying hud, Result.andThen_ok]
  cases l <;> simp only [descOk] at hd
  case sl => obtain ⟨rfl, _⟩ := hd; rfl
  case err => obtain ⟨ms, rfl⟩ := hd; rfl
  case fn => obtain ⟨_, _, _, rfl⟩ := hd; rfl
  case ptr => obtain ⟨_, rfl⟩ := hd; rfl
  all_goals subst hd; rfl
theorem isAgg_agg {t : TypeId} {ls fs} (h : TyOk P E t (.agg ls fs)) : (isAgg t).run P w = .ok true w := by
  obtain ⟨flds, info, zs, hud, _⟩ := h
  simp only [isAgg, Sem.run_bind, run_underlying hud, Result.andThen_ok]; rfl
theorem sizeOf_ok {t : TypeId} {ty : Ty} (h : TyOk P E t ty) : (sizeOf t).run P w = .ok ty.size w := by
  cases ty with
  | leaf l => obtain ⟨d, info, z, hud, hd, hi, hs, _⟩ := h; simp [sizeOf, typeInfo, hi, hs, Ty.size]
  | agg ls fs => obtain ⟨flds, info, zs, hud, hi, hs, _⟩ := h; simp [sizeOf, typeInfo, hi, hs, Ty.size]
/-- A part of a struct's cells, as its type has it. -/
theorem part_ok {ft : TypeId} {ty : Ty} (hty : TyOk P E ft ty) {ls : List (Leaf E.A)} {cs : Array Value} (hls : All2 (LV loc F w) ls cs.toList) {fo : Nat} {tv : TV E.A} (h : asTV ty ((ls.drop fo).take ty.size) = some tv) :
    ∃ v, (part ft cs fo).run P w = .ok v w ∧ TVR loc F w tv v ∧ (RV.v tv).free ∧ (∀ b ∈ tv.names, b ∈ ls.filterMap Leaf.names) := by
  have hall := (hls.drop fo).take ty.size
  have hmem : ∀ l ∈ (ls.drop fo).take ty.size, l ∈ ls := fun l hl => List.mem_of_mem_drop (List.mem_of_mem_take hl)
  have hsz := sizeOf_ok (P := P) (w := w) hty
  cases ty with
  | leaf l0 =>
    have hq : ∀ q, (ls.drop fo).take 1 = q → asTV (.leaf l0) q = some tv → ∃ l, q = [l] ∧ tv = .leaf l false := by
      intro q hq hh
      match q with
      | [] => simp [asTV] at hh
      | [l] => simp [asTV] at hh; exact ⟨l, rfl, hh.symm⟩
      | _ :: _ :: _ => simp [asTV] at hh
    obtain ⟨l, e1, rfl⟩ := hq _ rfl h
    have hl : ls[fo]? = some l := by
      have : ((ls.drop fo).take 1)[0]? = some l := by rw [e1]; rfl
      simpa using this
    obtain ⟨v, hv, hr⟩ := hls.get hl
    refine ⟨v, ?_, hr, rfl, ?_⟩
    · have hv' : cs[fo]? = some v := by simpa using hv
      simp only [part, Sem.run_bind, isAgg_leaf hty, Result.andThen_ok]
      simp [hv']
    · intro b hb
      simp only [TV.names, Option.mem_toList] at hb
      exact List.mem_filterMap.2 ⟨l, List.mem_of_getElem? hl, hb⟩
  | agg ts fs =>
    simp only [asTV] at h
    split at h
    · rename_i hlen
      injection h with h; subst h
      refine ⟨.agg (cs.extract fo (fo + ts.length)), ?_, ⟨_, rfl, ?_⟩, trivial, ?_⟩
      · simp only [part, Sem.run_bind, isAgg_agg hty, Result.andThen_ok, if_true, hsz]
        rfl
      · simp only [Ty.size] at hall ⊢
        have : (cs.extract fo (fo + ts.length)).toList = (cs.toList.drop fo).take ts.length := by simp [List.take_drop]
        rw [this]; exact hall
      · intro b hb
        simp only [TV.names] at hb
        obtain ⟨l, hl, e⟩ := List.mem_filterMap.1 hb
        exact List.mem_filterMap.2 ⟨l, hmem l hl, e⟩
    · cases h
theorem field_ok (h : Rel n F0 Wr w0 loc F σ a w) (htt : TTOk P E ctx.tt) {s : TypeId} {x : Operand} {f : Nat} (ho : o.op = .field s x f) (hr : (sField ctx o.dst s x f).run σ = some t) (hu : t.reach u) (hn : ∀ d, o.dst = some d → d < n) :
    o.wp P a w (Goal n F0 Wr w0 (u ++ σ)) Q := by
  unfold sField at hr
  split at hr
  · simp [Rd.run] at hr
  · rename_i fo ft hf
    obtain ⟨ty, hty, hf2⟩ := Option.bind_eq_some_iff.1 hf
    cases ty with
    | leaf l => simp [fieldOf] at hf2
    | agg ls fs =>
      simp only [fieldOf] at hf2
      obtain ⟨flds, info, zs, hud, hi, hsz, hz, hzo, hfs, hnz, _⟩ := htt _ _ hty
      obtain ⟨fld, hfl, e1, e2, hmem⟩ := flds_at hfs hf2
      split at hr
      · simp [Rd.run] at hr
      · rename_i fty hfty
        obtain ⟨tv, h1, h2, h3, hx4⟩ := rdT_ok h hr
        split at h3
        · rename_i ls'
          split at h3
          · rename_i r hr2
            obtain ⟨cs, e, hls⟩ := h1
            obtain ⟨v, hv, hrel, hfree, hnames⟩ := part_ok (htt _ _ hfty) hls hr2
            refine wp_of_one h h3 hu hn (ex_field ho ?_) hrel hfree (fun b hb => h2 b (hnames b hb))
            rw [e]
            have e1' : fld.offset = fo := e1
            have e2' : fld.type = ft := e2
            simp only [Instr.field, Sem.run_bind, run_underlying hud, Result.andThen_ok, hfl, asAgg, Sem.run_pure, e1', e2', hv]
          · simp [Rd.run] at h3
        · simp [Rd.run] at h3
theorem indexAddr_ok (h : Rel n F0 Wr w0 loc F σ a w) (htt : TTOk P E ctx.tt) {s : TypeId} {x ix : Operand} (ho : o.op = .indexAddr s x ix) (hr : (sIndexAddr ctx o.dst s x ix).run σ = some t) (hu : t.reach u) (hn : ∀ d, o.dst = some d → d < n) :
    o.wp P a w (Goal n F0 Wr w0 (u ++ σ)) Q := by
  unfold sIndexAddr at hr
  split at hr
  · rename_i i0 hty
    obtain ⟨tv, h1, h2, h3, hx4⟩ := rdT_ok h hr
    split at h3
    · rename_i i xs ow
      split at h3
      · rename_i hii
        obtain ⟨kd, j, e2, h4⟩ := intIx_ok h h3
        obtain ⟨t', h5, rfl⟩ := need_run h4
        obtain ⟨⟨hp1, hp2⟩, hu'⟩ := hu
        have hp2' : j < (xs.length : Int) := hp2
        subst hii
        obtain ⟨m, hv⟩ : ∃ m, VR E F w m ⟨.sl i0, xs⟩ (a.eval x) := h1
        have hv0 := hv
        obtain ⟨k, ad, c, us, rfl, e1, hc, hall, hcell⟩ := VRsl hv
        have hlt : j.toNat < xs.length := by omega
        obtain ⟨d, info, z, hud, hd, hi1, hs1, _⟩ := htt _ _ hty
        simp only [descOk] at hd
        obtain ⟨rfl, ⟨info', z', hi', hs', _⟩, _⟩ := hd
        have hadr : ∃ ad', ad = some ad' ∧ ad'.spot = none := by
          have hflen := hall.len
          rw [flat_len] at hflen
          have hpos : 0 < us.length := by
            rw [← hflen]
            exact Nat.mul_pos (by omega) (List.length_pos_iff.2 (E.some0 i0))
          obtain ⟨ad', h1, h2, _⟩ := hcell 0 _ (List.getElem?_eq_getElem hpos)
          exact ⟨ad', h1, h2⟩
        obtain ⟨ad', rfl, hsp⟩ := hadr
        refine wp_of_one h h5 hu' hn (ex_indexAddr ho ?_) (x := .eptr i0 xs j.toNat 0) ⟨ad', c, k + 1, e1 ▸ hv0, hlt, rfl⟩ trivial (live_nil rfl)
        rw [e1, e2]
        obtain ⟨bl, of, sp⟩ := ad'
        simp only at hsp; subst hsp
        simp only [Instr.indexAt, asIntOf, Sem.run_bind, Sem.run_pure, Result.andThen_ok, run_underlying hud]
        have : (0 ≤ j ∧ j < ((xs.length : Nat) : Int)) := ⟨hp1, hp2'⟩
        simp only [Bool.and_false, this, and_self, if_true, Sem.run_bind, sizeOf, typeInfo, run_program, Result.andThen_ok, hi', Sem.run_pure, hs', addr_add, Nat.add_zero]
      · simp [Rd.run] at h3
    · simp [Rd.run] at h3
  · simp [Rd.run] at hr
end
end Go.Rf
end
section
set_option linter.unusedSimpArgs false
set_option linter.unusedVariables false
namespace Go.Rf
open Go.RowKit
variable {E : Env} {P : Program}
section
variable {n : Nat} {F0 Wr : Nat → Nat → Prop} {w0 : Base} {loc : Nat → Nat} {F : Nat → Nat → Prop} {σ : St E.A} {a : Act} {w : World} {Q : Exit → Act → World → Prop}
variable {o : Oper} {t : Tree (Upd E)} {u : Upd E} {ctx : Ctx E}
theorem sliceBound_ok {k : IntKind} {i : Int} {y : Nat} {code : BoundsCode} (h0 : 0 ≤ i) (h1 : i ≤ y) : (Instr.sliceBound (.int k i) y code).run P w = .ok i.toNat w := by
  simp [Instr.sliceBound, asIntOf, h0, h1]
/-- Bounds of a slice expression: lo, hi may be missing. -/
theorem sliceBounds_ok {isSlice : Bool} {len cap : Nat} {lo hi : Option Value} {l h : Int} (hl : lo = none ∧ l = 0 ∨ ∃ k, lo = some (.int k l)) (hh : hi = none ∧ h = len ∨ ∃ k, hi = some (.int k h))
    (h0 : 0 ≤ l) (h1 : l ≤ h) (h2 : h ≤ len) (h3 : len ≤ cap) : (Instr.sliceBounds isSlice len cap lo hi none).run P w = .ok (l.toNat, h.toNat, cap) w := by
  have hb : ∀ {k : IntKind} {i : Int} {y : Nat} {code : BoundsCode}, 0 ≤ i → i ≤ y → (Instr.sliceBound (.int k i) y code).run P w = .ok i.toNat w := fun a b => sliceBound_ok a b
  have e1 : (h.toNat : Int) = h := by omega
  rcases hl with ⟨rfl, rfl⟩ | ⟨k, rfl⟩ <;> rcases hh with ⟨rfl, rfl⟩ | ⟨k', rfl⟩
  · simp [Instr.sliceBounds]
  · simp only [Instr.sliceBounds, Sem.run_bind, Sem.run_pure, Result.andThen_ok, hb (k := k') (i := h) (y := cap) (by omega) (by omega)]; rfl
  · simp only [Instr.sliceBounds, Sem.run_bind, Sem.run_pure, Result.andThen_ok, hb (k := k) (i := l) (y := len) (by omega) (by omega)]; simp
  · simp only [Instr.sliceBounds, Sem.run_bind, Sem.run_pure, Result.andThen_ok, hb (k := k') (i := h) (y := cap) (by omega) (by omega), hb (k := k) (i := l) (y := h.toNat) (by omega) (by omega)]
theorem extract_mk (s : List UInt8) (l h : Nat) : (ByteArray.mk s.toArray).extract l h = ByteArray.mk ((s.take h).drop l).toArray := by
  apply ByteArray.ext
  simp [ByteArray.data_extract, List.drop_take]
theorem slice_ok (h : Rel n F0 Wr w0 loc F σ a w) (htt : TTOk P E ctx.tt) {s : TypeId} {x : Operand} {lo hi : Option Operand} (ho : o.op = .slice s x lo hi none) (hr : (sSlice ctx o.dst s x lo hi).run σ = some t) (hu : t.reach u) (hn : ∀ d, o.dst = some d → d < n) :
    o.wp P a w (Goal n F0 Wr w0 (u ++ σ)) Q := by
  have ixs : ∀ {d : Int} {y : Option Operand} {k : Int → Rd E.A (Tree (Upd E))}, (optIx y d k).run σ = some t → ∃ l, (k l).run σ = some t ∧ (y.map a.eval = none ∧ l = d ∨ ∃ kd, y.map a.eval = some (.int kd l)) := by
    intro d y k hk
    rcases optIx_ok h hk with ⟨rfl, h2⟩ | ⟨y', kd, i, rfl, h1, h2⟩
    · exact ⟨d, h2, .inl ⟨rfl, rfl⟩⟩
    · exact ⟨i, h2, .inr ⟨kd, by simp [h1]⟩⟩
  unfold sSlice at hr
  obtain ⟨tv, h1, h2, h3, hx4⟩ := rdT_ok h hr
  split at h3
  · rename_i s0 _ hty
    obtain ⟨l, h4, hl⟩ := ixs h3
    obtain ⟨hh, h5, hhi⟩ := ixs h4
    obtain ⟨t', h6, rfl⟩ := need_run h5
    obtain ⟨⟨p1, p2, p3⟩, hu'⟩ := hu
    have e := LVstr (loc := loc) h1
    obtain ⟨d, info, z, hud, hd, _⟩ := htt _ _ hty
    simp only [descOk] at hd; subst hd
    refine wp_of_one h h6 hu' hn (ex_slice ho ?_) (mkStr _) rfl (live_nil rfl)
    rw [e]
    simp only [Instr.sliceAt, Instr.slice, Sem.run_bind, run_underlying hud, Result.andThen_ok, Option.map_none, Option.isSome_none, Bool.false_eq_true, if_false, Sem.run_pure, size_mk]
    rw [sliceBounds_ok hl hhi p1 p2 p3 (Nat.le_refl _)]
    simp only [Result.andThen_ok, Sem.run_pure, extract_mk]
  · rename_i i0 i xs _ hty
    split at h3
    · rename_i hii
      subst hii
      obtain ⟨l, h4, hl⟩ := ixs h3
      obtain ⟨hh, h5, hhi⟩ := ixs h4
      obtain ⟨t', h6, rfl⟩ := need_run h5
      obtain ⟨⟨p1, p2, p3⟩, hu'⟩ := hu
      have p2 : l ≤ hh := p2
      have p3 : hh ≤ (xs.length : Int) := p3
      obtain ⟨m, hv⟩ : ∃ m, VR E F w m ⟨.sl i0, xs⟩ (a.eval x) := h1
      obtain ⟨k, ad, c, us, rfl, e1, hc, hall, hcell⟩ := VRsl hv
      obtain ⟨d, info, z, hud, hd, hi1, hs1, _⟩ := htt _ _ hty
      simp only [descOk] at hd
      obtain ⟨rfl, ⟨info', z', hi', hs', _⟩, _⟩ := hd
      refine wp_of_one h h6 hu' hn (v := .slice (if c = l.toNat then ad else ad.map (·.add (l.toNat * sz E i0))) (hh.toNat - l.toNat) (c - l.toNat)) (ex_slice ho ?_) (x := .v (.leaf ⟨.sl i0, (xs.take hh.toNat).drop l.toNat⟩ false)) ?_ rfl (live_nil rfl)
      · rw [e1]
        simp only [Instr.sliceAt, Instr.slice, Sem.run_bind, run_underlying hud, Result.andThen_ok, Option.map_none]
        rw [sliceBounds_ok hl hhi p1 p2 p3 hc]
        simp only [Result.andThen_ok, Sem.run_bind, sizeOf, typeInfo, run_program, hi', Sem.run_pure, hs']
      · have hlen : ((xs.take hh.toNat).drop l.toNat).length = hh.toNat - l.toNat := by simp; omega
        refine (⟨k + 1, (if c = l.toNat then ad else ad.map (·.add (l.toNat * sz E i0))), c - l.toNat, (us.take (hh.toNat * sz E i0)).drop (l.toNat * sz E i0), by rw [hlen], by rw [hlen]; omega, ?_, ?_⟩ : LV loc F w (⟨.sl i0, (xs.take hh.toNat).drop l.toNat⟩ : Leaf E.A) _)
        · rw [flat_drop, flat_take]; exact (hall.take _).drop _
        · intro j u hj
          rw [List.getElem?_drop, List.getElem?_take] at hj
          split at hj
          · rename_i hlt
            obtain ⟨ad', rfl, hsp, hcl, hf⟩ := hcell _ _ hj
            have hlc : c ≠ l.toNat := by
              intro e
              have : hh.toNat ≤ l.toNat := by omega
              have := Nat.mul_le_mul_right (sz E i0) this
              omega
            rw [if_neg hlc]
            obtain ⟨bl, of, sp⟩ := ad'
            simp only at hsp; subst hsp
            refine ⟨⟨bl, of + l.toNat * sz E i0, none⟩, by simp [addr_add], rfl, ?_, ?_⟩
            · rw [Nat.add_assoc]; exact hcl
            · rw [Nat.add_assoc]; exact hf
          · cases hj
    · simp [Rd.run] at h3
  · simp [Rd.run] at h3
/-- The cells of a row, read one by one. -/
theorem bytes_run : ∀ (xs : List (E.A 0)) (bs : List UInt8) (us : List Value) (k : Nat), bs.length = xs.length → (∀ (j : Nat) (x : E.A 0) (b : UInt8), xs[j]? = some x → bs[j]? = some b → E.leaves 0 x = [⟨.int .u8, (b.toNat : Int)⟩]) → All2 (VR E F w k) (flat E 0 xs) us → us = bs.map (fun b => Value.int .u8 (b.toNat : Int))
  | [], bs, us, k, hl, _, h => by
    have : bs = [] := List.eq_nil_of_length_eq_zero hl
    subst this
    cases us with
    | nil => rfl
    | cons u us => simp [flat, All2] at h
  | x :: xs, bs, us, k, hl, hb, h => by
    cases bs with
    | nil => simp at hl
    | cons b bs =>
      have e : flat E 0 (x :: xs) = E.leaves 0 x ++ flat E 0 xs := by simp [flat]
      rw [e, hb 0 x b rfl rfl] at h
      cases us with
      | nil => exact h.elim
      | cons u us =>
        obtain ⟨h1, h2⟩ := h
        rw [VRint h1, bytes_run xs bs us k (by simpa using hl) (fun j x' b' hx hb' => hb (j + 1) x' b' (by simpa using hx) (by simpa using hb')) h2]
        rfl
theorem convert_ok (h : Rel n F0 Wr w0 loc F σ a w) (htt : TTOk P E ctx.tt) {st dt : TypeId} {x : Operand} (ho : o.op = .convert st dt x) (hr : (sConvert ctx o.dst st dt x).run σ = some t) (hu : t.reach u) (hn : ∀ d, o.dst = some d → d < n) :
    o.wp P a w (Goal n F0 Wr w0 (u ++ σ)) Q := by
  unfold sConvert at hr
  split at hr
  · simp [Rd.run] at hr
  · rename_i sty hsty
    have hs : ∃ d, P.underlying st = some d := by
      have := htt _ _ hsty
      cases sty with
      | leaf l => obtain ⟨d, _, _, hud, _⟩ := this; exact ⟨d, hud⟩
      | agg ls fs => obtain ⟨flds, _, _, hud, _⟩ := this; exact ⟨_, hud⟩
    obtain ⟨sd, hsd⟩ := hs
    obtain ⟨tv, h1, h2, h3, hx4⟩ := rdT_ok h hr
    split at h3
    · rename_i k _ m _ hty
      have e := LVint (loc := loc) h1
      obtain ⟨d, info, z, hud, hd, _⟩ := htt _ _ hty
      simp only [descOk] at hd; subst hd
      exact wp_of_int h h3 hu hn (ex_convert ho (by rw [e]; simp [convert, run_underlying hsd, run_underlying hud, Conv.intToInt]))
    · rename_i s _ hty
      have e := LVstr (loc := loc) h1
      obtain ⟨d, info, z, hud, hd, _⟩ := htt _ _ hty
      simp only [descOk] at hd; subst hd
      exact wp_of_one h h3 hu hn (v := .string ⟨s.toArray⟩) (ex_convert ho (by rw [e]; simp [convert, run_underlying hsd, run_underlying hud])) (mkStr s) rfl (live_nil rfl)
    · rename_i m _ hty
      have e := LVint (loc := loc) h1
      obtain ⟨m', hm'⟩ : ∃ m' : Int, m' = m := ⟨m, rfl⟩
      subst hm'
      obtain ⟨t', h5, rfl⟩ := need_run h3
      obtain ⟨⟨hp1, hp2⟩, hu'⟩ := hu
      have hp1 : (0 : Int) ≤ m' := hp1
      have hp2 : m' < (128 : Int) := hp2
      obtain ⟨d, info, z, hud, hd, _⟩ := htt _ _ hty
      simp only [descOk] at hd; subst hd
      refine wp_of_one h h5 hu' hn (v := .string ⟨[UInt8.ofNat m'.toNat].toArray⟩) ?_ (mkStr _) rfl (live_nil rfl)
      refine ex_convert ho ?_
      rw [e]
      have hv : Utf8.valid m' = true := by simp [Utf8.valid]; left; omega
      have he : Utf8.encode m' = ⟨#[UInt8.ofNat m'.toNat]⟩ := by
        unfold Utf8.encode
        rw [hv]
        simp only [if_true]
        rw [if_pos (by omega)]
      simp [convert, run_underlying hsd, run_underlying hud, Conv.intToString, he]
    · rename_i xs _ hty
      split at h3
      · obtain ⟨m, hv⟩ : ∃ m, VR E F w m ⟨.sl 0, xs⟩ (a.eval x) := h1
        obtain ⟨k, ad, c, us, rfl, e1, hc, hall, hcell⟩ := VRsl hv
        obtain ⟨d, info, z, hud, hd, _⟩ := htt _ _ hty
        simp only [descOk] at hd; subst hd
        obtain ⟨d', info', z', hud', hd', _⟩ := htt _ _ hsty
        simp only [descOk] at hd'
        obtain ⟨rfl, _, h0⟩ := hd'
        refine wp_of_one h h3 hu hn (v := .string ⟨(E.tbs xs).toArray⟩) (ex_convert ho ?_) (mkStr _) rfl (live_nil rfl)
        rw [e1]
        have hus := bytes_run xs (E.tbs xs) us k (E.tbs_len xs) (fun j x b hx hb => E.tbs_at xs j x b hx hb) hall
        have hstr : strOfNums ((E.tbs xs).map fun b => (b.toNat : Int)) = ⟨(E.tbs xs).toArray⟩ := by
          unfold strOfNums; congr 2
          rw [List.map_map]
          conv => rhs; rw [← List.map_id (E.tbs xs)]
          apply List.map_congr_left
          intro b _
          simp
        cases ad with
        | none =>
          have hx0 : xs = [] := by
            cases xs with
            | nil => rfl
            | cons x xs =>
              have hb : (E.tbs (x :: xs)) ≠ [] := by intro e; have := E.tbs_len (x :: xs); rw [e] at this; simp at this
              have hl : 0 < us.length := by rw [hus, List.length_map]; exact List.length_pos_iff.2 hb
              obtain ⟨ad, e, _⟩ := hcell 0 _ (List.getElem?_eq_getElem hl)
              cases e
          subst hx0
          have he : E.tbs [] = [] := List.eq_nil_of_length_eq_zero (E.tbs_len [])
          rw [he]
          exact run_convert_bytes_nil w st _ hud' (h0 trivial) _ _ dt hud
        | some ad =>
          rw [← hstr]
          obtain ⟨bl, of, sp⟩ := ad
          by_cases hsp : sp = none
          · subst hsp
            refine run_convert_bytes_arg w st _ hud' (h0 trivial) bl of _ c _ (by rw [List.length_map, E.tbs_len]) (fun i hi => ?_) dt hud
            have hi' : i < us.length := by rw [hus, List.length_map, E.tbs_len]; exact hi
            obtain ⟨ad, e, _, hcl, _⟩ := hcell i _ (List.getElem?_eq_getElem hi')
            injection e with e; subst e
            rw [hcl]
            have hi2 : i < (E.tbs xs).length := by rw [E.tbs_len]; exact hi
            simp [hus, List.getElem?_eq_getElem hi2]
          · have hx0 : xs = [] := by
              cases xs with
              | nil => rfl
              | cons x xs =>
                have hb : (E.tbs (x :: xs)) ≠ [] := by intro e; have := E.tbs_len (x :: xs); rw [e] at this; simp at this
                have hl : 0 < us.length := by rw [hus, List.length_map]; exact List.length_pos_iff.2 hb
                obtain ⟨ad, e, hsn, _⟩ := hcell 0 _ (List.getElem?_eq_getElem hl)
                injection e with e; subst e; exact absurd hsn hsp
            subst hx0
            have he : E.tbs [] = [] := List.eq_nil_of_length_eq_zero (E.tbs_len [])
            rw [he]
            simp [convert, run_underlying hud', run_underlying (h0 trivial), run_underlying hud, Conv.bytesToString, loadCells, loadCellsFrom, strOfNums]
            rfl
      · simp [Rd.run] at h3
    · simp [Rd.run] at h3
end
end Go.Rf
end
section
set_option linter.unusedSimpArgs false
set_option linter.unusedVariables false
namespace Go.Rf
open Go.RowKit
variable {E : Env} {P : Program}
section
variable {n : Nat} {F0 Wr : Nat → Nat → Prop} {w0 : Base} {loc : Nat → Nat} {F : Nat → Nat → Prop} {σ : St E.A} {a : Act} {w : World} {Q : Exit → Act → World → Prop}
variable {o : Oper} {t : Tree (Upd E)} {u : Upd E} {ctx : Ctx E}
/-- A variable of a type, read at an address whose cells are known. -/
theorem loadVar_ok {s : TypeId} {ty : Ty} (hty : TyOk P E s ty) {b off : Nat} {vs : List Value} (hlen : vs.length = ty.size) (hc : ∀ j v, vs[j]? = some v → w.cell? ⟨b, off + j, none⟩ = some v) {ls : List (Leaf E.A)} (hls : All2 (LV loc F w) ls vs) {tv : TV E.A} (h : asTV ty ls = some tv) :
    ∃ v, (loadVar s ⟨b, off, none⟩).run P w = .ok v w ∧ TVR loc F w tv v ∧ (RV.v tv).free ∧ (∀ b ∈ tv.names, b ∈ ls.filterMap Leaf.names) := by
  have hsz := sizeOf_ok (P := P) (w := w) hty
  cases ty with
  | leaf l0 =>
    have hq : ∀ q, asTV (.leaf l0) q = some tv → ∃ l, q = [l] ∧ tv = .leaf l false := by
      intro q hh
      match q with
      | [] => simp [asTV] at hh
      | [l] => simp [asTV] at hh; exact ⟨l, rfl, hh.symm⟩
      | _ :: _ :: _ => simp [asTV] at hh
    obtain ⟨l, rfl, rfl⟩ := hq _ h
    match vs, hls with
    | [v], hls =>
      have h0 := hc 0 v rfl
      refine ⟨v, ?_, hls.1, rfl, ?_⟩
      · simp only [loadVar, Sem.run_bind, isAgg_leaf hty, Result.andThen_ok]
        simp at h0
        simp [h0]
      · intro b' hb; simp only [TV.names, Option.mem_toList] at hb
        exact List.mem_filterMap.2 ⟨l, List.mem_singleton.2 rfl, hb⟩
  | agg ts fs =>
    simp only [asTV] at h
    split at h
    · injection h with h; subst h
      refine ⟨.agg vs.toArray, ?_, ⟨_, rfl, by simpa using hls⟩, trivial, fun b hb => hb⟩
      simp only [loadVar, Sem.run_bind, isAgg_agg hty, Result.andThen_ok, if_true, hsz]
      rw [← hlen, run_loadCells_list w ⟨b, off, none⟩ vs (fun j v hj => by rw [addr_add]; exact hc j v hj)]
      rfl
    · cases h
theorem map_set_same {cells : List (Leaf E.A × Bool)} {off : Nat} {l : Leaf E.A} {b b' : Bool} (hk : cells[off]? = some (l, b)) : (cells.set off (l, b')).map (·.1) = cells.map (·.1) := by
  apply List.ext_getElem?
  intro j
  rw [List.getElem?_map, List.getElem?_map, List.getElem?_set]
  split
  · rename_i e; subst e
    rw [hk]
    split
    · rfl
    · rename_i hh; rw [List.getElem?_eq_none (by omega)] at hk; cases hk
  · rfl
theorem load_ok (h : Rel n F0 Wr w0 loc F σ a w) (htt : TTOk P E ctx.tt) {ops : List Oper} {s : TypeId} {x : Operand} (ho : o.op = .load s x) (hr : (sLoad ctx ops o.dst s x).run σ = some t) (hu : t.reach u) (hn : ∀ d, o.dst = some d → d < n) :
    o.wp P a w (Goal n F0 Wr w0 (u ++ σ)) Q := by
  unfold sLoad at hr
  split at hr
  · simp [Rd.run] at hr
  · rename_i ty hty
    have hT := htt _ _ hty
    obtain ⟨rv, h1, h2, h3, hx4⟩ := rdO_ok h hr
    split at h3
    · rename_i b off _
      have ea : a.eval x = .pointer (some ⟨loc b, off, none⟩) := h1
      simp only [Rd.run] at h3
      split at h3
      · rename_i bt cells hb
        have hns : noSelf ((cells.drop off).take ty.size) = true := by
          cases hx : noSelf ((cells.drop off).take ty.size) with
          | true => rfl
          | false => rw [hx] at h3; simp [Rd.run] at h3
        rw [hns] at h3
        simp only [Bool.not_true, cond_false] at h3
        obtain ⟨cs, hcs, hall, _⟩ := h.blk b bt cells hb
        have hcell : ∀ j v, cs.toList[j]? = some v → w.cell? ⟨loc b, j, none⟩ = some v := by
          intro j v hj; simp only [World.cell?, hcs]; simpa using hj
        have hall' : All2 (LV loc F w) (((cells.drop off).take ty.size).map (·.1)) ((cs.toList.drop off).take ty.size) := by
          refine LVs_of_CVs (me := loc b) hns ?_
          rw [List.map_take, List.map_drop]; exact (hall.drop off).take ty.size
        have hnm : ∀ l, l ∈ ((cells.drop off).take ty.size).map (·.1) → ∀ b', l.names = some b' → ∃ ty cells, get σ (bk b') = .blk ty cells := by
          intro l hl b' hb'
          obtain ⟨p, hp, rfl⟩ := List.mem_map.1 hl
          refine h.live (bk b) (.inr (by unfold bk; omega)) b' ?_
          rw [hb]; simp only [RV.names]
          exact List.mem_filterMap.2 ⟨p, List.mem_of_mem_drop (List.mem_of_mem_take hp), hb'⟩
        have hcell' : ∀ j v, ((cs.toList.drop off).take ty.size)[j]? = some v → w.cell? ⟨loc b, off + j, none⟩ = some v := by
          intro j v hj
          rw [List.getElem?_take] at hj
          split at hj
          · rw [List.getElem?_drop] at hj; exact hcell _ _ hj
          · cases hj
        have go : ∀ {ls : List (Leaf E.A)} {tv : TV E.A}, ls = ((cells.drop off).take ty.size).map (·.1) → asTV ty ls = some tv → ((cells.drop off).take ty.size).length = ty.size →
            ∃ v, (execOp a.eval o).run P w = .ok (.value v) w ∧ TVR loc F w tv v ∧ (RV.v tv).free ∧ Live σ (.v tv) := by
          intro ls tv hls has hlen
          subst hls
          have hl2 : ((cs.toList.drop off).take ty.size).length = ty.size := by rw [← hall'.len, List.length_map]; exact hlen
          obtain ⟨v, hv, hrel, hfree, hnames⟩ := loadVar_ok hT hl2 hcell' hall' has
          refine ⟨v, ex_load ho ?_, hrel, hfree, fun b' hb' => ?_⟩
          · rw [ea]; simp only [Instr.loadAt, Instr.sureAddr, Sem.run_bind, Sem.run_pure, Result.andThen_ok, hv]
          · obtain ⟨l, hl, e⟩ := List.mem_filterMap.1 (hnames b' hb')
            exact hnm l hl b' e
        split at h3
        · rename_i lt l own heq
          split at h3
          · rename_i d hd
            have hdn := hn d hd
            obtain ⟨v, hv, hrel, hfree, hlive⟩ := go (ls := [l]) (tv := .leaf l false) (by rw [heq]; rfl) rfl (by rw [heq]; rfl)
            split at h3
            · rename_i i xs
              cases hc : own && taken ctx ops d with
              | false =>
                rw [hc] at h3; simp only [cond_false, Rd.run, Option.some.injEq] at h3
                subst h3; simp only [Tree.reach] at hu; subst hu
                exact wp_one h hd hdn hv hrel rfl hlive
              | true =>
                rw [hc] at h3; simp only [cond_true, Rd.run, Option.some.injEq] at h3
                subst h3; simp only [Tree.reach] at hu; subst hu
                simp only [Bool.and_eq_true] at hc
                obtain ⟨rfl, _⟩ := hc
                have hk : cells[off]? = some (⟨.sl i, xs⟩, true) := by
                  have : ((cells.drop off).take 1)[0]? = some (⟨.sl i, xs⟩, true) := by
                    have heq' : (cells.drop off).take 1 = [(⟨.sl i, xs⟩, true)] := heq
                    rw [heq']; rfl
                  simpa using this
                obtain ⟨v', hv', hrel'⟩ := hall.get (j := off) (a := ⟨.sl i, xs⟩) (by rw [List.getElem?_map, hk]; rfl)
                have hcv := hcell _ _ hv'
                have hvv : v = v' := by
                  have h0 : ((cs.toList.drop off).take 1)[0]? = some v' := by simpa using hv'
                  have : (loadVar s ⟨loc b, off, none⟩).run P w = .ok v' w := by
                    have hT' : TyOk P E s (.leaf lt) := hT
                    simp only [loadVar, Sem.run_bind, isAgg_leaf hT', Result.andThen_ok]
                    simp [hcv]
                  have e2 := ex_load (P := P) (w := w) ho (v := v') (w' := w) (by rw [ea]; simp only [Instr.loadAt, Instr.sureAddr, Sem.run_bind, Sem.run_pure, Result.andThen_ok, this])
                  rw [e2] at hv
                  injection hv with hv _; injection hv with hv; exact hv.symm
                subst hvv
                refine wp_val hv ?_
                rw [hd]
                have hbd : bk b ≠ d := bk_ne_slot h.n_le hdn
                refine ⟨loc, F, h.steal hdn (r := bk b) (k := off) (.blk b off i xs bt cells v hb hk hcv) hbd (x' := .blk bt (cells.set off (⟨.sl i, xs⟩, false))) hrel (fun hlt => ?_) (fun b' hb' => ?_) (fun hlt => ?_) (.inr ⟨b, rfl⟩) (fun b' hb' => ?_) ?_⟩
                · exact absurd hlt (by have := h.n_le; unfold bk; omega)
                · refine ⟨bt, cells, _, hb, rfl, ?_⟩
                  exact map_set_same hk
                · exact absurd hlt (by have := h.n_le; unfold bk; omega)
                · rw [hb]; simp only [RV.names] at hb' ⊢
                  obtain ⟨p, hp, e⟩ := List.mem_filterMap.1 hb'
                  rcases List.mem_or_eq_of_mem_set hp with hp | rfl
                  · exact List.mem_filterMap.2 ⟨p, hp, e⟩
                  · cases e
                · intro k' i' xs' u' hh
                  generalize hr0 : bk b = r0 at hh
                  cases hh with
                  | slot t' _ _ ht hg => exact absurd hr0 (bk_ne_slot h.n_le ht)
                  | tup t' _ _ _ ts us _ ht hg => exact absurd hr0 (bk_ne_slot h.n_le ht)
                  | blk b2 _ _ _ ty2 cells2 _ hg hk2 hu2 =>
                    have := bk_inj hr0; subst this
                    rw [get_cons, if_pos rfl] at hg
                    injection hg with e1 e2; subst e1; subst e2
                    by_cases e : k' = off
                    · subst e
                      rw [List.getElem?_set_self (by have := (List.getElem?_eq_some_iff.1 hk).1; exact this)] at hk2
                      injection hk2 with hk2; injection hk2 with _ hk2; cases hk2
                    · rw [List.getElem?_set_ne (Ne.symm e)] at hk2
                      exact ⟨e, .blk b k' i' xs' bt cells u' hb hk2 hu2⟩
            · simp only [Rd.run, Option.some.injEq] at h3
              subst h3; simp only [Tree.reach] at hu; subst hu
              exact wp_one h hd hdn hv hrel rfl hlive
          · simp [Rd.run] at h3
        · rename_i ts fs
          split at h3
          · rename_i hlen
            obtain ⟨v, hv, hrel, hfree, hlive⟩ := go (ls := ((cells.drop off).take (Ty.agg ts fs).size).map (·.1)) (tv := .agg (((cells.drop off).take (Ty.agg ts fs).size).map (·.1))) rfl (by simp only [asTV]; rw [if_pos (by rw [List.length_map]; exact hlen)]) hlen.symm
            exact wp_of_one h h3 hu hn hv hrel hfree hlive
          · simp [Rd.run] at h3
        · simp [Rd.run] at h3
      · simp [Rd.run] at h3
    · rename_i e xs j off
      obtain ⟨ad, c, m, g1, g2, ea⟩ := h1
      split at h3
      · rename_i tv htv
        obtain ⟨k, ad', c', us, rfl, e1, hc, hall, hcell⟩ := VRsl g1
        injection e1 with e1 _ e2; subst e1; subst e2
        have hx : xs[j]? = some (xs.getD j (E.dflt e)) := by simp [List.getD, List.getElem?_eq_getElem g2]
        have hfl := flat_at E e xs j _ hx
        have hus : All2 (VR E F w k) (E.leaves e (xs.getD j (E.dflt e))) ((us.drop (j * sz E e)).take (sz E e)) := by rw [← hfl]; exact (hall.drop _).take _
        have hcl : ∀ m v, ((us.drop (j * sz E e)).take (sz E e))[m]? = some v → w.cell? ⟨ad.block, ad.off + (j * sz E e + m), none⟩ = some v := by
          intro m v hm
          rw [List.getElem?_take] at hm
          split at hm
          · rw [List.getElem?_drop] at hm
            obtain ⟨ad', ea', _, hcc, _⟩ := hcell _ _ hm
            injection ea' with ea'; subst ea'; exact hcc
          · cases hm
        have hlen : (((((us.drop (j * sz E e)).take (sz E e)).drop off).take ty.size)).length = ty.size := by
          have h1 := ((hus.drop off).take ty.size).len
          rw [← h1]
          cases ty with
          | leaf lt =>
            match hq : ((E.leaves e (xs.getD j (E.dflt e))).drop off).take (Ty.leaf lt).size, htv with
            | [], htv => simp [asTV] at htv
            | [l], _ => rfl
            | _ :: _ :: _, htv => simp [asTV] at htv
          | agg ts fs =>
            simp only [asTV] at htv
            split at htv
            · rename_i hh; exact hh.symm
            · cases htv
        obtain ⟨v, hv, hrel, hfree, hnames⟩ := loadVar_ok (loc := loc) (F := F) hT (b := ad.block) (off := ad.off + (j * sz E e + off)) hlen (fun m v hm => by
          rw [List.getElem?_take] at hm
          split at hm
          · rw [List.getElem?_drop] at hm
            have := hcl _ _ hm
            rw [Nat.add_assoc, Nat.add_assoc]; exact this
          · cases hm) (((hus.drop off).take ty.size).mono (fun l v hl => LV_of hl)) htv
        refine wp_of_one h h3 hu hn (ex_load ho ?_) hrel hfree (fun b hb => ?_)
        · rw [ea]; simp only [Instr.loadAt, Instr.sureAddr, Sem.run_bind, Sem.run_pure, Result.andThen_ok, hv]
        · obtain ⟨l, hl, e2⟩ := List.mem_filterMap.1 (hnames b hb)
          have hsh := E.leaves_shape e (xs.getD j (E.dflt e))
          have : l.t ∈ E.shape e := by rw [← hsh]; exact List.mem_map.2 ⟨l, List.mem_of_mem_drop (List.mem_of_mem_take hl), rfl⟩
          have := (E.noptr e _ this).1
          obtain ⟨lt, lx⟩ := l
          cases lt <;> first | (simp [Leaf.names] at e2; done) | exact absurd rfl this
      · simp [Rd.run] at h3
    · simp [Rd.run] at h3
end
end Go.Rf
end
section
set_option linter.unusedSimpArgs false
set_option linter.unusedVariables false
namespace Go.Rf
open Go.RowKit
variable {E : Env} {P : Program}
section
variable {n : Nat} {F0 Wr : Nat → Nat → Prop} {w0 : Base} {loc : Nat → Nat} {F : Nat → Nat → Prop} {σ : St E.A} {a : Act} {w : World} {Q : Exit → Act → World → Prop}
variable {o : Oper} {t : Tree (Upd E)} {u : Upd E} {ctx : Ctx E}
theorem nil_sl (i : Nat) : LV (E := E) loc F w ⟨.sl i, []⟩ (.slice none 0 0) := ⟨1, none, 0, [], rfl, Nat.le_refl _, trivial, by simp⟩
theorem coLeaf_ok {t : LT} {l l' : Leaf E.A} {v : Value} (h : coLeaf t l = some l') (hv : LV loc F w l v) : LV loc F w l' v ∧ l'.t = t ∧ ((l' = l ∧ l.t ≠ .nil ∨ l' = l ∧ t = .nil) ∨ (l.t = .nil ∧ ∃ i, l' = ⟨.sl i, []⟩ ∧ v = .slice none 0 0)) := by
  unfold coLeaf at h
  split at h
  · injection h with h; subst h
    have e := LVnil (loc := loc) hv
    subst e
    exact ⟨nil_sl _, rfl, .inr ⟨rfl, _, rfl, rfl⟩⟩
  · split at h
    · rename_i e; injection h with h; subst h
      refine ⟨hv, e.symm, .inl ?_⟩
      by_cases hn : t = .nil
      · exact .inr ⟨rfl, hn⟩
      · exact .inl ⟨rfl, fun e' => hn (e.trans e')⟩
    · cases h
theorem coLeaf_names {t : LT} {l l' : Leaf E.A} (h : coLeaf t l = some l') : ∀ b, l'.names = some b → l.names = some b := by
  unfold coLeaf at h
  split at h
  · injection h with h; subst h; intro b hb; cases hb
  · split at h
    · injection h with h; subst h; exact fun b hb => hb
    · cases h
theorem coLeaves_ok : ∀ {ts : List LT} {ls ls' : List (Leaf E.A)} {vs : List Value}, coLeaves ts ls = some ls' → All2 (LV loc F w) ls vs → All2 (LV loc F w) ls' vs ∧ ls'.map (·.t) = ts
  | [], [], ls', vs, h, hv => by simp [coLeaves] at h; subst h; exact ⟨hv, rfl⟩
  | [], _ :: _, _, _, h, _ => by simp [coLeaves] at h
  | _ :: _, [], _, _, h, _ => by simp [coLeaves] at h
  | t :: ts, l :: ls, ls', vs, h, hv => by
    simp only [coLeaves] at h
    split at h
    · rename_i l1 ls1 h1 h2
      injection h with h; subst h
      match vs, hv with
      | v :: vs, hv =>
        obtain ⟨a1, a2, _⟩ := coLeaf_ok h1 hv.1
        obtain ⟨b1, b2⟩ := coLeaves_ok h2 hv.2
        exact ⟨⟨a1, b1⟩, by simp [a2, b2]⟩
    · cases h
theorem coLeaves_names : ∀ {ts : List LT} {ls ls' : List (Leaf E.A)}, coLeaves ts ls = some ls' → ∀ b ∈ ls'.filterMap Leaf.names, b ∈ ls.filterMap Leaf.names
  | [], [], ls', h, b, hb => by simp [coLeaves] at h; subst h; exact hb
  | [], _ :: _, _, h, _, _ => by simp [coLeaves] at h
  | _ :: _, [], _, h, _, _ => by simp [coLeaves] at h
  | t :: ts, l :: ls, ls', h, b, hb => by
    simp only [coLeaves] at h
    split at h
    · rename_i l1 ls1 h1 h2
      injection h with h; subst h
      obtain ⟨x, hx, e⟩ := List.mem_filterMap.1 hb
      rcases List.mem_cons.1 hx with rfl | hx
      · exact List.mem_filterMap.2 ⟨l, List.mem_cons_self, coLeaf_names h1 b e⟩
      · obtain ⟨y, hy, e'⟩ := List.mem_filterMap.1 (coLeaves_names h2 b (List.mem_filterMap.2 ⟨x, hx, e⟩))
        exact List.mem_filterMap.2 ⟨y, List.mem_cons_of_mem _ hy, e'⟩
    · cases h
theorem coTV_ok {ty : Ty} {x y : TV E.A} {v : Value} (h : coTV ty x = some y) (hv : TVR loc F w x v) : TVR loc F w y v ∧ (∀ b ∈ y.names, b ∈ x.names) ∧ y.leaves.map (·.t) = ty.shape := by
  match ty, x, h with
  | .leaf t, .leaf l o, h =>
    simp only [coTV] at h
    split at h
    · rename_i l' hl
      injection h with h; subst h
      obtain ⟨h1, h2, _⟩ := coLeaf_ok hl hv
      refine ⟨h1, fun b hb => ?_, by simp [TV.leaves, Ty.shape, h2]⟩
      simp only [TV.names, Option.mem_toList] at hb ⊢
      exact coLeaf_names hl b hb
    · cases h
  | .agg ts fs, .agg ls, h =>
    simp only [coTV] at h
    obtain ⟨ls', hl, rfl⟩ := Option.map_eq_some_iff.1 h
    obtain ⟨cs, rfl, hc⟩ := hv
    obtain ⟨h1, h2⟩ := coLeaves_ok hl hc
    exact ⟨⟨cs, rfl, h1⟩, coLeaves_names hl, h2⟩
  | .leaf _, .agg _, h => simp [coTV] at h
  | .agg _ _, .leaf _ _, h => simp [coTV] at h
/-- An owned leaf that was made a type's own: it is the same, or it was nil. -/
theorem coTV_own {ty : Ty} {x : TV E.A} {i : Nat} {xs : List (E.A i)} {v : Value} (h : coTV ty x = some (.leaf ⟨.sl i, xs⟩ true)) (hv : TVR loc F w x v) : x = .leaf ⟨.sl i, xs⟩ true ∨ (xs = [] ∧ v = .slice none 0 0 ∧ ∃ l o, x = .leaf l o ∧ l.t = .nil) := by
  match ty, x, h with
  | .leaf t, .leaf l o, h =>
    simp only [coTV] at h
    split at h
    · rename_i l' hl
      injection h with h; injection h with h1 h2
      obtain ⟨_, _, h3⟩ := coLeaf_ok hl hv
      rcases h3 with (⟨e, hne⟩ | ⟨e, _⟩) | ⟨hn, i', e, hvv⟩
      · subst e; subst h1
        left; simp only at h2; rw [h2]
      · subst e; subst h1; left; simp only at h2; rw [h2]
      · subst e
        injection h1 with e1 e2
        injection e1 with e1; subst e1
        obtain rfl := eq_of_heq e2
        exact .inr ⟨rfl, hvv, l, o, rfl, hn⟩
    · cases h
  | .agg ts fs, .agg ls, h => simp only [coTV] at h; obtain ⟨_, _, h⟩ := Option.map_eq_some_iff.1 h; cases h
  | .leaf _, .agg _, h => simp [coTV] at h
  | .agg _ _, .leaf _ _, h => simp [coTV] at h
theorem splice_at {α : Type} {off : Nat} {new cells : List α} (hl : off + new.length ≤ cells.length) (k : Nat) : (splice off new cells)[k]? = if k < off then cells[k]? else if k < off + new.length then new[k - off]? else cells[k]? := by
  unfold splice
  have h1 : (cells.take off).length = off := by simp; omega
  by_cases h : k < off
  · rw [if_pos h, List.append_assoc, List.getElem?_append_left (by omega), List.getElem?_take, if_pos h]
  · rw [if_neg h]
    by_cases h' : k < off + new.length
    · rw [if_pos h', List.getElem?_append_left (by rw [List.length_append]; omega), List.getElem?_append_right (by omega), h1]
    · rw [if_neg h', List.getElem?_append_right (by rw [List.length_append]; omega), List.length_append, h1, List.getElem?_drop]
      congr 1; omega
theorem splice_map {α β : Type} (f : α → β) (off : Nat) (new cells : List α) : (splice off new cells).map f = splice off (new.map f) (cells.map f) := by simp [splice, List.map_take, List.map_drop]
theorem splice_all {α β : Type} {R : α → β → Prop} {off : Nat} {new cells : List α} {new' cells' : List β} (h : All2 R cells cells') (h' : All2 R new new') : All2 R (splice off new cells) (splice off new' cells') := by
  unfold splice; rw [h'.len]; exact ((h.take off).app h').app (h.drop _)
theorem splice_len {α : Type} {off : Nat} {new cells : List α} (hl : off + new.length ≤ cells.length) : (splice off new cells).length = cells.length := by simp [splice]; omega
/-- Cells of a variable are written. -/
theorem Rel.write (h : Rel n F0 Wr w0 loc F σ a w) {b : Nat} {bt : TypeId} {cells new : List (Leaf E.A × Bool)} {off : Nat} {cs : Array Value} {vs : List Value} (hb : get σ (bk b) = .blk bt cells) (hcs : w.heap[loc b]? = some (.cells cs bt (0, 0)))
    (hl : off + new.length ≤ cells.length) (hv : All2 (LV loc F w) (new.map (·.1)) vs) (hnm : ∀ p ∈ new, ∀ b', p.1.names = some b' → ∃ ty cells, get σ (bk b') = .blk ty cells)
    (back : St E.A) (hback : back = [] ∨ ∃ s x, s < n ∧ back = [(s, .v (TV.un x))] ∧ get σ s = .v x)
    (hown : ∀ k i xs, new[k]? = some (⟨.sl i, xs⟩, true) → (xs = [] ∧ ∀ v, vs[k]? = some v → v = .slice none 0 0) ∨ (k = 0 ∧ ∃ s, s < n ∧ back = [(s, .v (.leaf ⟨.sl i, xs⟩ false))] ∧ get σ s = .v (.leaf ⟨.sl i, xs⟩ true) ∧ vs[k]? = some (a.tmps.getD s undef))) :
    Rel n F0 Wr w0 loc F ((bk b, .blk bt (splice off new cells)) :: (back ++ σ)) a (w.setRow (loc b) (splice off vs cs.toList).toArray) := by
  have hW := h.blk b bt cells hb
  obtain ⟨cs', hcs', hall, hFb⟩ := hW
  have hcc : cs' = cs := by rw [hcs] at hcs'; injection hcs' with e; injection e with e; exact e.symm
  subst hcc
  have hvl : vs.length = new.length := by rw [← hv.len, List.length_map]
  have hclen : cells.length = cs'.toList.length := by have := hall.len; simpa using this
  have hnewlen : (splice off vs cs'.toList).length = cs'.size := by rw [splice_len (by rw [hvl]; omega)]; simp
  have hheap := setRow_heap w (loc b) cs' (splice off vs cs'.toList).toArray bt (0, 0) hcs
  have hmv : Mv F w F (w.setRow (loc b) (splice off vs cs'.toList).toArray) := by
    intro g o u hf hc
    refine ⟨?_, hf⟩
    by_cases e : g = loc b
    · subst e; exact absurd (hFb o).1 hf
    · simpa [World.cell?, setRow_other w (loc b) g _ e] using hc
  have hgback : ∀ r, get (back ++ σ) r = get σ r ∨ ∃ s x, s < n ∧ r = s ∧ back = [(s, .v (TV.un x))] ∧ get σ s = .v x ∧ get (back ++ σ) r = .v x.un := by
    intro r
    rcases hback with rfl | ⟨s, x, hs, rfl, hx⟩
    · exact .inl rfl
    · by_cases e : s = r
      · exact .inr ⟨s, x, hs, e.symm, rfl, hx, by simp [get_cons, e]⟩
      · exact .inl (by simp [get_cons, e])
  have hgb : ∀ b', get (back ++ σ) (bk b') = get σ (bk b') := by
    intro b'
    rcases hgback (bk b') with e | ⟨s, x, hs, e, _⟩
    · exact e
    · exact absurd e (bk_ne_slot h.n_le hs)
  have hg : ∀ r, get ((bk b, RV.blk bt (splice off new cells)) :: (back ++ σ)) r = if bk b = r then .blk bt (splice off new cells) else get (back ++ σ) r := fun r => get_cons _ _ _ _
  have hlive : ∀ b', (∃ ty cells, get σ (bk b') = .blk ty cells) → ∃ ty c, get ((bk b, RV.blk bt (splice off new cells)) :: (back ++ σ)) (bk b') = .blk ty c := by
    rintro b' ⟨ty, c, hc⟩
    rw [hg]
    by_cases e : bk b = bk b'
    · rw [if_pos e]; exact ⟨_, _, rfl⟩
    · rw [if_neg e, hgb]; exact ⟨ty, c, hc⟩
  have hsp := splice_at hl
  have hbs : ∀ {s}, s < n → bk b ≠ s := fun hs => bk_ne_slot h.n_le hs
  refine h.move (M := fun r k x y => (r = bk b ∧ k = off ∧ x < n ∧ y = 0 ∧ ∃ v, back = [(x, v)]) ∨ (r = x ∧ k = y ∧ ¬ (y = 0 ∧ x < n ∧ ∃ v, back = [(x, v)]))) h.size h.defers (fun s hs hs' => ?_) (fun s hs => ?_) (fun b' ty c hc => ?_) (fun r hr b' hb' => ?_) ?_ (fun r k i xs u' hh => ?_) (fun r k i xs u' g h1 h2 => ?_) ?_ (by simp [World.setRow])
  · rw [hg, if_neg (by unfold bk; omega)]
    rcases hgback s with e | ⟨s', x, hs1, e, _⟩
    · rw [e]; exact h.hi s hs hs'
    · omega
  · rw [hg, if_neg (hbs hs)]
    rcases hgback s with e | ⟨s', x, hs1, rfl, _, hx, e⟩
    · rw [e]; exact RVR_mv hmv (fun _ _ => rfl) (h.slot s hs)
    · rw [e]
      have := h.slot s hs
      rw [hx] at this
      exact RVR_mv (x := .v x.un) hmv (fun _ _ => rfl) (TVR_un this)
  · rw [hg] at hc
    by_cases e : bk b = bk b'
    · rw [if_pos e] at hc
      have e' := bk_inj e
      subst e'
      injection hc with e1 e2; subst e1; subst e2
      refine ⟨cells, hb, _, hheap, ?_⟩
      rw [splice_map]
      have : (splice off vs cs'.toList).toArray.toList = splice off vs cs'.toList := rfl
      rw [this]
      exact splice_all (hall.mono (fun _ _ => CV_mv hmv (fun _ _ => rfl))) (hv.mono (fun _ _ hx => CV_of (LV_mv hmv (fun _ _ => rfl) hx)))
    · rw [if_neg e, hgb] at hc
      obtain ⟨cs2, h1, h2, _⟩ := h.blk b' ty c hc
      have hne : loc b' ≠ loc b := fun e' => e (by rw [h.inj _ _ _ _ _ _ hc hb e'])
      exact ⟨c, hc, cs2, (setRow_other w (loc b) _ _ hne).trans h1, h2.mono (fun _ _ => CV_mv hmv (fun _ _ => rfl))⟩
  · rw [hg] at hb'
    by_cases e : bk b = r
    · rw [if_pos e] at hb'
      simp only [RV.names] at hb'
      obtain ⟨p, hp, e2⟩ := List.mem_filterMap.1 hb'
      have hp' : p ∈ cells ∨ p ∈ new := by
        unfold splice at hp
        rcases List.mem_append.1 hp with hp | hp
        · rcases List.mem_append.1 hp with hp | hp
          · exact .inl (List.mem_of_mem_take hp)
          · exact .inr hp
        · exact .inl (List.mem_of_mem_drop hp)
      refine hlive b' ?_
      rcases hp' with hp' | hp'
      · refine h.live (bk b) (.inr (by unfold bk; omega)) b' ?_
        rw [hb]; exact List.mem_filterMap.2 ⟨p, hp', e2⟩
      · exact hnm p hp' b' e2
    · rw [if_neg e] at hb'
      rcases hgback r with e2 | ⟨s', x, hs1, rfl, _, hx, e2⟩
      · rw [e2] at hb'; exact hlive b' (h.live r hr b' hb')
      · rw [e2] at hb'
        refine hlive b' (h.live r hr b' ?_)
        rw [hx]; simpa [RV.names, TV.un] using (by cases x <;> exact hb')
  · rintro r k r' k' x y (⟨rfl, rfl, h3, h4, h5⟩ | ⟨rfl, rfl, h3⟩) (⟨rfl, rfl, g3, g4, g5⟩ | ⟨rfl, rfl, g3⟩)
    · exact ⟨rfl, rfl⟩
    · exact absurd ⟨h4, h3, h5⟩ g3
    · exact absurd ⟨g4, g3, g5⟩ h3
    · exact ⟨rfl, rfl⟩
  · cases hh with
    | slot s i xs hs hgs =>
      rw [hg, if_neg (hbs hs)] at hgs
      rcases hgback r with e | ⟨s', x, hs1, rfl, _, hx, e⟩
      · refine .inr ⟨r, 0, .inr ⟨rfl, rfl, ?_⟩, .slot r i xs hs (e ▸ hgs)⟩
        rintro ⟨_, _, v, hv'⟩
        rcases hback with rfl | ⟨s2, x2, hs2, rfl, hx2⟩
        · cases hv'
        · injection hv' with hv' _; injection hv' with e1 e2; subst e1
          rw [show get ([(s2, RV.v x2.un)] ++ σ) s2 = .v x2.un by simp [get_cons]] at hgs
          injection hgs with hgs
          cases x2 with
          | leaf l ow => simp only [TV.un] at hgs; injection hgs with _ hgs; cases hgs
          | agg ls => cases hgs
      · rw [e] at hgs
        injection hgs with hgs
        cases x with
        | leaf l ow => simp only [TV.un] at hgs; injection hgs with _ hgs; cases hgs
        | agg ls => cases hgs
    | tup s k i xs ts us u' hs hgs hk hvv hu =>
      rw [hg, if_neg (hbs hs)] at hgs
      rcases hgback r with e | ⟨s', x, hs1, rfl, _, hx, e⟩
      · refine .inr ⟨r, k, .inr ⟨rfl, rfl, ?_⟩, .tup r k i xs ts us u' hs (e ▸ hgs) hk hvv hu⟩
        rintro ⟨_, _, v, hv'⟩
        rcases hback with rfl | ⟨s2, x2, hs2, rfl, hx2⟩
        · cases hv'
        · injection hv' with hv' _; injection hv' with e1 e2; subst e1
          rw [show get ([(s2, RV.v x2.un)] ++ σ) s2 = .v x2.un by simp [get_cons]] at hgs
          cases hgs
      · rw [e] at hgs; cases hgs
    | blk b2 k i xs ty c u' hgs hk hu =>
      rw [hg] at hgs
      by_cases e : bk b = bk b2
      · rw [if_pos e] at hgs
        have e' := bk_inj e; subst e'
        injection hgs with e1 e2; subst e1; subst e2
        have hu0 : (splice off vs cs'.toList)[k]? = some u' := by
          simp only [World.cell?, hheap] at hu; simpa using hu
        rw [hsp k] at hk
        rw [splice_at (by rw [hvl]; omega) k, hvl] at hu0
        by_cases h1 : k < off
        · rw [if_pos h1] at hk hu0
          exact .inr ⟨bk b, k, .inr ⟨rfl, rfl, fun hc => absurd hc.2.1 (by have := h.n_le; unfold bk; omega)⟩, .blk b k i xs bt cells u' hb hk (by simp only [World.cell?, hcs]; simpa using hu0)⟩
        · rw [if_neg h1] at hk hu0
          by_cases h2 : k < off + new.length
          · rw [if_pos h2] at hk hu0
            rcases hown _ _ _ hk with ⟨rfl, hv0⟩ | ⟨hk0, s, hs, hbk, hgs, hv0⟩
            · exact .inl ⟨hv0 u' hu0, rfl⟩
            · have hke : k = off := by omega
              rw [hv0] at hu0; injection hu0 with hu0; subst hu0
              exact .inr ⟨s, 0, .inl ⟨rfl, hke, hs, rfl, _, hbk⟩, .slot s i xs hs hgs⟩
          · rw [if_neg h2] at hk hu0
            exact .inr ⟨bk b, k, .inr ⟨rfl, rfl, fun hc => absurd hc.2.1 (by have := h.n_le; unfold bk; omega)⟩, .blk b k i xs bt cells u' hb hk (by simp only [World.cell?, hcs]; simpa using hu0)⟩
      · rw [if_neg e, hgb] at hgs
        have hne : loc b2 ≠ loc b := fun e' => e (by rw [h.inj _ _ _ _ _ _ hgs hb e'])
        refine .inr ⟨bk b2, k, .inr ⟨rfl, rfl, fun hc => absurd hc.2.1 (by have := h.n_le; unfold bk; omega)⟩, .blk b2 k i xs ty c u' hgs hk ?_⟩
        simpa [World.cell?, setRow_other w (loc b) _ _ hne] using hu
  · exact setRow_other w (loc b) g _ (fun e => h.apart _ _ _ _ _ g b bt cells h1 h2 hb e.symm)
  · refine h.keep.trans (Wr1 := fun g o => g = loc b) ⟨rfl, rfl, rfl, by simp [World.setRow], fun k hk => ?_⟩ (fun g o hlt e => by subst e; exact (hFb o).2 hlt)
    by_cases e : k = loc b
    · subst e
      exact .inr ⟨cs', _, bt, (0, 0), (0, 0), hcs, hheap, by simpa using hnewlen, fun o ho => absurd rfl ho, .inl rfl⟩
    · exact .inl (setRow_other w (loc b) k _ e)
end
end Go.Rf
end
section
set_option linter.unusedSimpArgs false
set_option linter.unusedVariables false
namespace Go.Rf
open Go.RowKit
variable {E : Env} {P : Program}
section
variable {n : Nat} {F0 Wr : Nat → Nat → Prop} {w0 : Base} {loc : Nat → Nat} {F : Nat → Nat → Prop} {σ : St E.A} {a : Act} {w : World} {Q : Exit → Act → World → Prop}
variable {o : Oper} {t : Tree (Upd E)} {u : Upd E} {ctx : Ctx E}
theorem TVR_cells {x : TV E.A} {v : Value} (h : TVR loc F w x v) : All2 (LV loc F w) x.leaves v.cells.toList ∧ (∀ v' ∈ v.cells.toList, v'.oneCell' = true) := by
  cases x with
  | leaf l o =>
    have h1 := LV_one h
    have : v.cells = #[v] := by cases v <;> first | rfl | (simp [Value.oneCell'] at h1)
    rw [this]; exact ⟨⟨h, trivial⟩, by simp [h1]⟩
  | agg ls =>
    obtain ⟨cs, rfl, hc⟩ := h
    refine ⟨hc, fun v' hv' => ?_⟩
    obtain ⟨j, hj⟩ := List.getElem?_of_mem hv'
    obtain ⟨l, _, hl⟩ := hc.getR hj
    exact LV_one hl
theorem storeVar_ok {s : TypeId} {ty : Ty} (hty : TyOk P E s ty) {b off : Nat} {bt : TypeId} {cs : Array Value} {v : Value} (hsz : v.cells.size = ty.size) (hcs : w.heap[b]? = some (.cells cs bt (0, 0))) (hl : off + v.cells.size ≤ cs.size)
    (h1 : ∀ v' ∈ v.cells.toList, v'.oneCell' = true) : (storeVar s ⟨b, off, none⟩ v).run P w = .ok () (w.setRow b (splice off v.cells.toList cs.toList).toArray) := by
  have hs := sizeOf_ok (P := P) (w := w) hty
  have := run_storeCells_at P b off bt v.cells.toList 0 cs w hcs (by simpa using hl) h1
  simp only [Nat.add_zero] at this
  simp only [storeVar, Sem.run_bind, hs, Result.andThen_ok, hsz, ne_eq, not_true_eq_false, if_false]
  rw [this]
  rfl
theorem wp_skip_ {K : Act → World → Prop} {w' : World} (hr : (execOp a.eval o).run P w = .ok .skip w') (hk : K (a.put o.dst undef) w') : o.wp P a w K Q := by
  unfold Oper.wp; rw [hr]; exact hk
theorem nilFlags_ok : ∀ {ts : List LT} {l0s ls : List (Leaf E.A)} {vs : List Value}, coLeaves ts l0s = some ls → All2 (LV loc F w) l0s vs →
    (nilFlags l0s ls).map (·.1) = ls ∧ ∀ (k i : Nat) (xs : List (E.A i)), (nilFlags l0s ls)[k]? = some ((⟨.sl i, xs⟩ : Leaf E.A), true) → xs = [] ∧ ∀ v : Value, vs[k]? = some v → v = .slice none 0 0
  | [], [], ls, vs, h, _ => by
    simp only [coLeaves, Option.some.injEq] at h; subst h
    exact ⟨rfl, fun k i xs hk => by simp [nilFlags] at hk⟩
  | t :: ts, l0 :: l0s, ls, vs, h, ha => by
    cases vs with
    | nil => exact ha.elim
    | cons v vs =>
      simp only [coLeaves] at h
      split at h
      · rename_i l' ls' hl hls
        injection h with h; subst h
        obtain ⟨g1, g2⟩ := nilFlags_ok hls ha.2
        refine ⟨by simp only [nilFlags, List.map_cons, g1], fun k i xs hk => ?_⟩
        cases k with
        | succ k => simpa using g2 k i xs (by simpa [nilFlags] using hk)
        | zero =>
          simp only [nilFlags, List.getElem?_cons_zero, Option.some.injEq, Prod.mk.injEq] at hk
          obtain ⟨e1, e2⟩ := hk
          obtain ⟨t0, x0⟩ := l0
          cases t0 with
          | nil =>
            subst e1
            unfold coLeaf at hl
            split at hl
            · injection hl with hl
              injection hl with e3 e4
              injection e3 with e3; subst e3
              obtain rfl := eq_of_heq e4
              refine ⟨rfl, fun v' hv' => ?_⟩
              simp at hv'; subst hv'
              obtain ⟨m, hm⟩ := ha.1
              cases m with
              | zero => simp [VR] at hm
              | succ m => exact hm
            · split at hl
              · injection hl with hl
                injection hl with e3 _; cases e3
                exact absurd ‹(⟨LT.nil, x0⟩ : Leaf E.A) = _› (by intro h; injection h with h _; cases h)
              · cases hl
          | _ => cases e2
      · cases h
  | [], _ :: _, _, _, h, _ => by simp [coLeaves] at h
  | _ :: _, [], _, _, h, _ => by simp [coLeaves] at h
theorem store_ok (h : Rel n F0 Wr w0 loc F σ a w) (htt : TTOk P E ctx.tt) {s : TypeId} {x y : Operand} (ho : o.op = .store s x y) (hd : o.dst = none) (hr : (sStore ctx s x y).run σ = some t) (hu : t.reach u) :
    o.wp P a w (Goal n F0 Wr w0 (u ++ σ)) Q := by
  unfold sStore at hr
  split at hr
  · simp [Rd.run] at hr
  · rename_i ty hty
    obtain ⟨rv, h1, h2, h3, hx4⟩ := rdO_ok h hr
    split at h3
    · rename_i b off _
      have ea : a.eval x = .pointer (some ⟨loc b, off, none⟩) := h1
      simp only [Rd.run] at h3
      split at h3
      · rename_i bt cells hb
        obtain ⟨cs, hcs, hall, hFb⟩ := h.blk b bt cells hb
        obtain ⟨tv0, g1, g2, g3, g4, g5⟩ := rdT_ok h h3
        split at g3
        · simp [Rd.run] at g3
        · rename_i tv htv
          obtain ⟨k1, k2, k3⟩ := coTV_ok htv g1
          obtain ⟨c1, c2⟩ := TVR_cells k1
          have hclen : cells.length = cs.size := by have := hall.len; simpa using this
          have hvl : (a.eval y).cells.size = tv.leaves.length := by have := c1.len; simpa using this.symm
          have htl : tv.leaves.length = ty.size := by
            have := congrArg List.length k3
            rw [List.length_map] at this
            rw [this]; cases ty <;> rfl
          split at g3
          · rename_i hle
            have hrun := ex_store (P := P) (w := w) ho (w' := w.setRow (loc b) (splice off (a.eval y).cells.toList cs.toList).toArray) (by
              rw [ea]
              simp only [Instr.storeAt, Instr.sureAddr, Sem.run_bind, Sem.run_pure, Result.andThen_ok]
              exact storeVar_ok (htt _ _ hty) (by rw [hvl, htl]) hcs (by rw [hvl, ← hclen]; exact hle) c2)
            have hnm : ∀ {l : Leaf E.A}, l ∈ tv.leaves → ∀ b', l.names = some b' → ∃ ty cells, get σ (bk b') = .blk ty cells := by
              intro l hl b' hb'
              refine g2 b' (k2 b' ?_)
              cases tv with
              | leaf l0 o0 => simp [TV.leaves] at hl; subst hl; simp [TV.names, hb']
              | agg ls => exact List.mem_filterMap.2 ⟨l, hl, hb'⟩
            -- without anything owned
            have plain : ∀ {new : List (Leaf E.A × Bool)}, new.map (·.1) = tv.leaves → (∀ p ∈ new, p.2 = false) → Goal n F0 Wr w0 ((bk b, .blk bt (splice off new cells)) :: σ) a (w.setRow (loc b) (splice off (a.eval y).cells.toList cs.toList).toArray) := by
              intro new hm hp
              have hnl : new.length = tv.leaves.length := by rw [← hm, List.length_map]
              refine ⟨loc, F, h.write hb hcs (by rw [hnl]; exact hle) (by rw [hm]; exact c1) (fun p hp' b' hb' => hnm (by rw [← hm]; exact List.mem_map.2 ⟨p, hp', rfl⟩) b' hb') [] (.inl rfl) (fun k i xs hk => ?_)⟩
              have := hp _ (List.mem_of_getElem? hk)
              cases this
            split at g3
            · rename_i l own
              split at g3
              · rename_i i xs
                simp only [Rd.run, Option.some.injEq] at g3
                subst g3; simp only [Tree.reach] at hu; subst hu
                refine wp_skip_ hrun ?_
                rw [hd]
                cases hown : own with
                | false =>
                  subst hown
                  have : backS y false tv0 = ([] : Upd E) := by cases y <;> rfl
                  rw [this]
                  exact plain (new := [(⟨.sl i, xs⟩, false)]) rfl (by simp)
                | true =>
                  subst hown
                  have c1' : All2 (LV loc F w) [(⟨.sl i, xs⟩ : Leaf E.A)] (a.eval y).cells.toList := c1
                  have hy1 : (a.eval y).cells.toList = [a.eval y] := by
                    have h0 := LV_one (loc := loc) (F := F) (w := w) (l := ⟨.sl i, xs⟩) k1
                    cases hv : a.eval y <;> rw [hv] at h0 <;> first | rfl | (simp [Value.oneCell'] at h0)
                  have hnm1 : ∀ p ∈ [((⟨.sl i, xs⟩ : Leaf E.A), true)], ∀ b', p.1.names = some b' → ∃ ty cells, get σ (bk b') = .blk ty cells := by
                    intro p hp b' hb'; simp at hp; subst hp; cases hb'
                  cases y with
                  | tmp s' =>
                    obtain ⟨e1, e2⟩ := g4 s' rfl
                    rcases coTV_own htv g1 with e | ⟨rfl, ev, l0, o0, e, el⟩
                    · subst e
                      have hgs : get σ s' = .v (.leaf ⟨.sl i, xs⟩ true) := by
                        cases hh : get σ s' with
                        | v x0 => rw [hh] at e1; simp only [RV.tv] at e1; injection e1 with e1; rw [e1]
                        | kn b0 => rw [hh] at e1; simp only [RV.tv] at e1; injection e1 with e1; cases e1
                        | _ => rw [hh] at e1; cases e1
                      refine ⟨loc, F, h.write (new := [(⟨.sl i, xs⟩, true)]) hb hcs hle c1' hnm1 [(s', .v (TV.un (.leaf ⟨.sl i, xs⟩ true)))] (.inr ⟨s', _, e2, rfl, hgs⟩) (fun k i' xs' hk => ?_)⟩
                      cases k with
                      | succ k => simp at hk
                      | zero =>
                        simp at hk
                        obtain ⟨e1, e2'⟩ := hk
                        subst e1
                        obtain rfl := eq_of_heq e2'
                        refine .inr ⟨rfl, s', e2, rfl, hgs, ?_⟩
                        rw [hy1]; rfl
                    · subst e
                      have hgs : get σ s' = .v (.leaf l0 o0) := by
                        cases hh : get σ s' with
                        | v x0 => rw [hh] at e1; simp only [RV.tv] at e1; injection e1 with e1; rw [e1]
                        | kn b0 => rw [hh] at e1; simp only [RV.tv] at e1; injection e1 with e1; injection e1 with e1 _; subst e1; cases el
                        | _ => rw [hh] at e1; cases e1
                      refine ⟨loc, F, h.write (new := [(⟨.sl i, []⟩, true)]) hb hcs hle c1' hnm1 [(s', .v (TV.un (.leaf l0 o0)))] (.inr ⟨s', _, e2, rfl, hgs⟩) (fun k i' xs' hk => ?_)⟩
                      cases k with
                      | succ k => simp at hk
                      | zero =>
                        simp at hk
                        obtain ⟨e1, e2'⟩ := hk
                        subst e1
                        obtain rfl := eq_of_heq e2'
                        refine .inl ⟨rfl, fun v hv => ?_⟩
                        rw [hy1] at hv; simp at hv; rw [← hv]; exact ev
                  | const c =>
                    refine ⟨loc, F, h.write (new := [(⟨.sl i, xs⟩, true)]) hb hcs hle c1' hnm1 [] (.inl rfl) (fun k i' xs' hk => ?_)⟩
                    cases k with
                    | succ k => simp at hk
                    | zero =>
                      simp at hk
                      obtain ⟨e1, e2'⟩ := hk
                      subst e1
                      obtain rfl := eq_of_heq e2'
                      have hfree := g5 (by intro s e; cases e)
                      rcases coTV_own htv g1 with e | ⟨rfl, ev, _⟩
                      · subst e; cases hfree
                      · refine .inl ⟨rfl, fun v hv => ?_⟩
                        rw [hy1] at hv; simp at hv; rw [← hv]; exact ev
                  | func f =>
                    have hfree := g5 (by intro s e; cases e)
                    rcases coTV_own htv g1 with e | ⟨rfl, ev, _⟩
                    · subst e; cases hfree
                    · cases ev
                  | global g => simp [rdT, rdO, Rd.run] at h3
              · simp only [Rd.run, Option.some.injEq] at g3
                subst g3; simp only [Tree.reach] at hu; subst hu
                refine wp_skip_ hrun ?_
                rw [hd]
                exact plain (new := [(l, false)]) rfl (by simp)
            · rename_i ls
              simp only [Rd.run, Option.some.injEq] at g3
              subst g3; simp only [Tree.reach] at hu; subst hu
              refine wp_skip_ hrun ?_
              rw [hd]
              obtain ⟨l0s, hl0, hco⟩ : ∃ l0s, tv0 = .agg l0s ∧ ∃ ts, coLeaves ts l0s = some ls := by
                unfold coTV at htv
                split at htv
                · split at htv <;> cases htv
                · rename_i ts _ l0s
                  obtain ⟨x, hx, hy⟩ := Option.map_eq_some_iff.1 htv
                  injection hy with hy; subst hy
                  exact ⟨l0s, rfl, ts, hx⟩
                · cases htv
              subst hl0
              obtain ⟨ts, hco⟩ := hco
              obtain ⟨q1, q2⟩ := nilFlags_ok (loc := loc) (F := F) (w := w) hco (TVR_cells g1).1
              have hnl : (nilFlags l0s ls).length = ls.length := by have := congrArg List.length q1; simpa using this
              show Goal n F0 Wr w0 ((bk b, .blk bt (splice off (nilFlags l0s ls) cells)) :: σ) a _
              refine ⟨loc, F, h.write hb hcs (by rw [hnl]; exact hle) (by rw [q1]; exact c1) (fun p hp' b' hb' => hnm (by have : p.1 ∈ (nilFlags l0s ls).map (·.1) := List.mem_map.2 ⟨p, hp', rfl⟩; rw [q1] at this; exact this) b' hb') [] (.inl rfl) (fun k i xs hk => .inl (q2 k i xs hk))⟩
          · simp [Rd.run] at g3
      · simp [Rd.run] at h3
    · simp [Rd.run] at h3
end
end Go.Rf
end
section
set_option linter.unusedSimpArgs false
set_option linter.unusedVariables false
namespace Go.Rf
open Go.RowKit
variable {E : Env} {P : Program}
section
variable {n : Nat} {F0 Wr : Nat → Nat → Prop} {w0 : Base} {loc : Nat → Nat} {F : Nat → Nat → Prop} {σ : St E.A} {a : Act} {w : World} {Q : Exit → Act → World → Prop}
variable {o : Oper} {t : Tree (Upd E)} {u : Upd E} {ctx : Ctx E}
theorem cell_alloc {g k : Nat} {v : Value} {ob : Obj} (hc : w.cell? ⟨g, k, none⟩ = some v) : (w.alloc ob).cell? ⟨g, k, none⟩ = some v := by
  have hg : g < w.heap.size := World.block_lt_of_cell? w ⟨g, k, none⟩ hc
  simpa [World.cell?, Below.heap_alloc w ob g hg] using hc
theorem Rel.newBlk (h : Rel n F0 Wr w0 loc F σ a w) {d : Nat} (hd : d < n) (hnp : w0.np ≤ d) (hfree : get σ (bk d) = .any) {bt : TypeId} {cells : List (Leaf E.A × Bool)} {cs : Array Value} (hv : All2 (CV w.heap.size loc F w) (cells.map (·.1)) cs.toList)
    (hnm : ∀ p ∈ cells, ∀ b', p.1.names = some b' → ∃ ty cells, get σ (bk b') = .blk ty cells) (hnil : ∀ (k i : Nat) (xs : List (E.A i)), cells[k]? = some ((⟨.sl i, xs⟩ : Leaf E.A), true) → xs = [] ∧ cs[k]? = some (Value.slice none 0 0)) :
    Goal n F0 Wr w0 ((d, .v (.leaf ⟨.ptr, some (d, 0)⟩ false)) :: (bk d, .blk bt cells) :: σ) (a.put (some d) (.pointer (some ⟨w.heap.size, 0, none⟩))) (w.alloc (.cells cs bt)) := by
  have hds : d < a.tmps.size := by rw [h.size]; exact hd
  have hw0 : w0.heap.size ≤ w.heap.size := h.keep.size
  let loc' : Nat → Nat := fun b => if b = d then w.heap.size else loc b
  let F' : Nat → Nat → Prop := fun g o => F g o ∨ g = w.heap.size
  have hl0 : ∀ b, b ≠ d → loc' b = loc b := fun b hb => if_neg hb
  have hl1 : loc' d = w.heap.size := if_pos rfl
  have hnd : ∀ b, (∃ ty cells, get σ (bk b) = .blk ty cells) → b ≠ d := by
    rintro b ⟨ty, c, hc⟩ rfl; rw [hfree] at hc; cases hc
  have hmv : Mv F w F' (w.alloc (.cells cs bt)) := by
    intro g o u hf hc
    have hg : g < w.heap.size := World.block_lt_of_cell? w ⟨g, o, none⟩ hc
    exact ⟨cell_alloc hc, fun hh => hh.elim hf (fun e => by omega)⟩
  have hg : ∀ r, get ((d, RV.v (.leaf (⟨.ptr, some (d, 0)⟩ : Leaf E.A) false)) :: (bk d, .blk bt cells) :: σ) r = if d = r then .v (.leaf ⟨.ptr, some (d, 0)⟩ false) else if bk d = r then .blk bt cells else get σ r := fun r => by rw [get_cons, get_cons]
  have hdb : ∀ b, d ≠ bk b := fun b e => bk_ne_slot h.n_le hd e.symm
  have hgs : ∀ {s}, s < n → s ≠ d → get ((d, RV.v (.leaf (⟨.ptr, some (d, 0)⟩ : Leaf E.A) false)) :: (bk d, .blk bt cells) :: σ) s = get σ s := fun hs hne => by
    rw [hg, if_neg (Ne.symm hne), if_neg (bk_ne_slot h.n_le hs)]
  have hgb : ∀ b, b ≠ d → get ((d, RV.v (.leaf (⟨.ptr, some (d, 0)⟩ : Leaf E.A) false)) :: (bk d, .blk bt cells) :: σ) (bk b) = get σ (bk b) := fun b hb => by
    rw [hg, if_neg (hdb b), if_neg (fun e => hb (bk_inj e).symm)]
  have hgd : get ((d, RV.v (.leaf (⟨.ptr, some (d, 0)⟩ : Leaf E.A) false)) :: (bk d, .blk bt cells) :: σ) (bk d) = .blk bt cells := by
    rw [hg, if_neg (hdb d), if_pos rfl]
  have hloc : ∀ b ty c, get σ (bk b) = .blk ty c → loc b < w.heap.size := by
    intro b ty c hc
    obtain ⟨cs', h1, _⟩ := h.blk b ty c hc
    exact (Array.getElem?_eq_some_iff.1 h1).1
  have hnew : (w.alloc (.cells cs bt)).heap[w.heap.size]? = some (.cells cs bt (0, 0)) := heap_alloc_new w _
  have hlive : ∀ b, (∃ ty cells, get σ (bk b) = .blk ty cells) → ∃ ty c, get ((d, RV.v (.leaf (⟨.ptr, some (d, 0)⟩ : Leaf E.A) false)) :: (bk d, .blk bt cells) :: σ) (bk b) = .blk ty c := by
    intro b hb
    obtain ⟨ty, c, hc⟩ := hb
    exact ⟨ty, c, by rw [hgb b (hnd b ⟨ty, c, hc⟩)]; exact hc⟩
  have hh : ∀ r k i xs u, Hold loc' n ((d, RV.v (.leaf (⟨.ptr, some (d, 0)⟩ : Leaf E.A) false)) :: (bk d, .blk bt cells) :: σ) (a.put (some d) (.pointer (some ⟨w.heap.size, 0, none⟩))) (w.alloc (.cells cs bt)) r k i xs u →
      (xs = [] ∧ u = .slice none 0 0) ∨ Hold loc n σ a w r k i xs u := by
    intro r k i xs u hh
    cases hh with
    | slot s i xs hs hgs' =>
      by_cases e : r = d
      · subst e; rw [hg, if_pos rfl] at hgs'; injection hgs' with hgs'; injection hgs' with _ hgs'; cases hgs'
      · rw [hgs hs e] at hgs'; rw [put_get a d r _ hds, if_neg (Ne.symm e)]; exact .inr (.slot r i xs hs hgs')
    | tup s k i xs ts us u hs hgs' hk hv hu =>
      by_cases e : r = d
      · subst e; rw [hg, if_pos rfl] at hgs'; cases hgs'
      · rw [hgs hs e] at hgs'; rw [put_get a d r _ hds, if_neg (Ne.symm e)] at hv; exact .inr (.tup r k i xs ts us u hs hgs' hk hv hu)
    | blk b k i xs ty c u hgs' hk hu =>
      by_cases e : b = d
      · subst e; rw [hgd] at hgs'; injection hgs' with e1 e2; subst e1; subst e2
        obtain ⟨h1, h2⟩ := hnil k i xs hk
        rw [hl1] at hu
        simp only [World.cell?, hnew] at hu
        rw [show (if (none : Option Nat).isSome = true then none else cs[k]?) = cs[k]? from rfl, h2] at hu
        injection hu with hu
        exact .inl ⟨h1, hu.symm⟩
      · rw [hgb b e] at hgs'
        refine .inr (.blk b k i xs ty c u hgs' hk ?_)
        rw [hl0 b e] at hu
        simpa [World.cell?, Below.heap_alloc w _ _ (hloc b ty c hgs')] using hu
  have hob : ∀ {u : Value} {g : Nat} {m : Nat} {us : List Value} {i : Nat}, w.ownsRow 0 (E.elem i) (sz E i) u m us → u.ownBlock = some g → g < w.heap.size := fun ho hg => (ho.lt _ hg).2
  refine ⟨loc', F', by simp [Act.put, h.size], h.n_le, h.defers, fun s hs hs' => ?_, fun s hs => ?_, fun b ty c hc => ?_, fun b b' ty c ty' c' h1 h2 e => ?_, fun r hr b hb => ?_, fun r k i xs u hd' => ?_, fun r k i xs u r' k' i' xs' u' g h1 h2 e1 e2 => ?_, fun r k i xs u g b ty c h1 e1 hc => ?_, ?_, fun g o hf => ?_, fun g o hlt hf => ?_, fun g o hlt h1 h2 => .inl (h.still g o hlt h1 h2), fun b hb => (hl0 b (by omega)).trans (h.pin b hb)⟩
  · rw [hg, if_neg (by omega), if_neg (by unfold bk; omega)]; exact h.hi s hs hs'
  · by_cases e : s = d
    · subst e
      rw [hg, if_pos rfl, put_get a s s _ hds, if_pos rfl]
      show _ = Value.pointer (some ⟨loc' s, 0, none⟩)
      rw [hl1]
    · rw [hgs hs e, put_get a d s _ hds, if_neg (Ne.symm e)]
      exact RVR_mv hmv (fun b hb => hl0 b (hnd b (h.live s (.inl hs) b hb))) (h.slot s hs)
  · by_cases e : b = d
    · subst e
      rw [hgd] at hc; injection hc with e1 e2; subst e1; subst e2
      rw [hl1]
      refine ⟨cs, hnew, ?_, fun o => ⟨.inr rfl, fun hlt => by omega⟩⟩
      refine hv.mono_mem (fun l hl v hv => CV_mv hmv (fun b' hb' => ?_) hv)
      obtain ⟨p, hp, rfl⟩ := List.mem_map.1 hl
      exact hl0 b' (hnd b' (hnm p hp b' hb'))
    · rw [hgb b e] at hc
      rw [hl0 b e]
      obtain ⟨cs', h1, h2, h3⟩ := h.blk b ty c hc
      refine ⟨cs', (Below.heap_alloc w _ _ (hloc b ty c hc)).trans h1, h2.mono_mem (fun l hl v hv => CV_mv hmv (fun b' hb' => ?_) hv), fun o => ⟨.inl (h3 o).1, (h3 o).2⟩⟩
      refine hl0 b' (hnd b' (h.live (bk b) (.inr (by unfold bk; omega)) b' ?_))
      rw [hc]
      obtain ⟨p, hp, rfl⟩ := List.mem_map.1 hl
      exact List.mem_filterMap.2 ⟨p, hp, hb'⟩
  · by_cases f : b = d <;> by_cases f' : b' = d
    · exact f.trans f'.symm
    · subst f; rw [hgb b' f'] at h2
      rw [hl1, hl0 b' f'] at e
      have := hloc _ _ _ h2; omega
    · subst f'; rw [hgb b f] at h1
      rw [hl1, hl0 b f] at e
      have := hloc _ _ _ h1; omega
    · rw [hgb b f] at h1; rw [hgb b' f'] at h2
      rw [hl0 b f, hl0 b' f'] at e
      exact h.inj _ _ _ _ _ _ h1 h2 e
  · rw [hg] at hb
    by_cases f : d = r
    · rw [if_pos f] at hb
      simp [RV.names, TV.names, Leaf.names] at hb
      subst hb
      exact ⟨bt, cells, hgd⟩
    · rw [if_neg f] at hb
      by_cases f2 : bk d = r
      · rw [if_pos f2] at hb
        obtain ⟨p, hp, e⟩ := List.mem_filterMap.1 hb
        exact hlive b (hnm p hp b e)
      · rw [if_neg f2] at hb; exact hlive b (h.live r hr b hb)
  · rcases hh _ _ _ _ _ hd' with ⟨rfl, rfl⟩ | h0
    · exact ⟨⟨[], World.ownsRow_nil ..⟩, fun g hg => by simp [Value.ownBlock] at hg⟩
    · obtain ⟨⟨us, ho⟩, ht⟩ := h.own _ _ _ _ _ h0
      exact ⟨⟨us, ho.alloc _⟩, fun g hg o hlo => ⟨.inl (ht g hg o hlo).1, (ht g hg o hlo).2⟩⟩
  · rcases hh _ _ _ _ _ h1 with ⟨rfl, rfl⟩ | g1
    · simp [Value.ownBlock] at e1
    rcases hh _ _ _ _ _ h2 with ⟨rfl, rfl⟩ | g2
    · simp [Value.ownBlock] at e2
    exact h.sep _ _ _ _ _ _ _ _ _ _ g g1 g2 e1 e2
  · rcases hh _ _ _ _ _ h1 with ⟨rfl, rfl⟩ | g1
    · simp [Value.ownBlock] at e1
    by_cases f : b = d
    · subst f; rw [hl1]
      obtain ⟨⟨us, ho⟩, _⟩ := h.own _ _ _ _ _ g1
      have := hob ho e1; omega
    · rw [hgb b f] at hc; rw [hl0 b f]; exact h.apart _ _ _ _ _ g b ty c g1 e1 hc
  · exact h.keep.trans (Wr1 := fun _ _ => False) (Keep.below ((Below.refl _ _).alloc (Nat.le_refl _) _)) (fun _ _ _ f => f.elim)
  · have hsz' : (w.alloc (.cells cs bt)).heap.size = w.heap.size + 1 := by simp
    rcases hf with hf | rfl
    · have := h.dom g o hf; omega
    · omega
  · rcases hf with hf | rfl
    · exact h.old g o hlt hf
    · omega
theorem zero_ok {me : Nat} : ∀ {ls : List LT} {zs : List Value}, All2 zeroOk ls zs → All2 (CV (E := E) me loc F w) ((ls.map (zeroCell E)).map (·.1)) zs ∧ (∀ (k i : Nat) (xs : List (E.A i)), (ls.map (zeroCell E))[k]? = some ((⟨.sl i, xs⟩ : Leaf E.A), true) → xs = [] ∧ zs[k]? = some (Value.slice none 0 0)) ∧ ∀ p ∈ ls.map (zeroCell E), p.1.names = none
  | [], [], _ => ⟨trivial, by simp, by simp⟩
  | l :: ls, z :: zs, h => by
    obtain ⟨h1, h2, h3⟩ := zero_ok h.2
    have hz := h.1
    have key : CV (E := E) me loc F w (zeroLeaf E l) z ∧ (zeroLeaf E l).names = none := by
      cases l <;> simp only [zeroOk] at hz <;> first
        | exact hz.elim
        | (subst hz; exact ⟨CV_of ⟨1, rfl⟩, rfl⟩)
        | (subst hz; exact ⟨CV_of (nil_sl _), rfl⟩)
        | (subst hz; exact ⟨.inl rfl, rfl⟩)
    refine ⟨⟨key.1, h1⟩, fun k i xs hk => ?_, fun p hp => ?_⟩
    · cases k with
      | zero =>
        simp only [List.map_cons, List.getElem?_cons_zero, Option.some.injEq, zeroCell, Prod.mk.injEq] at hk
        obtain ⟨e1, e2⟩ := hk
        cases l <;> simp only [zeroLeaf] at e1 <;> try (injection e1 with e1 _; cases e1; done)
        rename_i j
        injection e1 with e1 e3
        injection e1 with e1
        subst e1
        obtain rfl := eq_of_heq e3
        simp only [zeroOk] at hz
        exact ⟨rfl, by simp [hz]⟩
      | succ k => simpa using h2 k i xs (by simpa using hk)
    · simp only [List.map_cons] at hp
      rcases List.mem_cons.1 hp with rfl | hp
      · exact key.2
      · exact h3 p hp
theorem alloc_ok (h : Rel n F0 Wr w0 loc F σ a w) (htt : TTOk P E ctx.tt) (hnp : w0.np = ctx.np) {s : TypeId} (ho : o.op = .alloc s) (hr : (sAlloc ctx o.dst s).run σ = some t) (hu : t.reach u) (hn : ∀ d, o.dst = some d → d < n) :
    o.wp P a w (Goal n F0 Wr w0 (u ++ σ)) Q := by
  unfold sAlloc at hr
  split at hr
  · rename_i d ty hd hty
    have hdn := hn d hd
    cases hble : Nat.ble ctx.np d with
    | false => rw [hble] at hr; simp [Rd.run] at hr
    | true =>
    have hpd : w0.np ≤ d := by rw [hnp]; exact Nat.le_of_ble_eq_true hble
    rw [hble] at hr
    simp only [cond_true, Rd.run] at hr
    split at hr
    · rename_i hfree
      simp only [Rd.run, Option.some.injEq] at hr
      subst hr; simp only [Tree.reach] at hu; subst hu
      obtain ⟨info, z, hi, hz, hzs⟩ : ∃ info z, P.info? s = some info ∧ info.zero = some z ∧ All2 zeroOk ty.shape z.cells.toList := by
        have := htt _ _ hty
        cases ty with
        | leaf l =>
          obtain ⟨d, info, z, hud, hd', hi, hs, hz, hzo⟩ := this
          refine ⟨info, z, hi, hz, ?_⟩
          cases l <;> simp only [zeroOk] at hzo <;> first | exact hzo.elim | (subst hzo; exact ⟨rfl, trivial⟩)
        | agg ls fs =>
          obtain ⟨flds, info, zs, hud, hi, hs, hz, hzo, _⟩ := this
          exact ⟨info, _, hi, hz, hzo⟩
      obtain ⟨h1, h2, h3⟩ := zero_ok (E := E) (me := w.heap.size) (loc := loc) (F := F) (w := w) hzs
      refine wp_val (v := .pointer (some ⟨w.heap.size, 0, none⟩)) (w' := w.alloc (.cells z.cells s)) (ex_alloc ho ?_) ?_
      · simp only [Instr.alloc, zeroValue, typeInfo, Sem.run_bind, run_program, Result.andThen_ok, hi, Sem.run_pure, hz]
        rfl
      · rw [hd]
        refine h.newBlk hdn hpd hfree h1 (fun p hp b' hb' => ?_) (fun k i xs hk => ?_)
        · rw [h3 p hp] at hb'; cases hb'
        · obtain ⟨e1, e2⟩ := h2 k i xs hk
          exact ⟨e1, by simpa using e2⟩
    · simp [Rd.run] at hr
  · simp [Rd.run] at hr
theorem box_ok (h : Rel n F0 Wr w0 loc F σ a w) (htt : TTOk P E ctx.tt) (hnp : w0.np = ctx.np) {s : TypeId} {x : Operand} (ho : o.op = .box s x) (hr : (sBox ctx o.dst s x).run σ = some t) (hu : t.reach u) (hn : ∀ d, o.dst = some d → d < n) :
    o.wp P a w (Goal n F0 Wr w0 (u ++ σ)) Q := by
  unfold sBox at hr
  split at hr
  · rename_i d ty hd hty
    have hdn := hn d hd
    obtain ⟨tv0, g1, g2, g3, g4, g5⟩ := rdT_ok h hr
    split at g3
    · rename_i tv htv
      cases hble : Nat.ble ctx.np d with
      | false => rw [hble] at g3; simp [Rd.run] at g3
      | true =>
      have hpd : w0.np ≤ d := by rw [hnp]; exact Nat.le_of_ble_eq_true hble
      rw [hble] at g3
      simp only [cond_true, Rd.run] at g3
      split at g3
      · rename_i hfree
        simp only [Rd.run, Option.some.injEq] at g3
        subst g3; simp only [Tree.reach] at hu; subst hu
        obtain ⟨k1, k2, k3⟩ := coTV_ok htv g1
        obtain ⟨c1, c2⟩ := TVR_cells k1
        refine wp_val (v := .pointer (some ⟨w.heap.size, 0, none⟩)) (w' := w.alloc (.cells (a.eval x).cells s)) (ex_box ho rfl) ?_
        rw [hd]
        refine h.newBlk hdn hpd hfree (by rw [List.map_map]; simpa [Function.comp_def] using c1.mono (fun _ _ hx => CV_of (me := w.heap.size) hx)) (fun p hp b' hb' => ?_) (fun k i xs hk => ?_)
        · obtain ⟨l, hl, rfl⟩ := List.mem_map.1 hp
          refine g2 b' (k2 b' ?_)
          cases tv with
          | leaf l0 o0 => simp [TV.leaves] at hl; subst hl; simpa [TV.names] using hb'
          | agg ls => exact List.mem_filterMap.2 ⟨l, hl, hb'⟩
        · rw [List.getElem?_map] at hk
          obtain ⟨l, _, e⟩ := Option.map_eq_some_iff.1 hk
          injection e with _ e; cases e
      · simp [Rd.run] at g3
    · simp [Rd.run] at g3
  · simp [Rd.run] at hr
end
end Go.Rf
end
section
set_option linter.unusedSimpArgs false
set_option linter.unusedVariables false
namespace Go.Rf
open Go.RowKit
variable {E : Env} {P : Program}
section
variable {n : Nat} {F0 Wr : Nat → Nat → Prop} {w0 : Base} {loc : Nat → Nat} {F : Nat → Nat → Prop} {σ : St E.A} {a : Act} {w : World} {Q : Exit → Act → World → Prop}
variable {o : Oper} {t : Tree (Upd E)} {u : Upd E} {ctx : Ctx E}
theorem fold_set (off : Nat) : ∀ (vs : List Value) (j : Nat) (cs : Array Value), off + j + vs.length ≤ cs.size → (vs.zipIdx j).foldl (fun cs (p : Value × Nat) => cs.setIfInBounds (off + p.2) p.1) cs = (splice (off + j) vs cs.toList).toArray
  | [], j, cs, h => by simp [splice]
  | v :: vs, j, cs, h => by
    simp only [List.length_cons] at h
    rw [List.zipIdx_cons, List.foldl_cons, fold_set off vs (j + 1) _ (by simp; omega)]
    congr 1
    apply List.ext_getElem?
    intro k
    rw [splice_at (by simp; omega), splice_at (by simp; omega)]
    simp only [Array.toList_setIfInBounds, List.getElem?_set, List.length_cons, Array.length_toList]
    by_cases h1 : k < off + j
    · rw [if_pos (by omega), if_pos h1, if_neg (by omega)]
    · by_cases h2 : k = off + j
      · subst h2
        have e1 : off + j < off + (j + 1) := by omega
        have e3 : off + j < off + j + (vs.length + 1) := by omega
        have e4 : off + j < cs.size := by omega
        simp [e1, e3, e4]
      · rw [if_neg (by omega), if_neg h1]
        by_cases h3 : k < off + j + (vs.length + 1)
        · rw [if_pos (by omega), if_pos h3, show k - (off + j) = (k - (off + (j + 1))) + 1 by omega, List.getElem?_cons_succ]
        · rw [if_neg (by omega), if_neg h3, if_neg (by omega)]
theorem fill_one (off : Nat) (v : Value) (cs : Array Value) (h : off + v.cells.size ≤ cs.size) : v.cells.zipIdx.foldl (fun cs (c, j) => cs.setIfInBounds (off + j) c) cs = (splice off v.cells.toList cs.toList).toArray := by
  rw [← Array.foldl_toList]
  have := fold_set off v.cells.toList 0 cs (by simpa using h)
  simpa [Array.toList_zipIdx] using this
/-- The operands of a list, read. -/
theorem rdL_ok (h : Rel n F0 Wr w0 loc F σ a w) {α : Type} : ∀ {xs : List Operand} {k : List (RV E.A) → Rd E.A α} {t : α}, (rdL xs k).run σ = some t →
    ∃ rvs, All2 (fun rv x => RVR loc F w rv (a.eval x) ∧ Live σ rv ∧ (∀ s, x = .tmp s → rv = get σ s ∧ (s < n ∨ rv = .any)) ∧ ((∀ s, x ≠ .tmp s) → rv.free)) rvs xs ∧ (k rvs).run σ = some t
  | [], k, t, hr => ⟨[], trivial, hr⟩
  | x :: xs, k, t, hr => by
    simp only [rdL] at hr
    obtain ⟨rv, h1, h2, h3, h4, h5⟩ := rdO_ok h hr
    obtain ⟨rvs, g1, g2⟩ := rdL_ok h h3
    exact ⟨rv :: rvs, ⟨⟨h1, h2, h4, h5⟩, g1⟩, g2⟩
theorem tvs_ok : ∀ {rvs : List (RV E.A)} {xs : List (TV E.A)} {os : List Operand}, tvs rvs = some xs → All2 (fun rv x => RVR loc F w rv (a.eval x) ∧ Live σ rv ∧ (∀ s, x = .tmp s → rv = get σ s ∧ (s < n ∨ rv = .any)) ∧ ((∀ s, x ≠ .tmp s) → rv.free)) rvs os →
    All2 (fun tv x => TVR loc F w tv (a.eval x) ∧ Live σ (.v tv) ∧ (∀ s, x = .tmp s → (get σ s).tv = some tv ∧ s < n) ∧ ((∀ s, x ≠ .tmp s) → (RV.v tv).free)) xs os
  | [], xs, os, h, hr => by
    simp [tvs] at h; subst h
    cases os with
    | nil => trivial
    | cons _ _ => exact hr.elim
  | rv :: rvs, xs, os, h, hr => by
    cases os with
    | nil => exact hr.elim
    | cons x os =>
      simp only [tvs] at h
      split at h
      · rename_i tv tvl h1 h2
        injection h with h; subst h
        obtain ⟨⟨r1, r2, r3, r4⟩, r5⟩ := hr
        obtain ⟨a1, a2⟩ := tv_ok h1 r1 r2
        refine ⟨⟨a1, a2, fun s e => ?_, fun e => ?_⟩, tvs_ok h2 r5⟩
        · obtain ⟨e1, e2⟩ := r3 s e
          refine ⟨e1 ▸ h1, ?_⟩
          rcases e2 with e2 | e2
          · exact e2
          · rw [e2] at h1; cases h1
        · have := r4 e
          cases rv with
          | kn b => simp only [RV.tv] at h1; injection h1 with h1; subst h1; rfl
          | v x => simp only [RV.tv] at h1; injection h1 with h1; subst h1; exact this
          | _ => cases h1
      · cases h
theorem fill_ok {tt : TT} (htt : TTOk P E tt) {flds : Array Field} {fs : List (Nat × TypeId)} (hfs : flds.toList.map (fun f => (f.offset, f.type)) = fs) {places : Array (Nat × Nat)} (hp : ∀ (i : Nat) fld, flds[i]? = some fld → ∃ info, P.info? fld.type = some info ∧ places[i]? = some (fld.offset, info.size)) :
    ∀ (is : List Nat) (xs : List (TV E.A)) (os : List Operand) (ls r : List (Leaf E.A)) (cs : Array Value), is.length = os.length → All2 (fun tv x => TVR loc F w tv (a.eval x) ∧ Live σ (.v tv)) xs os → fillAgg tt fs (pairUp is xs) ls = some r → All2 (LV loc F w) ls cs.toList → (∀ l ∈ ls, ∀ b, l.names = some b → ∃ ty c, get σ (bk b) = .blk ty c) →
      ∃ cs', Instr.fill (places[·]?) cs ((is.zip os).map fun p => (p.1, a.eval p.2)) = some cs' ∧ All2 (LV loc F w) r cs'.toList ∧ (∀ l ∈ r, ∀ b, l.names = some b → ∃ ty c, get σ (bk b) = .blk ty c)
  | [], xs, os, ls, r, cs, hl, hx, hf, hc, hn => by
    cases os with
    | cons _ _ => simp at hl
    | nil =>
      cases xs with
      | cons _ _ => exact hx.elim
      | nil => simp [pairUp, fillAgg] at hf; subst hf; exact ⟨cs, by simp [Instr.fill], hc, hn⟩
  | i :: is, xs, os, ls, r, cs, hl, hx, hf, hc, hn => by
    cases os with
    | nil => simp at hl
    | cons o os =>
      cases xs with
      | nil => exact hx.elim
      | cons x xs =>
        obtain ⟨⟨hx1, hx2⟩, hx3⟩ := hx
        simp only [pairUp, fillAgg] at hf
        split at hf
        · rename_i off ft hfi
          split at hf
          · rename_i y hy
            obtain ⟨ty, hty, hco⟩ := Option.bind_eq_some_iff.1 hy
            split at hf
            · rename_i hle
              obtain ⟨k1, k2, k3⟩ := coTV_ok hco hx1
              obtain ⟨c1, c2⟩ := TVR_cells k1
              obtain ⟨fld, e1, e2, e3, _⟩ := flds_at hfs hfi
              obtain ⟨info, hi, hpl⟩ := hp i fld e1
              have hvl : (a.eval o).cells.size = y.leaves.length := by have := c1.len; simpa using this.symm
              have hsz : info.size = ty.size := by
                have := htt _ _ hty
                have e3' : fld.type = ft := e3
                rw [e3'] at hi
                cases ty with
                | leaf l => obtain ⟨d, info', z, hud, hd, hi', hs, _⟩ := this; rw [hi] at hi'; injection hi' with hi'; subst hi'; exact hs
                | agg l f => obtain ⟨flds', info', zs, hud, hi', hs, _⟩ := this; rw [hi] at hi'; injection hi' with hi'; subst hi'; exact hs
              have hyl : y.leaves.length = ty.size := by
                have := congrArg List.length k3
                rw [List.length_map] at this
                rw [this]; cases ty <;> rfl
              have hcl : ls.length = cs.size := by have := hc.len; simpa using this
              have e2' : fld.offset = off := e2
              have := fill_ok htt hfs hp is xs os (splice off y.leaves ls) r (splice off (a.eval o).cells.toList cs.toList).toArray (by simpa using hl) hx3 hf (splice_all hc c1) (fun l hl' b hb => by
                unfold splice at hl'
                rcases List.mem_append.1 hl' with hl' | hl'
                · rcases List.mem_append.1 hl' with hl' | hl'
                  · exact hn l (List.mem_of_mem_take hl') b hb
                  · refine hx2 b (k2 b ?_)
                    cases y with
                    | leaf l0 o0 => simp [TV.leaves] at hl'; subst hl'; simpa [TV.names] using hb
                    | agg ls => exact List.mem_filterMap.2 ⟨l, hl', hb⟩
                · exact hn l (List.mem_of_mem_drop hl') b hb)
              obtain ⟨cs', h1, h2⟩ := this
              refine ⟨cs', ?_, h2⟩
              simp only [List.zip_cons_cons, List.map_cons, Instr.fill, hpl, e2', hvl, hyl, hsz]
              rw [if_neg (by simp only [ne_eq, not_true_eq_false, Bool.or_eq_true, decide_eq_true_eq]; simp; omega)]
              rw [fill_one off (a.eval o) cs (by rw [hvl, ← hcl]; exact hle)]
              exact h1
            · cases hf
          · cases hf
        · cases hf
end
end Go.Rf
end
section
set_option linter.unusedSimpArgs false
set_option linter.unusedVariables false
namespace Go.Rf
open Go.RowKit
variable {E : Env} {P : Program}
/-- append to a row that is owned: of what was there only the row's spare room is written. -/
theorem append_run (w : World) (t tx ty e : TypeId) (i : TypeInfo) (z : Value) (size bytes : Nat) (ht : P.underlying t = some (.slice e)) (hi : P.info? e = some i) (hz : i.zero = some z)
    (hsize : i.size = size) (hby : i.bytes = bytes) (hzs : z.cells.size = size) (hsz : 0 < size) (v : Value) (n : Nat) (xs : List Value) (hown : w.ownsRow 0 e size v n xs)
    (x : Value) (m : Nat) (news : List Value) (hs : Src P size tx x m news w)
    (h63 : n + m ≤ maxLen) (hbytes : (n + m) * bytes ≤ 140737488355328) :
    ∃ v' w', (Builtin.append_ #[t, tx] ty #[v, x]).run P w = .ok v' w' ∧ w'.ownsRow 0 e size v' (n + m) (xs ++ news) ∧ Keep (fun g o => v.ownBlock = some g ∧ n * size ≤ o) w w' ∧ (v'.ownBlock = v.ownBlock ∨ v'.ownBlock = some w.heap.size) := by
  subst hsize
  subst hby
  have hl := hs.newsLen
  have hsmall : n + m ≤ 9223372036854775807 := by simp only [maxLen] at h63; omega
  have hlen : (xs ++ news).length = (n + m) * i.size := by rw [List.length_append, hown.1, hl, Nat.add_mul]
  have grown : ∀ (old : Nat), old < n + m →
      (w.drew.alloc (.cells ((xs ++ news).toArray ++ Builtin.zeroCells z.cells (grownCap w (n + m) old e - (n + m))) e)).ownsRow 0 e i.size
        (.slice (some ⟨w.heap.size, 0, none⟩) (n + m) (grownCap w (n + m) old e)) (n + m) (xs ++ news) ∧
      ∀ Wr, Keep Wr w (w.drew.alloc (.cells ((xs ++ news).toArray ++ Builtin.zeroCells z.cells (grownCap w (n + m) old e - (n + m))) e)) := by
    intro old ho
    have hge := grownCap_ge w (n + m) old e
    have hcm : grownCap w (n + m) old e ≤ maxLen := grownCap_le_maxLen w (n + m) old e h63
    refine ⟨⟨hlen, .inr ⟨w.heap.size, _, _, rfl, Nat.zero_le _, heap_alloc_new w.drew _, hge, hcm, ?_, ?_⟩⟩, fun Wr => ⟨rfl, rfl, rfl, by simp, fun k hk => .inl (Below.heap_alloc w.drew _ k hk)⟩⟩
    · rw [Array.size_append, List.size_toArray, size_zeroCells, hzs, hlen, ← Nat.add_mul]
      congr 1
      omega
    · simp only [Array.toList_append]
      rw [← hlen]
      exact List.take_left
  rcases hown.2 with ⟨rfl, rfl⟩ | ⟨g, cap, cur, rfl, hbg, hg, hnc, hcm, hcs, htake⟩
  · have hx : xs = [] := List.eq_nil_of_length_eq_zero (by simpa using hown.1)
    subst hx
    by_cases hm : m = 0
    · subst hm
      have hn : news = [] := List.eq_nil_of_length_eq_zero (by simpa using hl)
      subst hn
      refine ⟨.slice none 0 0, w, ?_, World.ownsRow_nil w 0 e i.size, Keep.refl _ _, Or.inl rfl⟩
      rcases hs.kind with ⟨e', hk⟩ | hk <;> simp [Builtin.append_, run_underlying ht, run_underlying hk, sizeOf, typeInfo, hi, hs.len, hs.cells]
    · have hr := run_append_grow_src (P := P) w t tx ty e i z ht hi hz none 0 0 [] (run_firstCells_none w.drew i.size 0 0 0) x m news hs (by omega) (by omega) (growslice_fits (by omega) hbytes)
      have hgr := grown 0 (by omega)
      simp only [Nat.zero_add, List.nil_append] at hgr hr ⊢
      exact ⟨_, _, hr, hgr.1, hgr.2 _, Or.inr rfl⟩
  · by_cases hroom : n + m ≤ cap
    · have hfit : n * i.size + news.length ≤ cur.size := by rw [hl, hcs, ← Nat.add_mul]; exact Nat.mul_le_mul_right _ hroom
      have hst := run_storeCells_at P g (n * i.size) e news 0 cur w hg (by simpa using hfit) hs.one
      simp only [Nat.add_zero] at hst
      have hr : (Builtin.append_ #[t, tx] ty #[.slice (some ⟨g, 0, none⟩) n cap, x]).run P w = .ok (.slice (some ⟨g, 0, none⟩) (n + m) cap) (w.setRow g (cur.toList.take (n * i.size) ++ news ++ cur.toList.drop (n * i.size + news.length)).toArray) := by
        rcases hs.kind with ⟨e', hk⟩ | hk <;> simp [Builtin.append_, run_underlying ht, run_underlying hk, sizeOf, typeInfo, hi, hs.len, hroom, hs.cells, Addr.add_lit, hst]
      have hsz2 : (cur.toList.take (n * i.size) ++ news ++ cur.toList.drop (n * i.size + news.length)).toArray.size = cur.size := by
        simp only [List.size_toArray, List.length_append, List.length_take, List.length_drop, Array.length_toList]; omega
      refine ⟨_, _, hr, ⟨hlen, .inr ⟨g, cap, _, rfl, hbg, setRow_heap w g cur _ e _ hg, hroom, hcm, by rw [hsz2, hcs], ?_⟩⟩, ⟨rfl, rfl, rfl, by simp [World.setRow], fun k hk => ?_⟩, Or.inl rfl⟩
      · rw [htake, ← hlen]
        exact List.take_left
      · by_cases e' : k = g
        · subst e'
          refine .inr ⟨cur, _, e, (0, 0), (0, 0), hg, setRow_heap w k cur _ e _ hg, hsz2, fun o ho => ?_, .inl rfl⟩
          have ho' : o < n * i.size := by
            rcases Nat.lt_or_ge o (n * i.size) with h | h
            · exact h
            · exact absurd ⟨by simp [Value.ownBlock], h⟩ ho
          have := splice_at (off := n * i.size) (new := news) (cells := cur.toList) (by simpa using hfit) o
          rw [if_pos ho'] at this
          simpa [splice] using this
        · exact .inl (setRow_other w g k _ e')
    · have holds : ∀ j u, xs[j]? = some u → w.drew.cell? ((⟨g, 0, none⟩ : Addr).add j) = some u := fun j u hj => hown.cells (g := g) rfl j u hj
      have hr := run_append_grow_src (P := P) w t tx ty e i z ht hi hz (some ⟨g, 0, none⟩) n cap xs (run_firstCells_some w.drew i.size n ⟨g, 0, none⟩ n cap xs hown.1 holds) x m news hs (by omega) (by omega) (growslice_fits (by omega) hbytes)
      have hgr := grown cap (by omega)
      exact ⟨_, _, hr, hgr.1, hgr.2 _, Or.inr rfl⟩
section
variable {n : Nat} {F0 Wr : Nat → Nat → Prop} {w0 : Base} {loc : Nat → Nat} {F : Nat → Nat → Prop} {σ : St E.A} {a : Act} {w : World} {Q : Exit → Act → World → Prop}
variable {o : Oper} {t : Tree (Upd E)} {u : Upd E} {ctx : Ctx E}
theorem all_fuel : ∀ {ls : List (Leaf E.A)} {vs : List Value}, All2 (fun l v => ∃ k, VR E F w k l v) ls vs → ∃ k, All2 (VR E F w k) ls vs
  | [], [], _ => ⟨0, trivial⟩
  | l :: ls, v :: vs, h => by
    obtain ⟨⟨k, hk⟩, h2⟩ := h
    obtain ⟨m, hm⟩ := all_fuel h2
    exact ⟨max k m, VR_fuel (Nat.le_max_left _ _) hk, hm.mono (fun _ _ hx => VR_fuel (Nat.le_max_right _ _) hx)⟩
/-- A new owned row in a slot. -/
theorem Rel.fresh (h : Rel n F0 Wr w0 loc F σ a w) {d : Nat} (hd : d < n) {i : Nat} {xs : List (E.A i)} {v : Value} {us : List Value} {w' : World} {wr : Nat → Nat → Prop} (hk : Keep wr w w')
    (hwr : ∀ g o, wr g o → F g o ∧ (g < w0.heap.size → Wr g o) ∧ (∀ r k i xs u, Hold loc n σ a w r k i xs u → u.ownBlock ≠ some g) ∧ (∀ b ty c, get σ (bk b) = .blk ty c → loc b ≠ g))
    (hown : w'.ownsRow 0 (E.elem i) (sz E i) v xs.length us) (hblk : ∀ g, v.ownBlock = some g → w.heap.size ≤ g ∨ ((∀ o, F g o → wr g o) ∧ (∀ o, xs.length * sz E i ≤ o → wr g o)))
    (hvr : ∀ F', (∀ g o, ¬ F g o → g < w.heap.size → ¬ F' g o) → Mv F w F' w' → ∃ k, All2 (VR E F' w' k) (flat E i xs) us) :
    Goal n F0 Wr w0 ((d, .v (.leaf ⟨.sl i, xs⟩ true)) :: σ) (a.put (some d) v) w' := by
  have hw0 : w0.heap.size ≤ w.heap.size := h.keep.size
  let F' : Nat → Nat → Prop := fun g o => (F g o ∧ v.ownBlock ≠ some g) ∨ (v.ownBlock = some g ∧ xs.length * sz E i ≤ o)
  have hvb : ∀ g, v.ownBlock = some g → g < w'.heap.size := fun g hg => (hown.lt g hg).2
  have hold : ∀ g o, g < w.heap.size → F' g o → F g o := by
    rintro g o hlt (hf | ⟨hg, ho⟩)
    · exact hf.1
    · rcases hblk g hg with hge | ⟨_, h2⟩
      · omega
      · exact (hwr g o (h2 o ho)).1
  have hmv : Mv F w F' w' := by
    intro g o u hf hc
    have hg : g < w.heap.size := World.block_lt_of_cell? w ⟨g, o, none⟩ hc
    exact ⟨hk.cell (fun hw => hf (hwr g o hw).1) hc, fun hh => hf (hold g o hg hh)⟩
  -- what others own is not written
  have hoth : ∀ r k i' xs' u g, Hold loc n σ a w r k i' xs' u → u.ownBlock = some g → v.ownBlock ≠ some g ∧ w'.heap[g]? = w.heap[g]? := by
    intro r k i' xs' u g hh hg
    obtain ⟨⟨us', ho'⟩, _⟩ := h.own _ _ _ _ _ hh
    have hlt := (ho'.lt g hg).2
    have hnw : ∀ o, ¬ wr g o := fun o hw => (hwr g o hw).2.2.1 _ _ _ _ _ hh hg
    refine ⟨fun e => ?_, ?_⟩
    · rcases hblk g e with hge | ⟨_, hw⟩
      · omega
      · exact hnw _ (hw _ (Nat.le_refl _))
    · exact hk.same hlt hnw
  have hvar : ∀ b ty c, get σ (bk b) = .blk ty c → v.ownBlock ≠ some (loc b) ∧ w'.heap[loc b]? = w.heap[loc b]? := by
    intro b ty c hb
    obtain ⟨cs, h1, _⟩ := h.blk b ty c hb
    have hlt : loc b < w.heap.size := (Array.getElem?_eq_some_iff.1 h1).1
    have hnw : ∀ o, ¬ wr (loc b) o := fun o hw => (hwr (loc b) o hw).2.2.2 b ty c hb rfl
    refine ⟨fun e => ?_, ?_⟩
    · rcases hblk _ e with hge | ⟨_, hw⟩
      · omega
      · exact hnw _ (hw _ (Nat.le_refl _))
    · exact hk.same hlt hnw
  have h2 : Rel n F0 Wr w0 loc F' σ a w' := by
    refine h.world hmv (fun r k i' xs' u g hh hg => ⟨(hoth _ _ _ _ _ g hh hg).2, fun o ho => .inl ⟨((h.own _ _ _ _ _ hh).2 g hg o ho).1, (hoth _ _ _ _ _ g hh hg).1⟩⟩)
      (fun b ty c hb => ⟨(hvar b ty c hb).2, fun o => .inl ⟨((h.blk b ty c hb).choose_spec.2.2 o).1, (hvar b ty c hb).1⟩⟩)
      (h.keep.trans hk (fun g o hlt hw => (hwr g o hw).2.1 hlt)) (fun g o hf => ?_) (fun g o hlt hf => h.old g o hlt (hold g o (by omega) hf)) (fun g o hlt hf hn => ?_)
    · rcases hf with hf | hf
      · exact Nat.lt_of_lt_of_le (h.dom g o hf.1) hk.size
      · exact hvb g hf.1
    · have hF := h.still g o hlt hf hn
      refine .inl ⟨hF, fun e => ?_⟩
      rcases hblk g e with hge | ⟨h1, _⟩
      · omega
      · exact hn ((hwr g o (h1 o hF)).2.1 hlt)
  obtain ⟨k, hall⟩ := hvr F' (fun g o hf hlt hf' => hf (hold g o hlt hf')) hmv
  have hlv : LV loc F' w' (⟨.sl i, xs⟩ : Leaf E.A) v := by
    obtain ⟨hl, hcase⟩ := hown
    rcases hcase with ⟨rfl, hn0⟩ | ⟨g, cap, cur, rfl, _, hg, hnc, _, hcs, htake⟩
    · have hx : xs = [] := List.eq_nil_of_length_eq_zero hn0
      subst hx; exact nil_sl i
    · refine ⟨k + 1, some ⟨g, 0, none⟩, cap, us, rfl, hnc, hall, fun j u hj => ⟨_, rfl, rfl, ?_, ?_⟩⟩
      · rw [← htake, List.getElem?_take] at hj
        split at hj
        · simp only [World.cell?, hg, Nat.zero_add]
          simpa using hj
        · cases hj
      · have hjl : j < us.length := (List.getElem?_eq_some_iff.1 hj).1
        rintro (⟨_, hf⟩ | ⟨_, hf⟩)
        · exact hf rfl
        · have hf' : xs.length * sz E i ≤ 0 + j := hf
          omega
  have hx : ∀ {k' i' xs' u'}, XHold (RV.v (.leaf (⟨.sl i, xs⟩ : Leaf E.A) true)) v k' i' xs' u' → k' = 0 ∧ u' = v ∧ xs'.length * sz E i' = xs.length * sz E i ∧ ∃ us, w'.ownsRow 0 (E.elem i') (sz E i') v xs'.length us := by
    rintro k' i' xs' u' (⟨h1, h2, h3⟩ | ⟨_, ts, us', h1, _⟩)
    · injection h1 with h1; injection h1 with h1 _; injection h1 with e1 e2
      injection e1 with e1; subst e1
      obtain rfl := eq_of_heq e2
      exact ⟨h2, h3, rfl, us, hown⟩
    · cases h1
  refine ⟨loc, F', h2.putX hd hlv (by simp [RV.names, TV.names, Leaf.names]) (fun k' i' xs' u' hh => ?_) (fun k1 i1 x1 u1 k2 i2 x2 u2 g h1 h2' e1 e2 => (hx h1).1.trans (hx h2').1.symm) (fun k1 i1 x1 u1 r k2 i2 x2 u2 g h1 hh _ e1 e2 => ?_) (fun k1 i1 x1 u1 g b ty c h1 e1 hb => ?_)⟩
  · obtain ⟨_, rfl, e, us', ho⟩ := hx hh
    refine ⟨⟨us', ho⟩, fun g hg o ho' => ?_⟩
    refine ⟨.inr ⟨hg, by omega⟩, fun hlt => ?_⟩
    rcases hblk g hg with hge | ⟨_, h3⟩
    · omega
    · exact (hwr g o (h3 o (by omega))).2.1 hlt
  · obtain ⟨_, rfl, _⟩ := hx h1
    have hh0 : Hold loc n σ a w r k2 i2 x2 u2 := by
      cases hh with
      | slot t i xs ht hg => exact .slot _ _ _ ht hg
      | tup t k i xs ts us u ht hg hk hv hu => exact .tup _ _ _ _ _ _ _ ht hg hk hv hu
      | blk b k i xs ty cells u hg hk hu =>
        refine .blk _ _ _ _ _ _ _ hg hk ?_
        have := (hvar b ty cells hg).2
        simpa [World.cell?, this] using hu
    exact (hoth _ _ _ _ _ g hh0 e2).1 e1
  · obtain ⟨_, rfl, _⟩ := hx h1
    intro e; subst e
    exact (hvar b ty c hb).1 e1
end
end Go.Rf
end
section
set_option linter.unusedSimpArgs false
set_option linter.unusedVariables false
namespace Go.Rf
open Go.RowKit
variable {E : Env} {P : Program}
section
variable {n : Nat} {F0 Wr : Nat → Nat → Prop} {w0 : Base} {loc : Nat → Nat} {F : Nat → Nat → Prop} {σ : St E.A} {a : Act} {w : World} {Q : Exit → Act → World → Prop}
variable {o : Oper} {t : Tree (Upd E)} {u : Upd E} {ctx : Ctx E}
theorem str_cells (s : List UInt8) (k : Nat) : ∀ (ss : List UInt8) (xs : List (E.A 0)), xs.length = ss.length → (∀ (j : Nat) (x : E.A 0) (b : UInt8), xs[j]? = some x → ss[j]? = some b → E.leaves 0 x = [⟨.int .u8, (b.toNat : Int)⟩]) →
    All2 (VR E F w 1) (flat E 0 xs) (ss.map fun b => Value.int .u8 b.toNat)
  | [], xs, hl, _ => by
    have : xs = [] := List.eq_nil_of_length_eq_zero (by simpa using hl)
    subst this; trivial
  | b :: ss, xs, hl, hb => by
    cases xs with
    | nil => simp at hl
    | cons x xs =>
      have e : flat E 0 (x :: xs) = E.leaves 0 x ++ flat E 0 xs := by simp [flat]
      rw [e, hb 0 x b rfl rfl]
      exact ⟨rfl, str_cells s k ss xs (by simpa using hl) (fun j x' b' hx hb' => hb (j + 1) x' b' (by simpa using hx) (by simpa using hb'))⟩
/-- The core of append. -/
theorem append_core (h : Rel n F0 Wr w0 loc F σ a w) {d : Nat} (hd : d < n) {t tx ty : TypeId} {i : Nat} {xs ys : List (E.A i)} {v x : Value} {news : List Value} (hT : P.underlying t = some (.slice (E.elem i))) (hE : ElemOk P E i)
    (hs : Src P (sz E i) tx x ys.length news w) (hys : ∀ F' w', Mv F w F' w' → ∃ k, All2 (VR E F' w' k) (flat E i ys) news)
    (hv : LV loc F w (⟨.sl i, xs⟩ : Leaf E.A) v)
    (hown : ∃ us, w.ownsRow 0 (E.elem i) (sz E i) v xs.length us) (htip : ∀ g, v.ownBlock = some g → ∀ o, xs.length * sz E i ≤ o → F g o ∧ (g < w0.heap.size → Wr g o))
    (hno : ∀ g, v.ownBlock = some g → (∀ r k i xs u, Hold loc n σ a w r k i xs u → u.ownBlock ≠ some g) ∧ (∀ b ty c, get σ (bk b) = .blk ty c → loc b ≠ g))
    (hbound : (xs.length + ys.length) * E.bytes i ≤ 140737488355328) (h63 : xs.length + ys.length ≤ maxLen) :
    ∃ v' w', (Builtin.append_ #[t, tx] ty #[v, x]).run P w = .ok v' w' ∧ Goal n F0 Wr w0 ((d, .v (.leaf ⟨.sl i, xs ++ ys⟩ true)) :: σ) (a.put (some d) v') w' := by
  obtain ⟨info, z, hi, hsz, hby, hz, hzs, _⟩ := hE
  obtain ⟨us, hown⟩ := hown
  obtain ⟨v', w', hr, ho', hk, hat⟩ := append_run w t tx ty (E.elem i) info z (sz E i) (E.bytes i) hT hi hz hsz hby hzs (List.length_pos_iff.2 (E.some0 i)) v xs.length us hown x ys.length news hs h63 hbound
  refine ⟨v', w', hr, h.fresh hd (xs := xs ++ ys) (us := us ++ news) hk (fun g o hw => ?_) (by rw [List.length_append]; exact ho') (fun g hg => ?_) (fun F' _ hm => ?_)⟩
  · obtain ⟨h1, h2⟩ := htip g hw.1 o hw.2
    exact ⟨h1, h2, (hno g hw.1).1, (hno g hw.1).2⟩
  · rcases hat with e | e
    · rw [e] at hg
      refine .inr ⟨fun o hf => ⟨hg, ?_⟩, fun o ho => ⟨hg, ?_⟩⟩
      · -- what is forbidden in its own block is its tip
        rcases Nat.lt_or_ge o (xs.length * sz E i) with hlt | hge
        · exfalso
          obtain ⟨m', hv'⟩ : ∃ m', VR E F w m' ⟨.sl i, xs⟩ v := hv
          obtain ⟨k, ad, c, us', rfl, e1, hc, hall, hcell⟩ := VRsl hv'
          subst e1
          have hl := hall.len
          rw [flat_len] at hl
          obtain ⟨ad', rfl, hsp, _, hf'⟩ := hcell o _ (List.getElem?_eq_getElem (by omega))
          simp only [Value.ownBlock, Option.some.injEq] at hg
          rcases hown.2 with ⟨e2, _⟩ | ⟨g', cap, cur, e2, _⟩
          · cases e2
          · injection e2 with e2 _ _; injection e2 with e2; subst e2
            simp only at hg; subst hg
            exact hf' (by simpa using hf)
        · exact hge
      · have : xs.length * sz E i ≤ (xs ++ ys).length * sz E i := Nat.mul_le_mul_right _ (by simp)
        omega
    · rw [e] at hg; injection hg with hg; exact .inl (by omega)
  · obtain ⟨k2, h2⟩ := hys F' w' hm
    obtain ⟨m', hv'⟩ : ∃ m', VR E F w m' ⟨.sl i, xs⟩ v := hv
    obtain ⟨k, ad, c, us', rfl, e1, hc, hall, hcell⟩ := VRsl hv'
    have hus : us' = us := by
      subst e1
      have hl := hall.len
      rw [flat_len] at hl
      rcases hown.2 with ⟨e2, hn0⟩ | ⟨g', cap, cur, e2, _, hg, _, _, _, htake⟩
      · have h1 : us = [] := List.eq_nil_of_length_eq_zero (by rw [hown.1, hn0]; simp)
        have h2 : us' = [] := List.eq_nil_of_length_eq_zero (by rw [← hl, hn0]; simp)
        rw [h1, h2]
      · injection e2 with e2 _ _; subst e2
        have hlu := hown.1
        apply List.ext_getElem?
        intro j
        by_cases hj : j < us'.length
        · have h3 := List.getElem?_eq_getElem hj
          obtain ⟨ad', e3, hsp, hcl, _⟩ := hcell j _ h3
          injection e3 with e3; subst e3
          simp only [World.cell?, hg, Nat.zero_add] at hcl
          rw [h3, ← htake, List.getElem?_take, if_pos (by omega)]
          simpa using hcl.symm
        · rw [List.getElem?_eq_none (by omega), List.getElem?_eq_none (by omega)]
    subst hus
    have h1 : All2 (VR E F' w' k) (flat E i xs) us' := hall.mono (fun _ _ hx => VR_mv hm hx)
    refine ⟨max k k2, ?_⟩
    rw [flat_app]
    exact (h1.mono (fun _ _ hx => VR_fuel (Nat.le_max_left _ _) hx)).app (h2.mono (fun _ _ hx => VR_fuel (Nat.le_max_right _ _) hx))
theorem ex_append {x y : Operand} {tt ut : TypeId} {c : Call} {v : Value} {w' : World} (ho : o.op = .call c) (hc : c.callee = .builtin .append) (ha : c.args.toList = [x, y]) (ht : c.argTypes.toList = [tt, ut])
    (hv : (Builtin.append_ #[tt, ut] o.type #[a.eval x, a.eval y]).run P w = .ok v w') : (execOp a.eval o).run P w = .ok (.value v) w' := by
  obtain ⟨callee, args, argTypes⟩ := c
  simp only at hc ha ht
  subst hc
  have ea : args = #[x, y] := by apply Array.ext'; simpa using ha
  have et : argTypes = #[tt, ut] := by apply Array.ext'; simpa using ht
  subst ea; subst et
  unfold execOp; rw [ho]
  simp only [resolve, invoke, builtin, Sem.run_bind, Sem.run_pure, Result.andThen_ok, List.map_toArray, List.map_cons, List.map_nil, hv]
theorem append_ok (h : Rel n F0 Wr w0 loc F σ a w) (htt : TTOk P E ctx.tt) {c : Call} (ho : o.op = .call c) (hc : c.callee = .builtin .append) (hr : (sAppend ctx o.dst c).run σ = some t) (hu : t.reach u) (hn : ∀ d, o.dst = some d → d < n) :
    o.wp P a w (Goal n F0 Wr w0 (u ++ σ)) Q := by
  unfold sAppend at hr
  split at hr
  · rename_i x y t1 u1 d ha hat hd
    have hdn := hn d hd
    obtain ⟨a0, g1, g2, g3, g4, g5⟩ := rdT_ok h hr
    obtain ⟨b0, k1, k2, k3, k4, k5⟩ := rdT_ok h g3
    split at k3
    · rename_i i xs t2 ys ow e1 e2
      obtain ⟨ty1, hty1, hco1⟩ := Option.bind_eq_some_iff.1 e1
      obtain ⟨ty2, hty2, hco2⟩ := Option.bind_eq_some_iff.1 e2
      obtain ⟨hv1', hnm1, hsh1⟩ := coTV_ok hco1 g1
      obtain ⟨hv2, hnm2, hsh2⟩ := coTV_ok hco2 k1
      have hv1 : LV loc F w (⟨.sl i, xs⟩ : Leaf E.A) (a.eval x) := hv1'
      have hT : P.underlying t1 = some (.slice (E.elem i)) ∧ ElemOk P E i := by
        have := htt _ _ hty1
        cases ty1 with
        | leaf l =>
          simp [TV.leaves, Ty.shape] at hsh1
          subst hsh1
          obtain ⟨d, info, z, hud, hd', _⟩ := this
          simp only [descOk] at hd'
          obtain ⟨rfl, he, _⟩ := hd'
          exact ⟨hud, he⟩
        | agg ls fs => simp [coTV] at hco1; cases a0 <;> simp at hco1
      -- behind the flag's taking away
      have hclr : Rel n F0 Wr w0 loc F (backS x true a0 ++ σ) a w := by
        cases x with
        | tmp s =>
          obtain ⟨f1, f2⟩ := g4 s rfl
          cases hh : get σ s with
          | v x0 => rw [hh] at f1; simp only [RV.tv] at f1; injection f1 with f1; subst f1; exact h.clear hh f2
          | kn b0 =>
            rw [hh] at f1; simp only [RV.tv] at f1; injection f1 with f1; subst f1
            rcases coTV_own hco1 g1 with e | ⟨_, _, l, o, e, el⟩
            · cases e
            · injection e with e _; subst e; cases el
          | _ => rw [hh] at f1; cases f1
        | _ => exact h
      have hsrc : (∃ us, w.ownsRow 0 (E.elem i) (sz E i) (a.eval x) xs.length us) ∧ (∀ g, (a.eval x).ownBlock = some g → ∀ o, xs.length * sz E i ≤ o → F g o ∧ (g < w0.heap.size → Wr g o)) ∧
          (∀ g, (a.eval x).ownBlock = some g → (∀ r k i xs u, Hold loc n (backS x true a0 ++ σ) a w r k i xs u → u.ownBlock ≠ some g) ∧ (∀ b ty c, get (backS x true a0 ++ σ) (bk b) = .blk ty c → loc b ≠ g)) := by
        rcases coTV_own hco1 g1 with e | ⟨rfl, ev, _⟩
        · subst e
          cases x with
          | tmp s =>
            obtain ⟨f1, f2⟩ := g4 s rfl
            have hgs : get σ s = .v (.leaf ⟨.sl i, xs⟩ true) := by
              cases hh : get σ s with
              | v x0 => rw [hh] at f1; simp only [RV.tv] at f1; injection f1 with f1; rw [f1]
              | kn b0 => rw [hh] at f1; simp only [RV.tv] at f1; injection f1 with f1; cases f1
              | _ => rw [hh] at f1; cases f1
            have hd0 : Hold loc n σ a w s 0 i xs (a.tmps.getD s undef) := .slot s i xs f2 hgs
            obtain ⟨ho1, ho2⟩ := h.own _ _ _ _ _ hd0
            refine ⟨ho1, ho2, fun g hg => ⟨fun r k i' xs' u' hh e => ?_, fun b ty c hb => ?_⟩⟩
            · have hgc : ∀ r, get (backS (.tmp s) true (.leaf ⟨.sl i, xs⟩ true) ++ σ) r = if s = r then .v (.leaf ⟨.sl i, xs⟩ false) else get σ r := fun r => get_cons _ _ _ _
              have hold : Hold loc n σ a w r k i' xs' u' ∧ r ≠ s := by
                cases hh with
                | slot t' _ _ ht hg' =>
                  rw [hgc] at hg'
                  by_cases e3 : s = r
                  · rw [if_pos e3] at hg'; injection hg' with hg'; injection hg' with _ hg'; cases hg'
                  · rw [if_neg e3] at hg'; exact ⟨.slot _ _ _ ht hg', Ne.symm e3⟩
                | tup t' _ _ _ ts us _ ht hg' hk hv hu' =>
                  rw [hgc] at hg'
                  by_cases e3 : s = r
                  · rw [if_pos e3] at hg'; cases hg'
                  · rw [if_neg e3] at hg'; exact ⟨.tup _ _ _ _ _ _ _ ht hg' hk hv hu', Ne.symm e3⟩
                | blk b _ _ _ ty cells _ hg' hk hu' =>
                  rw [hgc, if_neg (fun e => bk_ne_slot h.n_le f2 e.symm)] at hg'
                  exact ⟨.blk _ _ _ _ _ _ _ hg' hk hu', bk_ne_slot h.n_le f2⟩
              exact hold.2 (h.sep _ _ _ _ _ _ _ _ _ _ g hold.1 hd0 e hg).1
            · have hgc : get (backS (.tmp s) true (.leaf ⟨.sl i, xs⟩ true) ++ σ) (bk b) = get σ (bk b) := by
                rw [show backS (.tmp s) true (.leaf ⟨.sl i, xs⟩ true) ++ σ = (s, RV.v (TV.leaf (⟨.sl i, xs⟩ : Leaf E.A) false)) :: σ from rfl, get_cons, if_neg (fun e => bk_ne_slot h.n_le f2 e.symm)]
              rw [hgc] at hb
              exact h.apart _ _ _ _ _ g b ty c hd0 hg hb
          | const cv => have := g5 (by intro s e; cases e); cases this
          | func f => have := g5 (by intro s e; cases e); cases this
          | global g => have := g5 (by intro s e; cases e); cases this
        · rw [ev]
          exact ⟨⟨[], World.ownsRow_nil ..⟩, fun g hg => by simp [Value.ownBlock] at hg, fun g hg => by simp [Value.ownBlock] at hg⟩
      obtain ⟨s1, s2, s3⟩ := hsrc
      have fin : ∀ {ys' : List (E.A i)} {news : List Value}, Src P (sz E i) u1 (a.eval y) ys'.length news w → (∀ F' w', Mv F w F' w' → ∃ k, All2 (VR E F' w' k) (flat E i ys') news) → (xs.length + ys'.length) * E.bytes i ≤ 140737488355328 →
          u = (d, .v (.leaf ⟨.sl i, xs ++ ys'⟩ true)) :: backS x true a0 → o.wp P a w (Goal n F0 Wr w0 (u ++ σ)) Q := by
        intro ys' news hs hy hb hu'
        have h63 : xs.length + ys'.length ≤ maxLen := by
          obtain ⟨_, _, _, _, _, _, _, hpos⟩ := hT.2
          have := Nat.le_mul_of_pos_right (xs.length + ys'.length) hpos
          simp only [maxLen]; omega
        obtain ⟨v', w', hrun, hgoal⟩ := append_core (ty := o.type) hclr hdn hT.1 hT.2 hs hy hv1 s1 s2 s3 hb h63
        refine wp_val (ex_append ho hc ha hat hrun) ?_
        rw [hd, hu']
        exact hgoal
      split at k3
      · rename_i j ys
        split at k3
        · rename_i hji
          subst hji
          simp only [Rd.run, Option.some.injEq] at k3
          subst k3
          obtain ⟨hb, hu⟩ := hu
          simp only [Tree.reach] at hu
          obtain ⟨m, hv2⟩ : ∃ m, VR E F w m ⟨.sl j, ys⟩ (a.eval y) := hv2
          obtain ⟨k, ad, cp, us, rfl, e3, hcp, hall, hcell⟩ := VRsl hv2
          have hT2 : ∃ e', P.underlying u1 = some (.slice e') := by
            have := htt _ _ hty2
            cases ty2 with
            | leaf l =>
              simp [TV.leaves, Ty.shape] at hsh2
              subst hsh2
              obtain ⟨d, info, z, hud, hd', _⟩ := this
              simp only [descOk] at hd'
              obtain ⟨rfl, _⟩ := hd'
              exact ⟨_, hud⟩
            | agg ls fs => simp [coTV] at hco2; cases b0 <;> simp at hco2
          obtain ⟨e', hT2⟩ := hT2
          have hlen := hall.len
          rw [flat_len] at hlen
          have h1 : ∀ u ∈ us, u.oneCell' = true := by
            intro u0 hu0
            obtain ⟨j', hj'⟩ := List.getElem?_of_mem hu0
            obtain ⟨l, _, hl⟩ := hall.getR hj'
            exact VR_one hl
          refine fin (ys' := ys) (news := us) ?_ (fun F' w' hm => ⟨k, hall.mono (fun _ _ hx => VR_mv hm hx)⟩) hb hu
          rw [e3]
          cases ad with
          | none =>
            have hus : us = [] := by
              cases us with
              | nil => rfl
              | cons u0 us => obtain ⟨ad, e, _⟩ := hcell 0 u0 rfl; cases e
            subst hus
            have hy0 : ys = [] := by
              cases ys with
              | nil => rfl
              | cons y0 ys =>
                have := List.length_pos_iff.2 (E.some0 j)
                have h0 : (y0 :: ys).length * sz E j = 0 := hlen
                have := Nat.mul_pos (show 0 < (y0 :: ys).length by simp) this
                unfold sz at h0
                omega
            subst hy0
            exact Src.ofNil w hT2 cp
          | some ad =>
            refine Src.ofSlice w hT2 ad ys.length cp us hlen.symm (fun j' u0 hj' => ?_) h1
            obtain ⟨ad', e, hsp, hcl, _⟩ := hcell j' u0 hj'
            injection e with e; subst e
            obtain ⟨bl, of, sp⟩ := ad
            simp only at hsp; subst hsp
            rw [addr_add]; exact hcl
        · simp [Rd.run] at k3
      · split at k3
        · rename_i hji
          subst hji
          simp only [Rd.run, Option.some.injEq] at k3
          subst k3
          obtain ⟨hb, hu⟩ := hu
          simp only [Tree.reach] at hu
          have e3 := LVstr (loc := loc) hv2
          rename_i ys
          have hT2 : P.underlying u1 = some .string := by
            have := htt _ _ hty2
            cases ty2 with
            | leaf l =>
              simp [TV.leaves, Ty.shape] at hsh2
              subst hsh2
              obtain ⟨d, info, z, hud, hd', _⟩ := this
              simp only [descOk] at hd'
              subst hd'
              exact hud
            | agg ls fs => simp [coTV] at hco2; cases b0 <;> simp at hco2
          have hs0 : sz E 0 = 1 := by simp [sz, E.shape0]
          have hb' : (xs.length + (E.fbs ys).length) * E.bytes 0 ≤ 140737488355328 := by rw [E.fbs_len]; exact hb
          refine fin (ys' := E.fbs ys) (news := byteCells ⟨(show List UInt8 from ys).toArray⟩) ?_ (fun F' w' hm => ⟨1, ?_⟩) hb' hu
          · rw [e3, hs0, E.fbs_len]
            have := Src.ofString w hT2 ⟨(show List UInt8 from ys).toArray⟩
            rw [size_mk] at this
            exact this
          · exact str_cells ys 0 ys (E.fbs ys) (E.fbs_len ys) (fun j x b hx hb => E.fbs_at ys j x b hx hb)
        · simp [Rd.run] at k3
      · simp [Rd.run] at k3
    · simp [Rd.run] at k3
  · simp [Rd.run] at hr
end
end Go.Rf
end
